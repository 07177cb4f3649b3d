/- GPkB: several texts in one: packed: Encode; SameBytes. packed laws: SameBytes, has, works; the reference's Width. The reference of layer 10: Width. The reference of layer 10: Encode. The walk of PackedKeeps. The walk of PackedEncodes. Conditions: those each theorem names. -/
import Derived.Test.YtpnkjfjkeoleaaaGPkA
import Derived.Test.YtpnkjfjkeoleaaaGMem
/-! packed: Encode; SameBytes. -/
set_option linter.unusedVariables false
set_option maxRecDepth 100000
namespace Go.Proofs.Ytpnkjfjkeoleaaa
open Go.RowKit HK

def u8v (v : Nat) : Value := .int .u8 (v : Int)
theorem infoU8 : (Try.prog.info? 5).map (fun i => (i.zero, i.size, i.bytes)) = some (some (.int .u8 0), 1, 1) := by kernel_rfl
theorem at_u8 {l : List Nat} {k : Nat} {u : Value} (h : (l.map u8v)[k]? = some u) : ∃ v, l[k]? = some v ∧ u = .int .u8 (v : Int) := by
  rw [List.getElem?_map] at h
  obtain ⟨v, hv, rfl⟩ := Option.map_eq_some_iff.1 h
  exact ⟨v, hv, rfl⟩

set_option maxHeartbeats 1000000 in
theorem penc_walk (w : World) (b g n wd N : Nat) (hn : n ≤ 1048576) (h64 : wd ≤ 64) (h : PR w b g n wd N) :
    Calls Try.prog 40 #[.pointer (some ⟨b, 0, none⟩)] w fun e w' => ∃ v, e = .returned v ∧ w'.ownsRow w.heap.size 5 1 v (5 + (n * wd + 7) / 8) ((hdr n wd ++ bytesN N ((n * wd + 7) / 8)).map u8v) ∧ Below w.heap.size w w' := by
  have hc0 : w.cell? ⟨b, 0, none⟩ = some (.int .i64 n) := h.1.cell 0
  have hc1 : w.cell? ⟨b, 1, none⟩ = some (.int .i64 wd) := h.1.cell 1
  have hc2 : w.cell? ⟨b, 2, none⟩ = some (.slice (some ⟨g, 0, none⟩) ((n * wd + 63) / 64) ((n * wd + 63) / 64)) := h.1.cell 2
  have H := Lib.hid h; clear h
  have hp : n * wd ≤ 67108864 := by
    have := Nat.mul_le_mul hn h64
    omega
  have hpi : (n : Int) * (wd : Int) ≤ 67108864 := by rw [cast_prod]; omega
  have hpi0 : 0 ≤ (n : Int) * (wd : Int) := by rw [cast_prod]; omega
  have hb : b < w.heap.size := H.out.1.lt
  have hg : g < w.heap.size := H.out.2.lt
  have hk0 : ∀ o, (w.alloc o).cell? ⟨b, 0, none⟩ = some (.int .i64 n) := fun o => (World.cell?_alloc_lt w o ⟨b, 0, none⟩ hb).trans hc0
  have hk1 : ∀ o, (w.alloc o).cell? ⟨b, 1, none⟩ = some (.int .i64 wd) := fun o => (World.cell?_alloc_lt w o ⟨b, 1, none⟩ hb).trans hc1
  obtain ⟨i0, hi, hz0, hz1, hz2⟩ := info_parts infoU8
  go_enter Try.func40, Try.ntmps40
  go_wp2
  go_region
  go_wp2
  go_quiet (fail)
  go_wp2
  clear hk0 hk1
  go_loopw [3, 47] (fun o i wr => ∃ k : Nat, k ≤ (n * wd + 7) / 8 ∧ i = .int .i64 k ∧ wr.ownsRow w.heap.size 5 1 o (5 + k) ((hdr n wd ++ bytesN N k).map u8v) ∧ Below w.heap.size w wr) (fun _ i _ => (n * wd + 7) / 8 - (intOf i).toNat)
  case atStart =>
    refine ⟨0, Nat.zero_le _, rfl, ?_, bel_drewN ((Below.refl _ _).alloc (Nat.le_refl _) _).drew _⟩
    have h0 := World.ownsRow_lit (e := 5) (size := 1) (base := w.heap.size) w #[Value.int .u8 ((n : Int) % 256), .int .u8 ((n : Int) / 256 % 256), .int .u8 ((n : Int) / 65536), .int .u8 ((n : Int) / 16777216), .int .u8 (wd : Int)] 5 (Nat.le_refl _) (by decide) rfl
    have e : (hdr n wd ++ bytesN N 0).map u8v = [Value.int .u8 ((n : Int) % 256), .int .u8 ((n : Int) / 256 % 256), .int .u8 ((n : Int) / 65536), .int .u8 ((n : Int) / 16777216), .int .u8 (wd : Int)] := by
      simp only [hdr, bytesN, List.range_zero, List.map_nil, List.append_nil, List.map_cons, u8v, List.cons.injEq, Value.int.injEq, true_and, and_true]
      omega
    rw [e]
    exact h0
  case round =>
    obtain ⟨k, hk, rfl, hown, hB⟩ := hrel
    by_cases hlt : k < (n * wd + 7) / 8
    · have hd0 := (hB.cell (p := ⟨b, 2, none⟩) hb).trans hc2
      have hd1 : wr.cell? ⟨g, k / 8, none⟩ = some (.int .u64 (word N (k / 8))) := (hB.cell (p := ⟨g, k / 8, none⟩) hg).trans ((H.out.2.cell (k / 8)).trans (wordsA_at N _ _ (by omega)))
      have HVB : Hid (((word N (k / 8) : Nat) : Int) / 2 ^ (k % 8 * 8) % 256 = ((N / 2 ^ (8 * k) % 256 : Nat) : Int)) := Lib.hid (by
        rw [div_pow_cast, ← word_byte N k]; simp)
      go_wp2_with (at_builtin; refine wpList_append_own _ rfl _ _ 26 rfl w.heap.size 5 i0 (.int .u8 0) 1 1 Try.underlying26 hi hz0 hz1 hz2 rfl (by decide) _ _ _ rfl (hown.alloc _) ⟨wr.heap.size, 0, none⟩ 1 1 [_] rfl rfl (cell_one_new _ _ _) one_oneCell (by unfold maxLen; omega) (by omega) (by have := hB.size; simp; omega) ?_; intro v' w1 hown1 hgrow1 _)
      have hB1 := bel_app hB (Nat.le_refl _) hown hgrow1
      have HO := Lib.hid hown1; clear hown1 hgrow1 hown hd0 hd1
      go_wp2
      go_roundw
      case rel =>
        refine ⟨k + 1, by omega, by go_num, ?_, hB1⟩
        have h1 := HO.out
        rw [HVB.out] at h1
        rw [bytesN_succ, ← List.append_assoc, List.map_append]
        exact h1
      case measure => simp [intOf]; omega
    · obtain rfl : k = (n * wd + 7) / 8 := by omega
      go_wp2
      go_ret
      exact ⟨_, rfl, hown, hB⟩
end Go.Proofs.Ytpnkjfjkeoleaaa

/-! packed laws: SameBytes, has, works; the reference's Width. -/
set_option linter.unusedVariables false
namespace Go.Proofs.Ytpnkjfjkeoleaaa
open Go.RowKit HK

theorem eq_of_all {α : Type} (la lb : List α) (k n : Nat) (ha : la.length = n) (hb : lb.length = n) (h : la.take n = lb.take n) : la = lb := by
  rw [List.take_of_length_le (by omega), List.take_of_length_le (by omega)] at h
  exact h
theorem ne_of_at {la lb : List Nat} {k a b : Nat} (ha : la[k]? = some a) (hb : lb[k]? = some b) (h : a ≠ b) : ¬ la = lb := by
  rintro rfl
  rw [ha] at hb
  injection hb with hb
  exact h hb
theorem take_ext {la lb : List Nat} {k a b : Nat} (ha : la[k]? = some a) (hb : lb[k]? = some b) (h : a = b) (ht : la.take k = lb.take k) : la.take (k + 1) = lb.take (k + 1) := by
  rw [List.take_add_one, List.take_add_one, ha, hb, ht, h]

theorem PR.drewN {w : World} {b g n wd N : Nat} (h : PR w b g n wd N) (k : Nat) : PR (w.drewN k) b g n wd N := h

theorem bel_quiet {w w' : World} (B : Nat) (h : ∃ k, w' = w.drewN k) : Below B w w' := by
  obtain ⟨k, rfl⟩ := h
  exact bel_drewN (Below.refl _ _) k
theorem size_quiet {w w' : World} (h : ∃ k, w' = w.drewN k) : w'.heap.size = w.heap.size := by
  obtain ⟨k, rfl⟩ := h
  rfl
theorem PR.quiet {w w' : World} {b g n wd N : Nat} (h : PR w b g n wd N) (hq : ∃ k, w' = w.drewN k) : PR w' b g n wd N := by
  obtain ⟨k, rfl⟩ := hq
  exact h
theorem PR.below {w w' : World} {b g n wd N B : Nat} (h : PR w b g n wd N) (hb : Below B w w') (h1 : b < B) (h2 : g < B) : PR w' b g n wd N := ⟨h.1.below hb h1, h.2.below hb h2⟩
theorem sl_lit {w : World} {t : TypeId} {cs : Array Value} {xs : List Value} (hx : cs.toList = xs) : Sl (w.alloc (.cells cs t)) (w.heap.size + 1) (some ⟨w.heap.size, 0, none⟩) cs.size xs := by
  have h := Sl.of_row (Row.new w t cs) cs.size (Nat.le_refl _)
  rw [World.size_alloc] at h
  rw [List.take_of_length_le (by simp), hx] at h
  exact h
end Go.Proofs.Ytpnkjfjkeoleaaa

/-! The reference of layer 10: Width. -/
set_option linter.unusedVariables false
namespace Go.Proofs.Ytpnkjfjkeoleaaa
open Go.RowKit HK

set_option maxHeartbeats 1000000 in
theorem rwidth_any (w : World) (A : Option Addr) (n c B : Nat) (l : List Nat) (hn : n ≤ maxLen) (hl : ∀ v ∈ l, v < 2 ^ 64) (hs : Sl w B A n (l.map u64v)) :
    Calls Try.prog 84 #[.slice A n c] w fun e w' => e = .returned (.int .i64 (widthL l)) ∧ w = w' := by
  unfold maxLen at hn
  have hlen : Hid (l.length = n) := Lib.hid (by have := hs.1; simpa using this)
  have HL := Lib.hid hl; clear hl
  have HS := Lib.hid hs; clear hs
  go_enter Try.func84, Try.ntmps84
  go_wp2
  go_loop [3, 4] (fun a i => ∃ k : Nat, k ≤ n ∧ i = .int .i64 k ∧ a = .int .i64 (widthL (l.take k))) (fun _ i => n - (intOf i).toNat)
  case atStart => exact ⟨0, Nat.zero_le _, rfl, rfl⟩
  case round =>
    obtain ⟨k, hk, rfl, rfl⟩ := hrel
    by_cases hlt : k < n
    · obtain ⟨b, off, u, rfl, hb, hu, hc⟩ := HS.out.at_ hlt
      obtain ⟨v, hv, rfl⟩ := at_u64 hu
      have HU := Lib.hid hu; clear hu
      have HVV := Lib.hid hv; clear hv
      have h64 : Hid (blen v ≤ 64) := Lib.hid ((blen_le_iff v 64).2 (HL.out v (List.mem_of_getElem? HVV.out)))
      have h64k : widthL (l.take k) ≤ 64 := widthL_le_64 _ (fun x hx => HL.out x (List.mem_of_mem_take hx))
      go_wp2
      go_loop [3] (fun a => ∃ q : Nat, widthL (l.take k) ≤ q ∧ q ≤ max (widthL (l.take k)) (blen v) ∧ q ≤ 64 ∧ a = .int .i64 q) (fun a => 64 - (intOf a).toNat)
      case atStart => exact ⟨_, Nat.le_refl _, by omega, h64k, rfl⟩
      case round =>
        obtain ⟨q, hq1, hq2, hq3, rfl⟩ := hrel
        have HQ1 := Lib.hid hq1; have HQ2 := Lib.hid hq2; clear hq1 hq2
        by_cases hql : q < 64
        · have hd : decide ((q : Int) < 64) = true := by simp; omega
          by_cases hz : v < 2 ^ q
          · have hz2 : (((v : Int) / 2 ^ q) != 0) = false := by rw [div_pow_cast, Nat.div_eq_of_lt hz]; rfl
            have HZ := Lib.hid hz; clear hz
            go_wp2
            go_round
            case rel =>
              refine ⟨k + 1, by omega, by go_num, ?_⟩
              have h1 := HQ1.out; have h2 := HQ2.out; have h3 := (blen_le_iff v q).2 HZ.out
              rw [take_snoc_n l k v HVV.out, widthL_snoc]
              congr 2; omega
            case measure => simp [intOf]; omega
          · have hz2 : (((v : Int) / 2 ^ q) != 0) = true := by
              rw [div_pow_cast]
              have : 0 < v / 2 ^ q := Nat.div_pos (by omega) (Nat.two_pow_pos q)
              rw [bne_iff_ne]; omega
            have HZ := Lib.hid hz; clear hz
            go_wp2
            go_round
            case rel =>
              have h1 := HQ1.out; have h2 := HQ2.out
              have h3 : ¬ blen v ≤ q := fun h => HZ.out ((blen_le_iff v q).1 h)
              exact ⟨q + 1, by omega, by omega, by omega, by go_num⟩
            case measure => simp [intOf]; omega
        · have hd : decide ((q : Int) < 64) = false := by simp; omega
          go_wp2
          go_round
          case rel =>
            refine ⟨k + 1, by omega, by go_num, ?_⟩
            have h1 := HQ1.out; have h2 := HQ2.out; have h3 := h64.out
            rw [take_snoc_n l k v HVV.out, widthL_snoc]
            congr 2; omega
          case measure => simp [intOf]; omega
    · obtain rfl : n = k := by omega
      go_wp2
      go_ret
      refine ⟨?_, rfl⟩
      rw [List.take_of_length_le (by rw [hlen.out]; exact Nat.le_refl _)]; rfl
end Go.Proofs.Ytpnkjfjkeoleaaa

/-! The reference of layer 10: Encode. -/
set_option linter.unusedVariables false
namespace Go.Proofs.Ytpnkjfjkeoleaaa
open Go.RowKit HK

/-- The bits of the byte that is being filled when t bits have come. -/
def valN (N t : Nat) : Nat := N % 2 ^ t / 2 ^ (8 * (t / 8))
theorem valN_lt (N t : Nat) : valN N t < 2 ^ (t % 8) := by
  unfold valN
  rw [Nat.div_lt_iff_lt_mul (Nat.two_pow_pos _), ← Nat.pow_add]
  have e : t % 8 + 8 * (t / 8) = t := by omega
  rw [e]
  exact Nat.mod_lt _ (Nat.two_pow_pos _)
theorem valN_step (N t : Nat) : N % 2 ^ (t + 1) / 2 ^ (8 * (t / 8)) = valN N t + 2 ^ (t % 8) * (N / 2 ^ t % 2) := by
  unfold valN
  have e : 2 ^ t = 2 ^ (8 * (t / 8)) * 2 ^ (t % 8) := by rw [← Nat.pow_add]; congr 1; omega
  rw [Nat.mod_pow_succ]
  conv => lhs; rw [show 2 ^ t * (N / 2 ^ t % 2) = 2 ^ (8 * (t / 8)) * (2 ^ (t % 8) * (N / 2 ^ t % 2)) by rw [← Nat.mul_assoc, ← e]]
  rw [Nat.add_mul_div_left _ _ (Nat.two_pow_pos _)]
theorem valN_next (N t : Nat) (h : t % 8 < 7) : valN N (t + 1) = valN N t + 2 ^ (t % 8) * (N / 2 ^ t % 2) := by
  rw [← valN_step]
  unfold valN
  have e : (t + 1) / 8 = t / 8 := by omega
  rw [e]
theorem valN_byte (N t : Nat) (h : t % 8 = 7) : valN N t + 2 ^ (t % 8) * (N / 2 ^ t % 2) = N / 2 ^ (8 * (t / 8)) % 256 := by
  rw [← valN_step]
  have e : t + 1 = 8 * (t / 8) + 8 := by omega
  rw [e, Nat.pow_add, Nat.mod_mul_right_div_self]
theorem valN_full (N t : Nat) (h : t % 8 = 0) : valN N t = 0 := by
  have := valN_lt N t
  rw [h] at this
  omega
theorem valN_last (N t : Nat) (h : N < 2 ^ t) : valN N t % 256 = N / 2 ^ (8 * (t / 8)) % 256 := by
  unfold valN
  rw [Nat.mod_eq_of_lt h]
theorem bit_of (N wd i k v : Nat) (hv : v = N / 2 ^ (wd * i) % 2 ^ wd) (hk : k < wd) : v / 2 ^ k % 2 = N / 2 ^ (i * wd + k) % 2 := by
  have h1 : v.testBit k = N.testBit (i * wd + k) := by
    rw [hv, Nat.testBit_mod_two_pow, Nat.testBit_div_two_pow]
    simp [hk, Nat.mul_comm, Nat.add_comm]
  have h2 : ∀ (x j : Nat), x / 2 ^ j % 2 = (x.testBit j).toNat := by
    intro x j
    rw [Nat.toNat_testBit]
  rw [h2, h2, h1]

theorem tmod_bit1 (v k : Nat) (h : v / 2 ^ k % 2 = 1) : (((v : Int) / 2 ^ k).tmod 2 == 1) = true := by
  rw [div_pow_cast]
  generalize v / 2 ^ k = y at h ⊢
  rw [Int.tmod_eq_emod_of_nonneg (by omega), beq_iff_eq]
  omega
theorem tmod_bit0 (v k : Nat) (h : ¬ v / 2 ^ k % 2 = 1) : (((v : Int) / 2 ^ k).tmod 2 == 1) = false := by
  rw [div_pow_cast]
  generalize v / 2 ^ k = y at h ⊢
  rw [Int.tmod_eq_emod_of_nonneg (by omega), beq_eq_false_iff_ne]
  omega
theorem pow_small (r : Nat) (h : r < 8) : 2 ^ r ≤ 128 := Nat.le_trans (Nat.pow_le_pow_right (by decide) (by omega : r ≤ 7)) (by decide)
theorem add_bit (q r : Nat) (hq : q < 256) (hr : r < 8) : wrap64 ((q : Int) + wrap64 (2 ^ r)) = ((q + 2 ^ r : Nat) : Int) := by
  have hp := pow_small r hr
  have e : ((2 : Int) ^ r) = ((2 ^ r : Nat) : Int) := by simp
  rw [e]
  generalize 2 ^ r = p at *
  rw [IntWalk.wrap64_in (p : Int) ⟨by omega, by omega⟩, IntWalk.wrap64_in _ ⟨by omega, by omega⟩]
  omega
theorem byte_small (q r x : Nat) (h : q + 2 ^ r * 1 = x % 256) : ((q + 2 ^ r : Nat) : Int) % 256 = ((q + 2 ^ r * 1 : Nat) : Int) := by
  rw [Nat.mul_one] at h ⊢
  omega
/-- A bit that does not fill the byte. -/
theorem enc_next (N t q r β : Nat) (hqr : q = valN N t ∧ r = t % 8) (hb : N / 2 ^ t % 2 = β) (h7 : ¬ r = 7) :
    q + 2 ^ r * β = valN N (t + 1) ∧ r + 1 = (t + 1) % 8 ∧ q + 2 ^ r * β < 256 ∧ (t + 1) / 8 = t / 8 := by
  obtain ⟨rfl, rfl⟩ := hqr
  have h : valN N t + 2 ^ (t % 8) * β = valN N (t + 1) := by rw [valN_next N t (by omega), hb]
  have h2 := valN_lt N (t + 1)
  have h3 := pow_small ((t + 1) % 8) (by omega)
  exact ⟨h, by omega, by omega, by omega⟩
/-- A bit that fills the byte. -/
theorem enc_full (N t q r β : Nat) (hqr : q = valN N t ∧ r = t % 8) (hb : N / 2 ^ t % 2 = β) (h7 : r = 7) :
    q + 2 ^ r * β = N / 2 ^ (8 * (t / 8)) % 256 ∧ 0 = valN N (t + 1) ∧ 0 = (t + 1) % 8 ∧ (t + 1) / 8 = t / 8 + 1 := by
  obtain ⟨rfl, rfl⟩ := hqr
  refine ⟨?_, (valN_full N (t + 1) (by omega)).symm, by omega, by omega⟩
  rw [← hb]
  exact valN_byte N t h7
theorem hdr_cells (n wd N : Nat) (hn : n ≤ 1048576) (h64 : wd ≤ 64) : (hdr n wd ++ bytesN N 0).map u8v = [Value.int .u8 ((n : Int) % 256), .int .u8 ((n : Int) / 256 % 256), .int .u8 ((n : Int) / 65536), .int .u8 ((n : Int) / 16777216), .int .u8 (wd : Int)] := by
  simp only [hdr, bytesN, List.range_zero, List.map_nil, List.append_nil, List.map_cons, u8v, List.cons.injEq, Value.int.injEq, true_and, and_true]
  omega
set_option maxHeartbeats 4000000 in
theorem renc_walk (w : World) (A : Option Addr) (n c : Nat) (l : List Nat) (hn : n ≤ 1048576) (hl : ∀ v ∈ l, v < 2 ^ 64) (hs : Sl w w.heap.size A n (l.map u64v)) :
    Calls Try.prog 61 #[.slice A n c] w fun e w' => ∃ v, e = .returned v ∧ w'.ownsRow w.heap.size 5 1 v (code l).length ((code l).map u8v) ∧ Below w.heap.size w w' := by
  have hlen : Hid (l.length = n) := Lib.hid (by have := hs.1; simpa using this)
  have HL := Lib.hid hl; clear hl
  have HS := Lib.hid hs; clear hs
  have h64 : widthL l ≤ 64 := widthL_le_64 l HL.out
  obtain ⟨i0, hif, hz0, hz1, hz2⟩ := info_parts infoU8
  go_enter Try.func61, Try.ntmps61
  go_wp2_with fail
  refine (rwidth_any w A n c w.heap.size l (by unfold maxLen; omega) HL.out HS.out).mono ?_
  rintro e w' ⟨rfl, rfl⟩
  obtain ⟨wd, hwd⟩ : ∃ wd, widthL l = wd := ⟨_, rfl⟩
  rw [hwd] at h64 ⊢
  have hp : n * wd ≤ 67108864 := by
    have := Nat.mul_le_mul hn h64
    omega
  obtain ⟨N, hN⟩ : ∃ N, packN wd l = N := ⟨_, rfl⟩
  have hNl : Hid (N < 2 ^ (n * wd)) := Lib.hid (by
    have := packN_lt wd l (by rw [← hwd]; exact lt_widthL l)
    rw [hlen.out, hN, Nat.mul_comm] at this
    exact this)
  have hdig : Hid (∀ i v, l[i]? = some v → v = N / 2 ^ (wd * i) % 2 ^ wd) := Lib.hid (by
    intro i v h
    obtain ⟨hi, rfl⟩ := List.getElem?_eq_some_iff.1 h
    rw [← hN, packN_digit wd l i (by rw [← hwd]; exact lt_widthL l) hi])
  have hcode : Hid (code l = hdr n wd ++ bytesN N ((n * wd + 7) / 8)) := Lib.hid (by unfold code; rw [hwd, hN, hlen.out])
  clear hwd hN
  go_wp2
  go_loopw [5, 6, 7, 8] (fun o vl ct ix wr => ∃ i q r : Nat, i ≤ n ∧ q < 256 ∧ r < 8 ∧ Hid (q = valN N (i * wd) ∧ r = (i * wd) % 8) ∧ ix = .int .i64 i ∧ vl = .int .i64 q ∧ ct = .int .i64 r ∧
      wr.ownsRow w.heap.size 5 1 o (5 + i * wd / 8) ((hdr n wd ++ bytesN N (i * wd / 8)).map u8v) ∧ Below w.heap.size w wr) (fun _ _ _ ix _ => n - (intOf ix).toNat)
  case atStart =>
    refine ⟨0, 0, 0, Nat.zero_le _, by decide, by decide, Lib.hid ⟨by simp [valN, Nat.mod_one], by simp⟩, rfl, rfl, rfl, ?_, (Below.refl _ _).alloc (Nat.le_refl _) _⟩
    rw [Nat.zero_mul, Nat.zero_div, hdr_cells n wd N hn h64]
    exact World.ownsRow_lit (e := 5) (size := 1) (base := w.heap.size) w #[Value.int .u8 ((n : Int) % 256), .int .u8 ((n : Int) / 256 % 256), .int .u8 ((n : Int) / 65536), .int .u8 ((n : Int) / 16777216), .int .u8 (wd : Int)] 5 (Nat.le_refl _) (by decide) rfl
  case round =>
    obtain ⟨i, q0, r0, hi, hq0, hr0, hqr0, rfl, rfl, rfl, hown, hB⟩ := hrel
    by_cases hlt : i < n
    · obtain ⟨b1, off, u, rfl, hb1, hu, hcu⟩ := HS.out.at_ hlt
      obtain ⟨v, hv, rfl⟩ := at_u64 hu
      have HU := Lib.hid hu; clear hu
      have HVV := Lib.hid hv; clear hv
      have HO := Lib.hid hown; clear hown
      obtain ⟨wo, rfl⟩ : ∃ wo : World, wo = wr := ⟨_, rfl⟩
      have hpi := prods i n wd hlt hn h64
      go_wp2
      go_loopw [5, 6, 7, 9] (fun o vl ct kx wr => ∃ k q r : Nat, k ≤ wd ∧ q < 256 ∧ r < 8 ∧ Hid (q = valN N (i * wd + k) ∧ r = (i * wd + k) % 8) ∧ kx = .int .i64 k ∧ vl = .int .i64 q ∧ ct = .int .i64 r ∧
          wr.ownsRow w.heap.size 5 1 o (5 + (i * wd + k) / 8) ((hdr n wd ++ bytesN N ((i * wd + k) / 8)).map u8v) ∧ Below w.heap.size w wr) (fun _ _ _ kx _ => wd - (intOf kx).toNat)
      case atStart => exact ⟨0, q0, r0, Nat.zero_le _, hq0, hr0, hqr0, rfl, rfl, rfl, HO.out, hB⟩
      case round =>
        obtain ⟨k, q, r, hk, hq, hr, hqr, rfl, rfl, rfl, hown, hB'⟩ := hrel
        have HO' := Lib.hid hown; clear hown
        by_cases hklt : k < wd
        · have hcv : wr.cell? ⟨b1, off + i, none⟩ = some (.int .u64 (v : Int)) := (hB'.cell (p := ⟨b1, off + i, none⟩) hb1).trans hcu
          have hpow := pow_small r hr
          by_cases hbit : v / 2 ^ k % 2 = 1
          · have hb1 : (((v : Int) / 2 ^ k).tmod 2 == 1) = true := tmod_bit1 v k hbit
            have HBIT := Lib.hid hbit; clear hbit
            have hN1 : Hid (N / 2 ^ (i * wd + k) % 2 = 1) := Lib.hid (by rw [← bit_of N wd i k v (hdig.out i v HVV.out) hklt]; have := HBIT.out; omega)
            by_cases hr7 : r = 7
            · have he8 : ((r : Int) + 1 == 8) = true := by rw [hr7]; rfl
              have HE := Lib.hid (enc_full N (i * wd + k) q r 1 hqr.out hN1.out hr7)
              clear hr7
              go_wp2_with (at_builtin; refine wpList_append_own _ rfl _ _ 26 rfl w.heap.size 5 i0 (.int .u8 0) 1 1 Try.underlying26 hif hz0 hz1 hz2 rfl (by decide) _ _ _ rfl (HO'.out.alloc _) ⟨wr.heap.size, 0, none⟩ 1 1 [_] rfl rfl (cell_one_new _ _ _) one_oneCell (by unfold maxLen; omega) (by omega) (by have := hB'.size; simp; omega) ?_; intro v' w1 hown1 hgrow1 _)
              have hB1 := bel_app hB' (Nat.le_refl _) HO'.out hgrow1
              have HO1 := Lib.hid hown1; clear hown1 hgrow1
              go_wp2
              go_roundw
              case rel =>
                obtain ⟨e1, e2, e3, e4⟩ := HE.out
                refine ⟨k + 1, 0, 0, by omega, by decide, by decide, Lib.hid ⟨e2, e3⟩, by go_num, rfl, rfl, ?_, hB1⟩
                have h1 := HO1.out
                rw [← Nat.add_assoc (i * wd) k 1, e4, bytesN_succ, ← List.append_assoc, List.map_append, ← e1]
                rw [add_bit q r hq hr] at h1
                rw [byte_small q r _ e1] at h1
                exact h1
              case measure => simp [intOf]; omega
            · have he8 : ((r : Int) + 1 == 8) = false := by simp; omega
              have HE := Lib.hid (enc_next N (i * wd + k) q r 1 hqr.out hN1.out hr7)
              go_wp2
              go_roundw
              case rel =>
                obtain ⟨e1, e2, e3, e4⟩ := HE.out
                refine ⟨k + 1, q + 2 ^ r * 1, r + 1, by omega, e3, by omega, Lib.hid ⟨e1, e2⟩, by go_num, by rw [add_bit q r hq hr, Nat.mul_one], by go_num, ?_, hB'⟩
                rw [← Nat.add_assoc (i * wd) k 1, e4]
                exact HO'.out
              case measure => simp [intOf]; omega
          · have hb0 : (((v : Int) / 2 ^ k).tmod 2 == 1) = false := tmod_bit0 v k hbit
            have HBIT := Lib.hid hbit; clear hbit
            have hN1 : Hid (N / 2 ^ (i * wd + k) % 2 = 0) := Lib.hid (by rw [← bit_of N wd i k v (hdig.out i v HVV.out) hklt]; have := HBIT.out; omega)
            by_cases hr7 : r = 7
            · have he8 : ((r : Int) + 1 == 8) = true := by rw [hr7]; rfl
              have HE := Lib.hid (enc_full N (i * wd + k) q r 0 hqr.out hN1.out hr7)
              clear hr7
              go_wp2_with (at_builtin; refine wpList_append_own _ rfl _ _ 26 rfl w.heap.size 5 i0 (.int .u8 0) 1 1 Try.underlying26 hif hz0 hz1 hz2 rfl (by decide) _ _ _ rfl (HO'.out.alloc _) ⟨wr.heap.size, 0, none⟩ 1 1 [_] rfl rfl (cell_one_new _ _ _) one_oneCell (by unfold maxLen; omega) (by omega) (by have := hB'.size; simp; omega) ?_; intro v' w1 hown1 hgrow1 _)
              have hB1 := bel_app hB' (Nat.le_refl _) HO'.out hgrow1
              have HO1 := Lib.hid hown1; clear hown1 hgrow1
              go_wp2
              go_roundw
              case rel =>
                obtain ⟨e1, e2, e3, e4⟩ := HE.out
                refine ⟨k + 1, 0, 0, by omega, by decide, by decide, Lib.hid ⟨e2, e3⟩, by go_num, rfl, rfl, ?_, hB1⟩
                have h1 := HO1.out
                rw [← Nat.add_assoc (i * wd) k 1, e4, bytesN_succ, ← List.append_assoc, List.map_append, ← e1]
                rw [Nat.mul_zero, Nat.add_zero]
                exact h1
              case measure => simp [intOf]; omega
            · have he8 : ((r : Int) + 1 == 8) = false := by simp; omega
              have HE := Lib.hid (enc_next N (i * wd + k) q r 0 hqr.out hN1.out hr7)
              go_wp2
              go_roundw
              case rel =>
                obtain ⟨e1, e2, e3, e4⟩ := HE.out
                refine ⟨k + 1, q + 2 ^ r * 0, r + 1, by omega, e3, by omega, Lib.hid ⟨e1, e2⟩, by go_num, by rw [Nat.mul_zero, Nat.add_zero], by go_num, ?_, hB'⟩
                rw [← Nat.add_assoc (i * wd) k 1, e4]
                exact HO'.out
              case measure => simp [intOf]; omega
        · obtain rfl : wd = k := by omega
          go_wp2
          go_roundw
          case rel =>
            have e : (i + 1) * wd = i * wd + wd := by rw [Nat.add_mul, Nat.one_mul]
            refine ⟨i + 1, q, r, by omega, hq, hr, ?_, by go_num, rfl, rfl, ?_, hB'⟩
            · rw [e]; exact hqr
            · rw [e]; exact HO'.out
          case measure => simp [intOf]; omega
    · obtain rfl : n = i := by omega
      have HO := Lib.hid hown; clear hown
      by_cases hr : r0 = 0
      · have hgt : decide (0 < r0) = false := by simp; omega
        have hgt2 : ¬ 0 < r0 := by omega
        have hfin : Hid ((n * wd + 7) / 8 = n * wd / 8) := Lib.hid (by have := hqr0.out.2; omega)
        clear hr
        go_wp2
        go_ret
        refine ⟨_, rfl, ?_, hB⟩
        have h1 := HO.out
        rw [← hfin.out, ← hcode.out] at h1
        have h2 := own_len h1
        rw [List.length_map] at h2
        rw [h2]
        exact h1
      · have hgt : 0 < r0 := by omega
        have hfin : Hid ((n * wd + 7) / 8 = n * wd / 8 + 1) := Lib.hid (by have := hqr0.out.2; omega)
        have hlast : Hid (q0 = N / 2 ^ (8 * (n * wd / 8)) % 256) := Lib.hid (by
          have h1 := valN_last N (n * wd) hNl.out
          rw [← hqr0.out.1, Nat.mod_eq_of_lt hq0] at h1
          exact h1)
        clear hr
        go_wp2_with (at_builtin; refine wpList_append_own _ rfl _ _ 26 rfl w.heap.size 5 i0 (.int .u8 0) 1 1 Try.underlying26 hif hz0 hz1 hz2 rfl (by decide) _ _ _ rfl (HO.out.alloc _) ⟨wr.heap.size, 0, none⟩ 1 1 [_] rfl rfl (cell_one_new _ _ _) one_oneCell (by unfold maxLen; omega) (by omega) (by have := hB.size; simp; omega) ?_; intro v' w1 hown1 hgrow1 _)
        have hB1 := bel_app hB (Nat.le_refl _) HO.out hgrow1
        have HO1 := Lib.hid hown1; clear hown1 hgrow1
        go_wp2
        go_ret
        refine ⟨_, rfl, ?_, hB1⟩
        have h1 := HO1.out
        have h3 : (hdr n wd ++ bytesN N (n * wd / 8)).map u8v ++ [Value.int .u8 (q0 : Int)] = (code l).map u8v := by
          rw [hcode.out, hfin.out, bytesN_succ, ← List.append_assoc, List.map_append (l₁ := hdr n wd ++ bytesN N (n * wd / 8)), ← hlast.out]; rfl
        rw [h3] at h1
        have h2 := own_len h1
        rw [List.length_map] at h2
        rw [h2]
        exact h1
end Go.Proofs.Ytpnkjfjkeoleaaa

/-! The walk of PackedKeeps. -/
set_option linter.unusedVariables false
namespace Go.Proofs.Ytpnkjfjkeoleaaa
open Go.RowKit HK

theorem u64_oneCell (l : List Nat) : ∀ u ∈ l.map u64v, u.oneCell' = true := by
  intro u hu
  obtain ⟨v, _, rfl⟩ := List.mem_map.1 hu
  rfl
theorem has_get (l : List Nat) : ∀ i v, l[i]? = some v → v = packN (widthL l) l / 2 ^ (i * widthL l) % 2 ^ widthL l := by
  intro i v h
  obtain ⟨hi, rfl⟩ := List.getElem?_eq_some_iff.1 h
  rw [Nat.mul_comm, packN_digit (widthL l) l i (lt_widthL l) hi]
/-- What is kept of a sequence where block q alone is written. -/
theorem PR.grown {w w' : World} {b g n wd N q : Nat} (h : PR w b g n wd N) (hg : w.grownBy w' (some q)) (h1 : q ≠ b) (h2 : q ≠ g) : PR w' b g n wd N :=
  ⟨h.1.grown hg (fun e => h1 (by injection e with e; exact e.symm)), h.2.grown hg (fun e => h2 (by injection e with e; exact e.symm))⟩

/-- The state after 'mine' was made and handed to New: mine is v, the sequence lies in b and g. -/
def KeepSt (w wr : World) (v : Value) (b g n wd N S : Nat) : Prop :=
  (∃ ys : List Nat, ys.length = n ∧ wr.ownsRow w.heap.size 87 1 v n (ys.map u64v)) ∧ PR wr b g n wd N ∧ Below w.heap.size w wr ∧ (∀ q, v.ownBlock = some q → w.heap.size ≤ q ∧ q < S) ∧ S ≤ b ∧ S ≤ g
theorem KeepSt.at_ {w wr : World} {A : Option Addr} {c b g n wd N S k : Nat} (h : KeepSt w wr (.slice A n c) b g n wd N S) (hk : k < n) :
    ∃ gm y, A = some ⟨gm, 0, none⟩ ∧ wr.cell? ⟨gm, k, none⟩ = some (.int .u64 (y : Nat)) ∧ wr.frozen? ⟨gm, k, none⟩ = false ∧
      ∀ z : Nat, KeepSt w (wr.setCell ⟨gm, k, none⟩ (.int .u64 (z : Int))) (.slice A n c) b g n wd N S := by
  obtain ⟨⟨ys, hy, hown⟩, hpr, hB, hq, h1, h2⟩ := h
  rcases hown.2 with ⟨_, h0⟩ | ⟨gm, cap, cur, hv, hbg, hr⟩
  · omega
  · injection hv with hA _ hc
    subst hA hc
    refine ⟨gm, ys[k], rfl, ?_, hown.frozenAt k, fun z => ?_⟩
    · rw [hown.cellAt k (by omega), List.getElem?_map, List.getElem?_eq_getElem (by omega)]; rfl
    · have hs := hown.stored k (.int .u64 (z : Int))
      obtain ⟨hq1, hq2⟩ := hq gm rfl
      refine ⟨⟨ys.set k z, by simp [hy], ?_⟩, hpr.grown hs.2 (by omega) (by omega), hB.setCell (p := ⟨gm, k, none⟩) hq1 _, hq, h1, h2⟩
      rw [List.map_set]
      exact hs.1

end Go.Proofs.Ytpnkjfjkeoleaaa

/-! The walk of PackedEncodes. -/
set_option linter.unusedVariables false
namespace Go.Proofs.Ytpnkjfjkeoleaaa
open Go.RowKit HK

theorem code_eq (l : List Nat) : hdr l.length (widthL l) ++ bytesN (packN (widthL l) l) ((l.length * widthL l + 7) / 8) = code l := rfl
/-- What New leaves, for a list. -/
def IsP (w : World) (S b g : Nat) (l : List Nat) : Prop := PR w b g l.length (widthL l) (packN (widthL l) l) ∧ S ≤ b ∧ S ≤ g
theorem IsP.lt {w : World} {S b g : Nat} {l : List Nat} (h : IsP w S b g l) : b < w.heap.size ∧ g < w.heap.size := ⟨h.1.1.lt, h.1.2.lt⟩
theorem IsP.below {w w' : World} {S b g B : Nat} {l : List Nat} (h : IsP w S b g l) (hb : Below B w w') (hB : w.heap.size ≤ B) : IsP w' S b g l :=
  ⟨h.1.below hb (by have := h.lt; omega) (by have := h.lt; omega), h.2⟩
theorem IsP.grown {w w' : World} {S b g : Nat} {l : List Nat} {row : Option Nat} (h : IsP w S b g l) (hg : w.grownBy w' row) (h1 : row ≠ some b) (h2 : row ≠ some g) : IsP w' S b g l :=
  ⟨⟨h.1.1.grown hg (fun e => h1 e.symm), h.1.2.grown hg (fun e => h2 e.symm)⟩, h.2⟩
theorem new_any (w : World) (A : Option Addr) (n c : Nat) (l : List Nat) (hn : n ≤ 1048576) (hl : ∀ v ∈ l, v < 2 ^ 64) (hs : Sl w w.heap.size A n (l.map u64v)) :
    Calls Try.prog 52 #[.slice A n c] w fun e w' => ∃ b g, e = .returned (.tuple #[.pointer (some ⟨b, 0, none⟩), .int .i64 0]) ∧ IsP w' w.heap.size b g l ∧ Below w.heap.size w w' := by
  refine (pnew_walk w A n c l hn hl hs).mono ?_
  rintro e w' ⟨b, g, rfl, hpr, h1, h2, hB⟩
  have : l.length = n := by have := hs.1; simpa using this
  subst this
  exact ⟨b, g, rfl, ⟨hpr, h1, h2⟩, hB⟩
theorem enc_any (w : World) (S b g : Nat) (l : List Nat) (hn : l.length ≤ 1048576) (hl : ∀ v ∈ l, v < 2 ^ 64) (h : IsP w S b g l) :
    Calls Try.prog 40 #[.pointer (some ⟨b, 0, none⟩)] w fun e w' => ∃ A c, e = .returned (.slice A (code l).length c) ∧ w'.ownsRow w.heap.size 5 1 (.slice A (code l).length c) (code l).length ((code l).map u8v) ∧ Below w.heap.size w w' ∧ c ≤ maxLen := by
  refine (penc_walk w b g _ _ _ hn (widthL_le_64 l hl) h.1).mono ?_
  rintro e w' ⟨v, rfl, hown, hB⟩
  rw [code_eq, ← code_length] at hown
  obtain ⟨A, c, rfl, h1, h2⟩ := own_shape hown
  exact ⟨A, c, rfl, hown, hB, h2⟩
theorem renc_any (w : World) (A : Option Addr) (n c : Nat) (l : List Nat) (hn : n ≤ 1048576) (hl : ∀ v ∈ l, v < 2 ^ 64) (hs : Sl w w.heap.size A n (l.map u64v)) :
    Calls Try.prog 61 #[.slice A n c] w fun e w' => ∃ A c, e = .returned (.slice A (code l).length c) ∧ w'.ownsRow w.heap.size 5 1 (.slice A (code l).length c) (code l).length ((code l).map u8v) ∧ Below w.heap.size w w' ∧ c ≤ maxLen := by
  refine (renc_walk w A n c l hn hl hs).mono ?_
  rintro e w' ⟨v, rfl, hown, hB⟩
  obtain ⟨A, c, rfl, h1, h2⟩ := own_shape hown
  exact ⟨A, c, rfl, hown, hB, h2⟩
theorem code_len_le (l : List Nat) (hn : l.length ≤ 1048576) (hl : ∀ v ∈ l, v < 2 ^ 64) : (code l).length ≤ 8388613 := by
  rw [code_length]
  have := Nat.mul_le_mul hn (widthL_le_64 l hl)
  omega

end Go.Proofs.Ytpnkjfjkeoleaaa
