/- The reference of layer 10: Encode. -/
import Derived.Test.YtjjhllbbkflnnaaPkRef
set_option linter.unusedVariables false
namespace Go.Proofs.Ytjjhllbbkflnnaa
open Go.RowKit HK

/-- The bits of the byte that is being filled when t bits have come. -/
def valN (N t : Nat) : Nat := N % 2 ^ t / 2 ^ (8 * (t / 8))
theorem valN_lt (N t : Nat) : valN N t < 2 ^ (t % 8) := by
  unfold valN
  rw [Nat.div_lt_iff_lt_mul (Nat.two_pow_pos _), ← Nat.pow_add]
  have e : t % 8 + 8 * (t / 8) = t := by omega
  rw [e]
  exact Nat.mod_lt _ (Nat.two_pow_pos _)
theorem valN_step (N t : Nat) : N % 2 ^ (t + 1) / 2 ^ (8 * (t / 8)) = valN N t + 2 ^ (t % 8) * (N / 2 ^ t % 2) := by
  unfold valN
  have e : 2 ^ t = 2 ^ (8 * (t / 8)) * 2 ^ (t % 8) := by rw [← Nat.pow_add]; congr 1; omega
  rw [Nat.mod_pow_succ]
  conv => lhs; rw [show 2 ^ t * (N / 2 ^ t % 2) = 2 ^ (8 * (t / 8)) * (2 ^ (t % 8) * (N / 2 ^ t % 2)) by rw [← Nat.mul_assoc, ← e]]
  rw [Nat.add_mul_div_left _ _ (Nat.two_pow_pos _)]
theorem valN_next (N t : Nat) (h : t % 8 < 7) : valN N (t + 1) = valN N t + 2 ^ (t % 8) * (N / 2 ^ t % 2) := by
  rw [← valN_step]
  unfold valN
  have e : (t + 1) / 8 = t / 8 := by omega
  rw [e]
theorem valN_byte (N t : Nat) (h : t % 8 = 7) : valN N t + 2 ^ (t % 8) * (N / 2 ^ t % 2) = N / 2 ^ (8 * (t / 8)) % 256 := by
  rw [← valN_step]
  have e : t + 1 = 8 * (t / 8) + 8 := by omega
  rw [e, Nat.pow_add, Nat.mod_mul_right_div_self]
theorem valN_full (N t : Nat) (h : t % 8 = 0) : valN N t = 0 := by
  have := valN_lt N t
  rw [h] at this
  omega
theorem valN_last (N t : Nat) (h : N < 2 ^ t) : valN N t % 256 = N / 2 ^ (8 * (t / 8)) % 256 := by
  unfold valN
  rw [Nat.mod_eq_of_lt h]
theorem bit_of (N wd i k v : Nat) (hv : v = N / 2 ^ (wd * i) % 2 ^ wd) (hk : k < wd) : v / 2 ^ k % 2 = N / 2 ^ (i * wd + k) % 2 := by
  have h1 : v.testBit k = N.testBit (i * wd + k) := by
    rw [hv, Nat.testBit_mod_two_pow, Nat.testBit_div_two_pow]
    simp [hk, Nat.mul_comm, Nat.add_comm]
  have h2 : ∀ (x j : Nat), x / 2 ^ j % 2 = (x.testBit j).toNat := by
    intro x j
    rw [Nat.toNat_testBit]
  rw [h2, h2, h1]

theorem tmod_bit1 (v k : Nat) (h : v / 2 ^ k % 2 = 1) : (((v : Int) / 2 ^ k).tmod 2 == 1) = true := by
  rw [div_pow_cast]
  generalize v / 2 ^ k = y at h ⊢
  rw [Int.tmod_eq_emod_of_nonneg (by omega), beq_iff_eq]
  omega
theorem tmod_bit0 (v k : Nat) (h : ¬ v / 2 ^ k % 2 = 1) : (((v : Int) / 2 ^ k).tmod 2 == 1) = false := by
  rw [div_pow_cast]
  generalize v / 2 ^ k = y at h ⊢
  rw [Int.tmod_eq_emod_of_nonneg (by omega), beq_eq_false_iff_ne]
  omega
theorem pow_small (r : Nat) (h : r < 8) : 2 ^ r ≤ 128 := Nat.le_trans (Nat.pow_le_pow_right (by decide) (by omega : r ≤ 7)) (by decide)
theorem add_bit (q r : Nat) (hq : q < 256) (hr : r < 8) : wrap64 ((q : Int) + wrap64 (2 ^ r)) = ((q + 2 ^ r : Nat) : Int) := by
  have hp := pow_small r hr
  have e : ((2 : Int) ^ r) = ((2 ^ r : Nat) : Int) := by simp
  rw [e]
  generalize 2 ^ r = p at *
  rw [IntWalk.wrap64_in (p : Int) ⟨by omega, by omega⟩, IntWalk.wrap64_in _ ⟨by omega, by omega⟩]
  omega
theorem byte_small (q r x : Nat) (h : q + 2 ^ r * 1 = x % 256) : ((q + 2 ^ r : Nat) : Int) % 256 = ((q + 2 ^ r * 1 : Nat) : Int) := by
  rw [Nat.mul_one] at h ⊢
  omega
/-- A bit that does not fill the byte. -/
theorem enc_next (N t q r β : Nat) (hqr : q = valN N t ∧ r = t % 8) (hb : N / 2 ^ t % 2 = β) (h7 : ¬ r = 7) :
    q + 2 ^ r * β = valN N (t + 1) ∧ r + 1 = (t + 1) % 8 ∧ q + 2 ^ r * β < 256 ∧ (t + 1) / 8 = t / 8 := by
  obtain ⟨rfl, rfl⟩ := hqr
  have h : valN N t + 2 ^ (t % 8) * β = valN N (t + 1) := by rw [valN_next N t (by omega), hb]
  have h2 := valN_lt N (t + 1)
  have h3 := pow_small ((t + 1) % 8) (by omega)
  exact ⟨h, by omega, by omega, by omega⟩
/-- A bit that fills the byte. -/
theorem enc_full (N t q r β : Nat) (hqr : q = valN N t ∧ r = t % 8) (hb : N / 2 ^ t % 2 = β) (h7 : r = 7) :
    q + 2 ^ r * β = N / 2 ^ (8 * (t / 8)) % 256 ∧ 0 = valN N (t + 1) ∧ 0 = (t + 1) % 8 ∧ (t + 1) / 8 = t / 8 + 1 := by
  obtain ⟨rfl, rfl⟩ := hqr
  refine ⟨?_, (valN_full N (t + 1) (by omega)).symm, by omega, by omega⟩
  rw [← hb]
  exact valN_byte N t h7
theorem hdr_cells (n wd N : Nat) (hn : n ≤ 1048576) (h64 : wd ≤ 64) : (hdr n wd ++ bytesN N 0).map u8v = [Value.int .u8 ((n : Int) % 256), .int .u8 ((n : Int) / 256 % 256), .int .u8 ((n : Int) / 65536), .int .u8 ((n : Int) / 16777216), .int .u8 (wd : Int)] := by
  simp only [hdr, bytesN, List.range_zero, List.map_nil, List.append_nil, List.map_cons, u8v, List.cons.injEq, Value.int.injEq, true_and, and_true]
  omega
set_option maxHeartbeats 4000000 in
theorem renc_walk (w : World) (A : Option Addr) (n c : Nat) (l : List Nat) (hn : n ≤ 1048576) (hl : ∀ v ∈ l, v < 2 ^ 64) (hs : Sl w w.heap.size A n (l.map u64v)) :
    Calls Try.prog 19 #[.slice A n c] w fun e w' => ∃ v, e = .returned v ∧ w'.ownsRow w.heap.size 5 1 v (code l).length ((code l).map u8v) ∧ Below w.heap.size w w' := by
  have hlen : Hid (l.length = n) := Lib.hid (by have := hs.1; simpa using this)
  have HL := Lib.hid hl; clear hl
  have HS := Lib.hid hs; clear hs
  have h64 : widthL l ≤ 64 := widthL_le_64 l HL.out
  obtain ⟨i0, hif, hz0, hz1, hz2⟩ := info_parts infoU8
  go_enter Try.func19, Try.ntmps19
  go_wp2_with fail
  refine (rwidth_any w A n c w.heap.size l (by unfold maxLen; omega) HL.out HS.out).mono ?_
  rintro e w' ⟨rfl, rfl⟩
  obtain ⟨wd, hwd⟩ : ∃ wd, widthL l = wd := ⟨_, rfl⟩
  rw [hwd] at h64 ⊢
  have hp : n * wd ≤ 67108864 := by
    have := Nat.mul_le_mul hn h64
    omega
  obtain ⟨N, hN⟩ : ∃ N, packN wd l = N := ⟨_, rfl⟩
  have hNl : Hid (N < 2 ^ (n * wd)) := Lib.hid (by
    have := packN_lt wd l (by rw [← hwd]; exact lt_widthL l)
    rw [hlen.out, hN, Nat.mul_comm] at this
    exact this)
  have hdig : Hid (∀ i v, l[i]? = some v → v = N / 2 ^ (wd * i) % 2 ^ wd) := Lib.hid (by
    intro i v h
    obtain ⟨hi, rfl⟩ := List.getElem?_eq_some_iff.1 h
    rw [← hN, packN_digit wd l i (by rw [← hwd]; exact lt_widthL l) hi])
  have hcode : Hid (code l = hdr n wd ++ bytesN N ((n * wd + 7) / 8)) := Lib.hid (by unfold code; rw [hwd, hN, hlen.out])
  clear hwd hN
  go_wp2
  go_loopw [5, 6, 7, 8] (fun o vl ct ix wr => ∃ i q r : Nat, i ≤ n ∧ q < 256 ∧ r < 8 ∧ Hid (q = valN N (i * wd) ∧ r = (i * wd) % 8) ∧ ix = .int .i64 i ∧ vl = .int .i64 q ∧ ct = .int .i64 r ∧
      wr.ownsRow w.heap.size 5 1 o (5 + i * wd / 8) ((hdr n wd ++ bytesN N (i * wd / 8)).map u8v) ∧ Below w.heap.size w wr) (fun _ _ _ ix _ => n - (intOf ix).toNat)
  case atStart =>
    refine ⟨0, 0, 0, Nat.zero_le _, by decide, by decide, Lib.hid ⟨by simp [valN, Nat.mod_one], by simp⟩, rfl, rfl, rfl, ?_, (Below.refl _ _).alloc (Nat.le_refl _) _⟩
    rw [Nat.zero_mul, Nat.zero_div, hdr_cells n wd N hn h64]
    exact World.ownsRow_lit (e := 5) (size := 1) (base := w.heap.size) w #[Value.int .u8 ((n : Int) % 256), .int .u8 ((n : Int) / 256 % 256), .int .u8 ((n : Int) / 65536), .int .u8 ((n : Int) / 16777216), .int .u8 (wd : Int)] 5 (Nat.le_refl _) (by decide) rfl
  case round =>
    obtain ⟨i, q0, r0, hi, hq0, hr0, hqr0, rfl, rfl, rfl, hown, hB⟩ := hrel
    by_cases hlt : i < n
    · obtain ⟨b1, off, u, rfl, hb1, hu, hcu⟩ := HS.out.at_ hlt
      obtain ⟨v, hv, rfl⟩ := at_u64 hu
      have HU := Lib.hid hu; clear hu
      have HVV := Lib.hid hv; clear hv
      have HO := Lib.hid hown; clear hown
      obtain ⟨wo, rfl⟩ : ∃ wo : World, wo = wr := ⟨_, rfl⟩
      have hpi := prods i n wd hlt hn h64
      go_wp2
      go_loopw [5, 6, 7, 9] (fun o vl ct kx wr => ∃ k q r : Nat, k ≤ wd ∧ q < 256 ∧ r < 8 ∧ Hid (q = valN N (i * wd + k) ∧ r = (i * wd + k) % 8) ∧ kx = .int .i64 k ∧ vl = .int .i64 q ∧ ct = .int .i64 r ∧
          wr.ownsRow w.heap.size 5 1 o (5 + (i * wd + k) / 8) ((hdr n wd ++ bytesN N ((i * wd + k) / 8)).map u8v) ∧ Below w.heap.size w wr) (fun _ _ _ kx _ => wd - (intOf kx).toNat)
      case atStart => exact ⟨0, q0, r0, Nat.zero_le _, hq0, hr0, hqr0, rfl, rfl, rfl, HO.out, hB⟩
      case round =>
        obtain ⟨k, q, r, hk, hq, hr, hqr, rfl, rfl, rfl, hown, hB'⟩ := hrel
        have HO' := Lib.hid hown; clear hown
        by_cases hklt : k < wd
        · have hcv : wr.cell? ⟨b1, off + i, none⟩ = some (.int .u64 (v : Int)) := (hB'.cell (p := ⟨b1, off + i, none⟩) hb1).trans hcu
          have hpow := pow_small r hr
          by_cases hbit : v / 2 ^ k % 2 = 1
          · have hb1 : (((v : Int) / 2 ^ k).tmod 2 == 1) = true := tmod_bit1 v k hbit
            have HBIT := Lib.hid hbit; clear hbit
            have hN1 : Hid (N / 2 ^ (i * wd + k) % 2 = 1) := Lib.hid (by rw [← bit_of N wd i k v (hdig.out i v HVV.out) hklt]; have := HBIT.out; omega)
            by_cases hr7 : r = 7
            · have he8 : ((r : Int) + 1 == 8) = true := by rw [hr7]; rfl
              have HE := Lib.hid (enc_full N (i * wd + k) q r 1 hqr.out hN1.out hr7)
              clear hr7
              go_wp2_with (at_builtin; refine wpList_append_own _ rfl _ _ 35 rfl w.heap.size 5 i0 (.int .u8 0) 1 1 Try.underlying35 hif hz0 hz1 hz2 rfl (by decide) _ _ _ rfl (HO'.out.alloc _) ⟨wr.heap.size, 0, none⟩ 1 1 [_] rfl rfl (cell_one_new _ _ _) one_oneCell (by unfold maxLen; omega) (by omega) (by have := hB'.size; simp; omega) ?_; intro v' w1 hown1 hgrow1 _)
              have hB1 := bel_app hB' (Nat.le_refl _) HO'.out hgrow1
              have HO1 := Lib.hid hown1; clear hown1 hgrow1
              go_wp2
              go_roundw
              case rel =>
                obtain ⟨e1, e2, e3, e4⟩ := HE.out
                refine ⟨k + 1, 0, 0, by omega, by decide, by decide, Lib.hid ⟨e2, e3⟩, by go_num, rfl, rfl, ?_, hB1⟩
                have h1 := HO1.out
                rw [← Nat.add_assoc (i * wd) k 1, e4, bytesN_succ, ← List.append_assoc, List.map_append, ← e1]
                rw [add_bit q r hq hr] at h1
                rw [byte_small q r _ e1] at h1
                exact h1
              case measure => simp [intOf]; omega
            · have he8 : ((r : Int) + 1 == 8) = false := by simp; omega
              have HE := Lib.hid (enc_next N (i * wd + k) q r 1 hqr.out hN1.out hr7)
              go_wp2
              go_roundw
              case rel =>
                obtain ⟨e1, e2, e3, e4⟩ := HE.out
                refine ⟨k + 1, q + 2 ^ r * 1, r + 1, by omega, e3, by omega, Lib.hid ⟨e1, e2⟩, by go_num, by rw [add_bit q r hq hr, Nat.mul_one], by go_num, ?_, hB'⟩
                rw [← Nat.add_assoc (i * wd) k 1, e4]
                exact HO'.out
              case measure => simp [intOf]; omega
          · have hb0 : (((v : Int) / 2 ^ k).tmod 2 == 1) = false := tmod_bit0 v k hbit
            have HBIT := Lib.hid hbit; clear hbit
            have hN1 : Hid (N / 2 ^ (i * wd + k) % 2 = 0) := Lib.hid (by rw [← bit_of N wd i k v (hdig.out i v HVV.out) hklt]; have := HBIT.out; omega)
            by_cases hr7 : r = 7
            · have he8 : ((r : Int) + 1 == 8) = true := by rw [hr7]; rfl
              have HE := Lib.hid (enc_full N (i * wd + k) q r 0 hqr.out hN1.out hr7)
              clear hr7
              go_wp2_with (at_builtin; refine wpList_append_own _ rfl _ _ 35 rfl w.heap.size 5 i0 (.int .u8 0) 1 1 Try.underlying35 hif hz0 hz1 hz2 rfl (by decide) _ _ _ rfl (HO'.out.alloc _) ⟨wr.heap.size, 0, none⟩ 1 1 [_] rfl rfl (cell_one_new _ _ _) one_oneCell (by unfold maxLen; omega) (by omega) (by have := hB'.size; simp; omega) ?_; intro v' w1 hown1 hgrow1 _)
              have hB1 := bel_app hB' (Nat.le_refl _) HO'.out hgrow1
              have HO1 := Lib.hid hown1; clear hown1 hgrow1
              go_wp2
              go_roundw
              case rel =>
                obtain ⟨e1, e2, e3, e4⟩ := HE.out
                refine ⟨k + 1, 0, 0, by omega, by decide, by decide, Lib.hid ⟨e2, e3⟩, by go_num, rfl, rfl, ?_, hB1⟩
                have h1 := HO1.out
                rw [← Nat.add_assoc (i * wd) k 1, e4, bytesN_succ, ← List.append_assoc, List.map_append, ← e1]
                rw [Nat.mul_zero, Nat.add_zero]
                exact h1
              case measure => simp [intOf]; omega
            · have he8 : ((r : Int) + 1 == 8) = false := by simp; omega
              have HE := Lib.hid (enc_next N (i * wd + k) q r 0 hqr.out hN1.out hr7)
              go_wp2
              go_roundw
              case rel =>
                obtain ⟨e1, e2, e3, e4⟩ := HE.out
                refine ⟨k + 1, q + 2 ^ r * 0, r + 1, by omega, e3, by omega, Lib.hid ⟨e1, e2⟩, by go_num, by rw [Nat.mul_zero, Nat.add_zero], by go_num, ?_, hB'⟩
                rw [← Nat.add_assoc (i * wd) k 1, e4]
                exact HO'.out
              case measure => simp [intOf]; omega
        · obtain rfl : wd = k := by omega
          go_wp2
          go_roundw
          case rel =>
            have e : (i + 1) * wd = i * wd + wd := by rw [Nat.add_mul, Nat.one_mul]
            refine ⟨i + 1, q, r, by omega, hq, hr, ?_, by go_num, rfl, rfl, ?_, hB'⟩
            · rw [e]; exact hqr
            · rw [e]; exact HO'.out
          case measure => simp [intOf]; omega
    · obtain rfl : n = i := by omega
      have HO := Lib.hid hown; clear hown
      by_cases hr : r0 = 0
      · have hgt : decide (0 < r0) = false := by simp; omega
        have hgt2 : ¬ 0 < r0 := by omega
        have hfin : Hid ((n * wd + 7) / 8 = n * wd / 8) := Lib.hid (by have := hqr0.out.2; omega)
        clear hr
        go_wp2
        go_ret
        refine ⟨_, rfl, ?_, hB⟩
        have h1 := HO.out
        rw [← hfin.out, ← hcode.out] at h1
        have h2 := own_len h1
        rw [List.length_map] at h2
        rw [h2]
        exact h1
      · have hgt : 0 < r0 := by omega
        have hfin : Hid ((n * wd + 7) / 8 = n * wd / 8 + 1) := Lib.hid (by have := hqr0.out.2; omega)
        have hlast : Hid (q0 = N / 2 ^ (8 * (n * wd / 8)) % 256) := Lib.hid (by
          have h1 := valN_last N (n * wd) hNl.out
          rw [← hqr0.out.1, Nat.mod_eq_of_lt hq0] at h1
          exact h1)
        clear hr
        go_wp2_with (at_builtin; refine wpList_append_own _ rfl _ _ 35 rfl w.heap.size 5 i0 (.int .u8 0) 1 1 Try.underlying35 hif hz0 hz1 hz2 rfl (by decide) _ _ _ rfl (HO.out.alloc _) ⟨wr.heap.size, 0, none⟩ 1 1 [_] rfl rfl (cell_one_new _ _ _) one_oneCell (by unfold maxLen; omega) (by omega) (by have := hB.size; simp; omega) ?_; intro v' w1 hown1 hgrow1 _)
        have hB1 := bel_app hB (Nat.le_refl _) HO.out hgrow1
        have HO1 := Lib.hid hown1; clear hown1 hgrow1
        go_wp2
        go_ret
        refine ⟨_, rfl, ?_, hB1⟩
        have h1 := HO1.out
        have h3 : (hdr n wd ++ bytesN N (n * wd / 8)).map u8v ++ [Value.int .u8 (q0 : Int)] = (code l).map u8v := by
          rw [hcode.out, hfin.out, bytesN_succ, ← List.append_assoc, List.map_append (l₁ := hdr n wd ++ bytesN N (n * wd / 8)), ← hlast.out]; rfl
        rw [h3] at h1
        have h2 := own_len h1
        rw [List.length_map] at h2
        rw [h2]
        exact h1
end Go.Proofs.Ytjjhllbbkflnnaa
