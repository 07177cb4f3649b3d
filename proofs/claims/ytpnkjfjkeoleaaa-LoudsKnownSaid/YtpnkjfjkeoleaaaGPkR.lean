/- GPkR: several texts in one: packed: Decode, all bytes; the reference of layer 10: same, Decode. The reference of layer 10: Decode, the codes of the right size. Conditions: those each theorem names. -/
import Derived.Test.YtpnkjfjkeoleaaaPkDecOk
/-! packed: Decode, all bytes; the reference of layer 10: same, Decode. -/
set_option linter.unusedVariables false
set_option maxRecDepth 100000
namespace Go.Proofs.Ytpnkjfjkeoleaaa
open Go.RowKit HK

theorem head_of {w : World} {b off n : Nat} {bl : List Nat} (hn : 5 ≤ n) (hbl : ∀ v ∈ bl, v < 256) (hs : Sl w w.heap.size (some ⟨b, off, none⟩) n (bl.map u8v)) :
    Head w b off n (bl.getD 0 0) (bl.getD 1 0) (bl.getD 2 0) (bl.getD 3 0) (bl.getD 4 0) (num4 bl) := by
  have hl : bl.length = n := by have := hs.1; simpa using this
  have hat : ∀ k, k < n → w.cell? ⟨b, off + k, none⟩ = some (.int .u8 ((bl.getD k 0 : Nat) : Int)) ∧ bl.getD k 0 < 256 := by
    intro k hk
    obtain ⟨b', off', e, hb, hc⟩ := hs.2 (by omega)
    injection e with e
    injection e with e1 e2
    subst e1 e2
    have hk2 : bl[k]? = some bl[k] := List.getElem?_eq_getElem (by omega)
    have hd : bl.getD k 0 = bl[k] := by rw [List.getD_eq_getElem?_getD, hk2]; rfl
    rw [hd]
    exact ⟨hc k _ (by rw [List.getElem?_map, hk2]; rfl), hbl _ (List.getElem_mem _)⟩
  exact ⟨(hat 0 (by omega)).2, (hat 1 (by omega)).2, (hat 2 (by omega)).2, (hat 3 (by omega)).2, (hat 4 (by omega)).2, (hat 0 (by omega)).1, (hat 1 (by omega)).1, (hat 2 (by omega)).1, (hat 3 (by omega)).1, (hat 4 (by omega)).1, rfl⟩

/-- What Decode comes to, for any bytes. -/
def DecAny (w : World) (bl : List Nat) (e : Ending) (w' : World) : Prop :=
  Below w.heap.size w w' ∧ ((decodable bl = true ∧ ∃ p g, e = .returned (.tuple #[.pointer (some ⟨p, 0, none⟩), .int .i64 0]) ∧ IsP w' w.heap.size p g (decodeL bl)) ∨ (decodable bl = false ∧ e = .returned (.tuple #[.pointer none, .int .i64 5])))
theorem sl_some {w : World} {B : Nat} {A : Option Addr} {n : Nat} {xs : List Value} (h : Sl w B A n xs) (hn : 0 < n) : ∃ b off, A = some ⟨b, off, none⟩ := by
  obtain ⟨b, off, e, _⟩ := h.2 hn
  exact ⟨b, off, e⟩
theorem pdec_any (w : World) (A : Option Addr) (n c : Nat) (bl : List Nat) (hnc : n ≤ c) (hcm : c ≤ 9223372036854775807) (hbl : ∀ v ∈ bl, v < 256) (hs : Sl w w.heap.size A n (bl.map u8v)) :
    Calls Try.prog 43 #[.slice A n c] w (DecAny w bl) := by
  have hl : bl.length = n := by have := hs.1; simpa using this
  by_cases h5 : n < 5
  · refine (pdec_short w A n c h5).mono ?_
    rintro e w' ⟨rfl, hB⟩
    refine ⟨hB, .inr ⟨?_, rfl⟩⟩
    unfold decodable
    rw [decide_eq_false (show ¬ 5 ≤ bl.length by omega)]
    rfl
  · obtain ⟨b, off, rfl⟩ := sl_some hs (by omega)
    have hh := head_of (by omega) hbl hs
    by_cases h1 : num4 bl ≤ 1048576
    · by_cases h2 : bl.getD 4 0 ≤ 64
      · by_cases h3 : n = 5 + (num4 bl * bl.getD 4 0 + 7) / 8
        · refine (pdec_ok w b off n c _ _ _ _ _ _ (by omega) hnc hcm hh h1 h2 h3 bl hbl hs).mono ?_
          rintro e w' ⟨hB, hr⟩
          refine ⟨hB, ?_⟩
          have hd : decodable bl = decide (code (decodeL bl) = bl) := by
            unfold decodable
            rw [decide_eq_true (show 5 ≤ bl.length by omega), decide_eq_true h1, decide_eq_true h2, decide_eq_true (show bl.length = _ by rw [hl]; exact h3)]
            rfl
          rw [hd]
          rcases hr with ⟨h4, p, g, rfl, hp⟩ | ⟨h4, rfl⟩
          · exact .inl ⟨decide_eq_true h4, p, g, rfl, hp⟩
          · exact .inr ⟨decide_eq_false h4, rfl⟩
        · refine (pdec_bad3 w b off n c _ _ _ _ _ _ (by omega) (by omega) hh h1 h2 h3).mono ?_
          rintro e w' ⟨rfl, hB⟩
          refine ⟨hB, .inr ⟨?_, rfl⟩⟩
          unfold decodable
          rw [decide_eq_false (show ¬ bl.length = _ by rw [hl]; exact h3)]
          simp
      · refine (pdec_bad2 w b off n c _ _ _ _ _ _ (by omega) (by omega) hh h1 (by omega)).mono ?_
        rintro e w' ⟨rfl, hB⟩
        refine ⟨hB, .inr ⟨?_, rfl⟩⟩
        unfold decodable
        rw [decide_eq_false h2]
        simp
    · refine (pdec_bad1 w b off n c _ _ _ _ _ _ (by omega) (by omega) hh (by omega)).mono ?_
      rintro e w' ⟨rfl, hB⟩
      refine ⟨hB, .inr ⟨?_, rfl⟩⟩
      unfold decodable
      rw [decide_eq_false h1]
      simp

set_option maxHeartbeats 1000000 in
theorem rsame_any (w : World) (A A' : Option Addr) (n c n' c' B : Nat) (la lb : List Nat) (hn : n ≤ maxLen) (hn' : n' ≤ maxLen) (ha : Sl w B A n (la.map u8v)) (hb : Sl w B A' n' (lb.map u8v)) :
    Calls Try.prog 85 #[.slice A n c, .slice A' n' c'] w fun e w' => e = .returned (.bool (decide (la = lb))) ∧ ∃ k, w' = w.drewN k := by
  unfold maxLen at hn hn'
  have hla : Hid (la.length = n) := Lib.hid (by have := ha.1; simpa using this)
  have hlb : Hid (lb.length = n') := Lib.hid (by have := hb.1; simpa using this)
  have HA := Lib.hid ha; have HB := Lib.hid hb; clear ha hb
  by_cases hnn : n = n'
  · subst hnn
    go_enter Try.func85, Try.ntmps85
    go_wp2
    go_loopw [5] (fun i wr => ∃ k : Nat, k ≤ n ∧ i = .int .i64 k ∧ la.take k = lb.take k ∧ ∃ q, wr = w.drewN q) (fun i _ => n - (intOf i).toNat)
    case atStart => exact ⟨0, Nat.zero_le _, rfl, rfl, 0, rfl⟩
    case round =>
      obtain ⟨k, hk, rfl, htk, q, rfl⟩ := hrel
      have HT := Lib.hid htk; clear htk
      by_cases hlt : k < n
      · obtain ⟨b1, o1, u1, rfl, _, hu1, hc1⟩ := HA.out.at_ hlt
        obtain ⟨b2, o2, u2, rfl, _, hu2, hc2⟩ := HB.out.at_ hlt
        obtain ⟨v1, hv1, rfl⟩ := at_u8 hu1
        obtain ⟨v2, hv2, rfl⟩ := at_u8 hu2
        have HV1 := Lib.hid hv1; have HV2 := Lib.hid hv2; clear hu1 hu2 hv1 hv2
        have hli : (k : Int) < (n : Int) := by omega
        by_cases hv : v1 = v2
        · have hbne : ((v1 : Int) != (v2 : Int)) = false := by simp [hv]
          have HE := Lib.hid hv; clear hv
          go_wp2
          go_quiet (fail)
          go_wp2
          go_roundw
          case rel => exact ⟨k + 1, by omega, by go_num, take_ext HV1.out HV2.out HE.out HT.out, _, rfl⟩
          case measure => simp [intOf]; omega
        · have hbne : ((v1 : Int) != (v2 : Int)) = true := by simp; omega
          have HE := Lib.hid hv; clear hv
          go_wp2
          go_quiet (fail)
          go_wp2
          go_ret
          exact ⟨by rw [decide_eq_false (ne_of_at HV1.out HV2.out HE.out)]; rfl, q + nq, by first | rfl | exact World.drewN_drewN _ _ _⟩
      · obtain rfl : n = k := by omega
        go_wp2
        go_ret
        exact ⟨by rw [decide_eq_true (eq_of_all la lb 0 n hla.out hlb.out HT.out)]; rfl, q, rfl⟩
  · have hne : ((n : Int) != (n' : Int)) = true := by simp; omega
    go_enter Try.func85, Try.ntmps85
    go_wp2
    go_ret
    refine ⟨?_, 0, rfl⟩
    rw [decide_eq_false (fun e => hnn (by rw [← hla.out, ← hlb.out, e]))]; rfl


/-- What the reference's Decode comes to. -/
def RDecAny (w : World) (bl : List Nat) (e : Ending) (w' : World) : Prop :=
  Below w.heap.size w w' ∧ ∃ A n c, e = .returned (.tuple #[.slice A n c, .bool (decodable bl)]) ∧ (decodable bl = true → w'.ownsRow w.heap.size 87 1 (.slice A n c) n ((decodeL bl).map u64v))
set_option maxHeartbeats 1000000 in
theorem rdec_short (w : World) (A : Option Addr) (n c : Nat) (hn : n < 5) :
    Calls Try.prog 64 #[.slice A n c] w fun e w' => e = .returned (.tuple #[.slice none 0 0, .bool false]) ∧ Below w.heap.size w w' := by
  have hnb : decide ((n : Int) < 5) = true := by simp; omega
  go_enter Try.func64, Try.ntmps64
  go_wp2
  go_ret2
  exact ⟨rfl, Below.refl _ _⟩
set_option maxHeartbeats 4000000 in
theorem rdec_bad1 (w : World) (b off n c b0 b1 b2 b3 wd N4 : Nat) (hn : 5 ≤ n) (hnm : n ≤ 9223372036854775807) (hh : Head w b off n b0 b1 b2 b3 wd N4) (hbad : 1048576 < N4) :
    Calls Try.prog 64 #[.slice (some ⟨b, off, none⟩) n c] w fun e w' => e = .returned (.tuple #[.slice none 0 0, .bool false]) ∧ Below w.heap.size w w' := by
  obtain ⟨h0, h1, h2, h3, h4, c0, c1, c2, c3, c4, eN⟩ := hh
  have hnb : decide ((n : Int) < 5) = false := by simp; omega
  have i0 : (0 : Int) < (n : Int) := by omega
  have i1 : (1 : Int) < (n : Int) := by omega
  have i2 : (2 : Int) < (n : Int) := by omega
  have i3 : (3 : Int) < (n : Int) := by omega
  have i4 : (4 : Int) < (n : Int) := by omega
  have hN4 : N4 < 4294967296 := by omega
  have hsum : (b0 : Int) + (b1 : Int) * 256 + (b2 : Int) * 65536 + (b3 : Int) * 16777216 = (N4 : Int) := by omega
  clear eN
  have g1 : decide ((1048576 : Int) < (N4 : Int)) = true := by simp; omega
  go_enter Try.func64, Try.ntmps64
  go_wp2
  go_quiet (fail)
  go_wp2
  go_ret2
  exact ⟨rfl, bel_drewN (Below.refl _ _) _⟩

set_option maxHeartbeats 4000000 in
theorem rdec_bad2 (w : World) (b off n c b0 b1 b2 b3 wd N4 : Nat) (hn : 5 ≤ n) (hnm : n ≤ 9223372036854775807) (hh : Head w b off n b0 b1 b2 b3 wd N4) (hok : N4 ≤ 1048576) (hbad : 64 < wd) :
    Calls Try.prog 64 #[.slice (some ⟨b, off, none⟩) n c] w fun e w' => e = .returned (.tuple #[.slice none 0 0, .bool false]) ∧ Below w.heap.size w w' := by
  obtain ⟨h0, h1, h2, h3, h4, c0, c1, c2, c3, c4, eN⟩ := hh
  have hnb : decide ((n : Int) < 5) = false := by simp; omega
  have i0 : (0 : Int) < (n : Int) := by omega
  have i1 : (1 : Int) < (n : Int) := by omega
  have i2 : (2 : Int) < (n : Int) := by omega
  have i3 : (3 : Int) < (n : Int) := by omega
  have i4 : (4 : Int) < (n : Int) := by omega
  have hN4 : N4 < 4294967296 := by omega
  have hsum : (b0 : Int) + (b1 : Int) * 256 + (b2 : Int) * 65536 + (b3 : Int) * 16777216 = (N4 : Int) := by omega
  clear eN
  have g1 : decide ((1048576 : Int) < (N4 : Int)) = false := by simp; omega
  have g2 : decide ((64 : Int) < (wd : Int)) = true := by simp; omega
  go_enter Try.func64, Try.ntmps64
  go_wp2
  go_quiet (fail)
  go_wp2
  go_ret2
  exact ⟨rfl, bel_drewN (Below.refl _ _) _⟩

set_option maxHeartbeats 4000000 in
theorem rdec_bad3 (w : World) (b off n c b0 b1 b2 b3 wd N4 : Nat) (hn : 5 ≤ n) (hnm : n ≤ 9223372036854775807) (hh : Head w b off n b0 b1 b2 b3 wd N4) (hok : N4 ≤ 1048576) (hok2 : wd ≤ 64) (hbad : ¬ n = 5 + (N4 * wd + 7) / 8) :
    Calls Try.prog 64 #[.slice (some ⟨b, off, none⟩) n c] w fun e w' => e = .returned (.tuple #[.slice none 0 0, .bool false]) ∧ Below w.heap.size w w' := by
  obtain ⟨h0, h1, h2, h3, h4, c0, c1, c2, c3, c4, eN⟩ := hh
  have hnb : decide ((n : Int) < 5) = false := by simp; omega
  have i0 : (0 : Int) < (n : Int) := by omega
  have i1 : (1 : Int) < (n : Int) := by omega
  have i2 : (2 : Int) < (n : Int) := by omega
  have i3 : (3 : Int) < (n : Int) := by omega
  have i4 : (4 : Int) < (n : Int) := by omega
  have hN4 : N4 < 4294967296 := by omega
  have hsum : (b0 : Int) + (b1 : Int) * 256 + (b2 : Int) * 65536 + (b3 : Int) * 16777216 = (N4 : Int) := by omega
  clear eN
  have g1 : decide ((1048576 : Int) < (N4 : Int)) = false := by simp; omega
  have g2 : decide ((64 : Int) < (wd : Int)) = false := by simp; omega
  have hp : N4 * wd ≤ 67108864 := by
    have := Nat.mul_le_mul hok hok2
    omega
  have hpi : (N4 : Int) * (wd : Int) ≤ 67108864 := by rw [cast_prod]; omega
  have hpi0 : 0 ≤ (N4 : Int) * (wd : Int) := by rw [cast_prod]; omega
  have g3 : ((n : Int) != 5 + ((N4 : Int) * (wd : Int) + 7) / 8) = true := by rw [bne_iff_ne, cast_prod]; omega
  go_enter Try.func64, Try.ntmps64
  go_wp2
  go_quiet (fail)
  go_wp2
  go_ret2
  exact ⟨rfl, bel_drewN (Below.refl _ _) _⟩

end Go.Proofs.Ytpnkjfjkeoleaaa

/-! The reference of layer 10: Decode, the codes of the right size. -/
set_option linter.unusedVariables false
namespace Go.Proofs.Ytpnkjfjkeoleaaa
open Go.RowKit HK

theorem div_digit (N k j : Nat) : N / 2 ^ (8 * (j / 8)) % 2 ^ 8 / 2 ^ (j % 8) % 2 = N / 2 ^ j % 2 := by
  have h2 : ∀ (x i : Nat), x / 2 ^ i % 2 = (x.testBit i).toNat := fun x i => by rw [Nat.toNat_testBit]
  rw [h2, h2, Nat.testBit_mod_two_pow, Nat.testBit_div_two_pow]
  have e : j % 8 + 8 * (j / 8) = j := by omega
  have e2 : j % 8 < 8 := by omega
  rw [e]; simp [e2]
theorem dl_bit (dl : List Nat) (h : ∀ v ∈ dl, v < 256) (j v : Nat) (hv : dl[j / 8]? = some v) : v / 2 ^ (j % 8) % 2 = packN 8 dl / 2 ^ j % 2 := by
  obtain ⟨hi, rfl⟩ := List.getElem?_eq_some_iff.1 hv
  rw [← packN_digit 8 dl (j / 8) h hi, div_digit _ 0]
theorem mod_step (N s k : Nat) : N / 2 ^ s % 2 ^ (k + 1) = N / 2 ^ s % 2 ^ k + 2 ^ k * (N / 2 ^ (s + k) % 2) := by
  rw [Nat.mod_pow_succ, Nat.div_div_eq_div_mul, ← Nat.pow_add]
theorem u64_add_bit (v k : Nat) (hv : v < 2 ^ k) (hk : k < 64) : IntKind.u64.wrap ((v : Int) + IntKind.u64.wrap (2 ^ k)) = ((v + 2 ^ k : Nat) : Int) := by
  have h1 : 2 ^ k ≤ 2 ^ 63 := Nat.pow_le_pow_right (by decide) (by omega)
  have e : ((2 : Int) ^ k) = ((2 ^ k : Nat) : Int) := by simp
  rw [e, IntKind.wrap_u64, IntKind.wrap_u64]
  generalize 2 ^ k = p at *
  omega

set_option maxHeartbeats 8000000 in
theorem rdec_ok (w : World) (b off n c b0 b1 b2 b3 wd N4 : Nat) (hn : 5 ≤ n) (hnm : n ≤ 9223372036854775807) (hh : Head w b off n b0 b1 b2 b3 wd N4) (hok : N4 ≤ 1048576) (hok2 : wd ≤ 64) (hlen : n = 5 + (N4 * wd + 7) / 8)
    (bl : List Nat) (hbl : ∀ v ∈ bl, v < 256) (hs : Sl w w.heap.size (some ⟨b, off, none⟩) n (bl.map u8v)) :
    Calls Try.prog 64 #[.slice (some ⟨b, off, none⟩) n c] w fun e w' => Below w.heap.size w w' ∧
      ∃ A c, e = .returned (.tuple #[.slice A N4 c, .bool (decide (code (unpack wd N4 (packN 8 (bl.drop 5))) = bl))]) ∧ w'.ownsRow w.heap.size 87 1 (.slice A N4 c) N4 ((unpack wd N4 (packN 8 (bl.drop 5))).map u64v) := by
  obtain ⟨h0, h1, h2, h3, h4, c0, c1, c2, c3, c4, eN⟩ := hh
  have hnb : decide ((n : Int) < 5) = false := by simp; omega
  have i0 : (0 : Int) < (n : Int) := by omega
  have i1 : (1 : Int) < (n : Int) := by omega
  have i2 : (2 : Int) < (n : Int) := by omega
  have i3 : (3 : Int) < (n : Int) := by omega
  have i4 : (4 : Int) < (n : Int) := by omega
  have hN4 : N4 < 4294967296 := by omega
  have hsum : (b0 : Int) + (b1 : Int) * 256 + (b2 : Int) * 65536 + (b3 : Int) * 16777216 = (N4 : Int) := by omega
  clear eN
  have g1 : decide ((1048576 : Int) < (N4 : Int)) = false := by simp; omega
  have g2 : decide ((64 : Int) < (wd : Int)) = false := by simp; omega
  have hp : N4 * wd ≤ 67108864 := by
    have := Nat.mul_le_mul hok hok2
    omega
  have hpi : (N4 : Int) * (wd : Int) ≤ 67108864 := by rw [cast_prod]; omega
  have hpi0 : 0 ≤ (N4 : Int) * (wd : Int) := by rw [cast_prod]; omega
  have g3 : ((n : Int) != 5 + ((N4 : Int) * (wd : Int) + 7) / 8) = false := by rw [bne_eq_false_iff_eq, cast_prod]; omega
  have HLEN := Lib.hid hlen; clear hlen
  have HBL := Lib.hid hbl; have HS := Lib.hid hs; clear hbl hs
  have HD8 : Hid (∀ v ∈ bl.drop 5, v < 256) := Lib.hid (fun v hv => HBL.out v (List.mem_of_mem_drop hv))
  obtain ⟨NN, hNN⟩ : ∃ NN, packN 8 (bl.drop 5) = NN := ⟨_, rfl⟩
  have HB5 : Hid (∀ j v, bl[5 + j / 8]? = some v → v / 2 ^ (j % 8) % 2 = NN / 2 ^ j % 2) := Lib.hid (by
    intro j v h
    rw [← hNN]
    exact dl_bit (bl.drop 5) HD8.out j v (by rw [List.getElem?_drop]; exact h))
  rw [hNN]
  clear hNN
  obtain ⟨it0, hif, hz0, hz1, hz2⟩ := info_parts infoU64
  go_enter Try.func64, Try.ntmps64
  go_wp2
  go_quiet (fail)
  clear hsum i0 i1 i2 i3 c0 c1 c2 c3
  go_wp2
  go_loopw [6, 7] (fun o ix wr => ∃ i : Nat, i ≤ N4 ∧ ix = .int .i64 i ∧ wr.ownsRow w.heap.size 87 1 o i ((unpack wd i NN).map u64v) ∧ Below w.heap.size w wr) (fun _ ix _ => N4 - (intOf ix).toNat)
  case atStart => exact ⟨0, Nat.zero_le _, rfl, World.ownsRow_nil _ _ _ _, bel_drewN (Below.refl _ _) _⟩
  case round =>
    obtain ⟨i, hi, rfl, hown, hB⟩ := hrel
    have HO := Lib.hid hown; clear hown
    by_cases hlt : i < N4
    · have hpr := prods i N4 wd hlt hok hok2
      have hpii : (i : Int) * (wd : Int) + (wd : Int) ≤ (N4 : Int) * (wd : Int) := by rw [cast_prod, cast_prod]; omega
      have hpii0 : 0 ≤ (i : Int) * (wd : Int) := by rw [cast_prod]; omega
      obtain ⟨wo, rfl⟩ : ∃ wo : World, wo = wr := ⟨_, rfl⟩
      go_wp2
      go_loop [8, 9] (fun vv kx => ∃ k v : Nat, k ≤ wd ∧ kx = .int .i64 k ∧ vv = .int .u64 v ∧ Hid (v = NN / 2 ^ (i * wd) % 2 ^ k)) (fun _ kx => wd - (intOf kx).toNat)
      case atStart => exact ⟨0, 0, Nat.zero_le _, rfl, rfl, Lib.hid (by simp [Nat.mod_one])⟩
      case round =>
        obtain ⟨k, v, hk, rfl, rfl, HV⟩ := hrel
        by_cases hklt : k < wd
        · have hin : 5 + (i * wd + k) / 8 < n := by have := HLEN.out; omega
          obtain ⟨b', off', u, he, hb, hu, hcu⟩ := HS.out.at_ hin
          injection he with he
          injection he with he1 he2
          subst he1 he2
          obtain ⟨y, hy, rfl⟩ := at_u8 hu
          have hbit := HB5.out (i * wd + k) y hy
          have hcy : wo.cell? ⟨b, off + (5 + (i * wd + k) / 8), none⟩ = some (.int .u8 (y : Int)) := (hB.cell (p := ⟨b, off + (5 + (i * wd + k) / 8), none⟩) hb).trans hcu
          have HBIT := Lib.hid hbit; clear hu hy hcu hbit
          have hini : 5 + ((i : Int) * (wd : Int) + (k : Int)) / 8 < (n : Int) := by rw [cast_prod]; omega
          have hvk : v < 2 ^ k := by rw [HV.out]; exact Nat.mod_lt _ (Nat.two_pow_pos k)
          have HVK := Lib.hid hvk; clear hvk
          by_cases hb1 : y / 2 ^ ((i * wd + k) % 8) % 2 = 1
          · have ht : (((y : Int) / 2 ^ ((i * wd + k) % 8)).tmod 2 == 1) = true := tmod_bit1 y _ hb1
            have HB1 := Lib.hid hb1; clear hb1
            go_wp2
            go_round
            case rel =>
              refine ⟨k + 1, v + 2 ^ k, by omega, by go_num, by rw [u64_add_bit v k HVK.out (by omega)], Lib.hid ?_⟩
              rw [mod_step, ← HBIT.out, HB1.out, Nat.mul_one, HV.out]
            case measure => simp [intOf]; omega
          · have ht : (((y : Int) / 2 ^ ((i * wd + k) % 8)).tmod 2 == 1) = false := tmod_bit0 y _ hb1
            have HB1 := Lib.hid hb1; clear hb1
            go_wp2
            go_round
            case rel =>
              refine ⟨k + 1, v, by omega, by go_num, rfl, Lib.hid ?_⟩
              have h0 : y / 2 ^ ((i * wd + k) % 8) % 2 = 0 := by have := HB1.out; omega
              rw [mod_step, ← HBIT.out, h0, Nat.mul_zero, Nat.add_zero, HV.out]
            case measure => simp [intOf]; omega
        · obtain rfl : wd = k := by omega
          go_wp2_with (at_builtin; refine wpList_append_own _ rfl _ _ 80 rfl w.heap.size 87 it0 (.int .u64 0) 1 8 Try.underlying80 hif hz0 hz1 hz2 rfl (by decide) _ _ _ rfl (HO.out.alloc _) ⟨wo.heap.size, 0, none⟩ 1 1 [_] rfl rfl (cell_one_new _ _ _) one_oneCell (by unfold maxLen; omega) (by omega) (by have := hB.size; simp; omega) ?_; intro v' w1 hown1 hgrow1 _)
          have hB1 := bel_app hB (Nat.le_refl _) HO.out hgrow1
          have HO1 := Lib.hid hown1; clear hown1 hgrow1
          go_wp2
          go_roundw
          case rel =>
            refine ⟨i + 1, by omega, by go_num, ?_, hB1⟩
            have h1 := HO1.out
            rw [unpack_succ, List.map_append, Nat.mul_comm wd i, ← HV.out]
            exact h1
          case measure => simp [intOf]; omega
    · obtain rfl : N4 = i := by omega
      obtain ⟨A1, c1, rfl, hc1, hcm1⟩ := own_shape HO.out
      have hul := unpack_lt wd N4 NN hok2
      have HUL := Lib.hid hul; clear hul
      go_wp2_with fail
      refine (renc_any wr A1 N4 c1 (unpack wd N4 NN) hok HUL.out (Sl.of_own HO.out)).mono ?_
      rintro e w2 ⟨A2, c2, rfl, hown2, hB2, hc2⟩
      have hB2' := hB.trans (hB2.mono hB.size)
      have HO1 := Lib.hid (own_below HO.out hB2 (fun q e => (HO.out.lt q e).2))
      have HO2 := Lib.hid hown2; clear hown2
      have hcl := code_len_le (unpack wd N4 NN) (by rw [unpack_length]; exact hok) HUL.out
      go_wp2_with fail
      refine (rsame_any w2 A2 _ _ _ _ _ w2.heap.size (code (unpack wd N4 NN)) bl (by unfold maxLen; omega) (by unfold maxLen; omega) (Sl.of_own HO2.out) ((HS.out.below hB2').more hB2'.size)).mono ?_
      rintro e w3 ⟨rfl, hq3⟩
      have hB3 := hB2'.trans (bel_quiet _ hq3)
      have HO3 := Lib.hid (own_below HO1.out (bel_quiet w2.heap.size hq3) (fun q e => (HO1.out.lt q e).2))
      clear hq3
      go_wp2
      go_ret2
      exact ⟨hB3, A1, c1, rfl, HO3.out⟩

theorem rdec_any (w : World) (A : Option Addr) (n c : Nat) (bl : List Nat) (hnc : n ≤ c) (hcm : c ≤ 9223372036854775807) (hbl : ∀ v ∈ bl, v < 256) (hs : Sl w w.heap.size A n (bl.map u8v)) :
    Calls Try.prog 64 #[.slice A n c] w (RDecAny w bl) := by
  have hl : bl.length = n := by have := hs.1; simpa using this
  by_cases h5 : n < 5
  · refine (rdec_short w A n c h5).mono ?_
    rintro e w' ⟨rfl, hB⟩
    have hd : decodable bl = false := by
      unfold decodable
      rw [decide_eq_false (show ¬ 5 ≤ bl.length by omega)]
      rfl
    exact ⟨hB, none, 0, 0, by rw [hd], fun h => by rw [hd] at h; cases h⟩
  · obtain ⟨b, off, rfl⟩ := sl_some hs (by omega)
    have hh := head_of (by omega) hbl hs
    by_cases h1 : num4 bl ≤ 1048576
    · by_cases h2 : bl.getD 4 0 ≤ 64
      · by_cases h3 : n = 5 + (num4 bl * bl.getD 4 0 + 7) / 8
        · refine (rdec_ok w b off n c _ _ _ _ _ _ (by omega) (by omega) hh h1 h2 h3 bl hbl hs).mono ?_
          rintro e w' ⟨hB, A, c', rfl, hown⟩
          have hd : decodable bl = decide (code (decodeL bl) = bl) := by
            unfold decodable
            rw [decide_eq_true (show 5 ≤ bl.length by omega), decide_eq_true h1, decide_eq_true h2, decide_eq_true (show bl.length = _ by rw [hl]; exact h3)]
            rfl
          exact ⟨hB, A, _, c', by rw [hd]; rfl, fun _ => hown⟩
        · refine (rdec_bad3 w b off n c _ _ _ _ _ _ (by omega) (by omega) hh h1 h2 h3).mono ?_
          rintro e w' ⟨rfl, hB⟩
          have hd : decodable bl = false := by
            unfold decodable
            rw [decide_eq_false (show ¬ bl.length = _ by rw [hl]; exact h3)]
            simp
          exact ⟨hB, none, 0, 0, by rw [hd], fun h => by rw [hd] at h; cases h⟩
      · refine (rdec_bad2 w b off n c _ _ _ _ _ _ (by omega) (by omega) hh h1 (by omega)).mono ?_
        rintro e w' ⟨rfl, hB⟩
        have hd : decodable bl = false := by
          unfold decodable
          rw [decide_eq_false h2]
          simp
        exact ⟨hB, none, 0, 0, by rw [hd], fun h => by rw [hd] at h; cases h⟩
    · refine (rdec_bad1 w b off n c _ _ _ _ _ _ (by omega) (by omega) hh (by omega)).mono ?_
      rintro e w' ⟨rfl, hB⟩
      have hd : decodable bl = false := by
        unfold decodable
        rw [decide_eq_false h1]
        simp
      exact ⟨hB, none, 0, 0, by rw [hd], fun h => by rw [hd] at h; cases h⟩
end Go.Proofs.Ytpnkjfjkeoleaaa
