/- packed: Decode, all bytes; the reference of layer 10: same, Decode. -/
import Derived.Test.YtjjhllbbkflnnaaPkDecOk
set_option linter.unusedVariables false
namespace Go.Proofs.Ytjjhllbbkflnnaa
open Go.RowKit HK

theorem head_of {w : World} {b off n : Nat} {bl : List Nat} (hn : 5 ≤ n) (hbl : ∀ v ∈ bl, v < 256) (hs : Sl w w.heap.size (some ⟨b, off, none⟩) n (bl.map u8v)) :
    Head w b off n (bl.getD 0 0) (bl.getD 1 0) (bl.getD 2 0) (bl.getD 3 0) (bl.getD 4 0) (num4 bl) := by
  have hl : bl.length = n := by have := hs.1; simpa using this
  have hat : ∀ k, k < n → w.cell? ⟨b, off + k, none⟩ = some (.int .u8 ((bl.getD k 0 : Nat) : Int)) ∧ bl.getD k 0 < 256 := by
    intro k hk
    obtain ⟨b', off', e, hb, hc⟩ := hs.2 (by omega)
    injection e with e
    injection e with e1 e2
    subst e1 e2
    have hk2 : bl[k]? = some bl[k] := List.getElem?_eq_getElem (by omega)
    have hd : bl.getD k 0 = bl[k] := by rw [List.getD_eq_getElem?_getD, hk2]; rfl
    rw [hd]
    exact ⟨hc k _ (by rw [List.getElem?_map, hk2]; rfl), hbl _ (List.getElem_mem _)⟩
  exact ⟨(hat 0 (by omega)).2, (hat 1 (by omega)).2, (hat 2 (by omega)).2, (hat 3 (by omega)).2, (hat 4 (by omega)).2, (hat 0 (by omega)).1, (hat 1 (by omega)).1, (hat 2 (by omega)).1, (hat 3 (by omega)).1, (hat 4 (by omega)).1, rfl⟩

/-- What Decode comes to, for any bytes. -/
def DecAny (w : World) (bl : List Nat) (e : Ending) (w' : World) : Prop :=
  Below w.heap.size w w' ∧ ((decodable bl = true ∧ ∃ p g, e = .returned (.tuple #[.pointer (some ⟨p, 0, none⟩), .int .i64 0]) ∧ IsP w' w.heap.size p g (decodeL bl)) ∨ (decodable bl = false ∧ e = .returned (.tuple #[.pointer none, .int .i64 5])))
theorem sl_some {w : World} {B : Nat} {A : Option Addr} {n : Nat} {xs : List Value} (h : Sl w B A n xs) (hn : 0 < n) : ∃ b off, A = some ⟨b, off, none⟩ := by
  obtain ⟨b, off, e, _⟩ := h.2 hn
  exact ⟨b, off, e⟩
theorem pdec_any (w : World) (A : Option Addr) (n c : Nat) (bl : List Nat) (hnc : n ≤ c) (hcm : c ≤ 9223372036854775807) (hbl : ∀ v ∈ bl, v < 256) (hs : Sl w w.heap.size A n (bl.map u8v)) :
    Calls Try.prog 22 #[.slice A n c] w (DecAny w bl) := by
  have hl : bl.length = n := by have := hs.1; simpa using this
  by_cases h5 : n < 5
  · refine (pdec_short w A n c h5).mono ?_
    rintro e w' ⟨rfl, hB⟩
    refine ⟨hB, .inr ⟨?_, rfl⟩⟩
    unfold decodable
    rw [decide_eq_false (show ¬ 5 ≤ bl.length by omega)]
    rfl
  · obtain ⟨b, off, rfl⟩ := sl_some hs (by omega)
    have hh := head_of (by omega) hbl hs
    by_cases h1 : num4 bl ≤ 1048576
    · by_cases h2 : bl.getD 4 0 ≤ 64
      · by_cases h3 : n = 5 + (num4 bl * bl.getD 4 0 + 7) / 8
        · refine (pdec_ok w b off n c _ _ _ _ _ _ (by omega) hnc hcm hh h1 h2 h3 bl hbl hs).mono ?_
          rintro e w' ⟨hB, hr⟩
          refine ⟨hB, ?_⟩
          have hd : decodable bl = decide (code (decodeL bl) = bl) := by
            unfold decodable
            rw [decide_eq_true (show 5 ≤ bl.length by omega), decide_eq_true h1, decide_eq_true h2, decide_eq_true (show bl.length = _ by rw [hl]; exact h3)]
            rfl
          rw [hd]
          rcases hr with ⟨h4, p, g, rfl, hp⟩ | ⟨h4, rfl⟩
          · exact .inl ⟨decide_eq_true h4, p, g, rfl, hp⟩
          · exact .inr ⟨decide_eq_false h4, rfl⟩
        · refine (pdec_bad3 w b off n c _ _ _ _ _ _ (by omega) (by omega) hh h1 h2 h3).mono ?_
          rintro e w' ⟨rfl, hB⟩
          refine ⟨hB, .inr ⟨?_, rfl⟩⟩
          unfold decodable
          rw [decide_eq_false (show ¬ bl.length = _ by rw [hl]; exact h3)]
          simp
      · refine (pdec_bad2 w b off n c _ _ _ _ _ _ (by omega) (by omega) hh h1 (by omega)).mono ?_
        rintro e w' ⟨rfl, hB⟩
        refine ⟨hB, .inr ⟨?_, rfl⟩⟩
        unfold decodable
        rw [decide_eq_false h2]
        simp
    · refine (pdec_bad1 w b off n c _ _ _ _ _ _ (by omega) (by omega) hh (by omega)).mono ?_
      rintro e w' ⟨rfl, hB⟩
      refine ⟨hB, .inr ⟨?_, rfl⟩⟩
      unfold decodable
      rw [decide_eq_false h1]
      simp

set_option maxHeartbeats 1000000 in
theorem rsame_any (w : World) (A A' : Option Addr) (n c n' c' B : Nat) (la lb : List Nat) (hn : n ≤ maxLen) (hn' : n' ≤ maxLen) (ha : Sl w B A n (la.map u8v)) (hb : Sl w B A' n' (lb.map u8v)) :
    Calls Try.prog 31 #[.slice A n c, .slice A' n' c'] w fun e w' => e = .returned (.bool (decide (la = lb))) ∧ ∃ k, w' = w.drewN k := by
  unfold maxLen at hn hn'
  have hla : Hid (la.length = n) := Lib.hid (by have := ha.1; simpa using this)
  have hlb : Hid (lb.length = n') := Lib.hid (by have := hb.1; simpa using this)
  have HA := Lib.hid ha; have HB := Lib.hid hb; clear ha hb
  by_cases hnn : n = n'
  · subst hnn
    go_enter Try.func31, Try.ntmps31
    go_wp2
    go_loopw [5] (fun i wr => ∃ k : Nat, k ≤ n ∧ i = .int .i64 k ∧ la.take k = lb.take k ∧ ∃ q, wr = w.drewN q) (fun i _ => n - (intOf i).toNat)
    case atStart => exact ⟨0, Nat.zero_le _, rfl, rfl, 0, rfl⟩
    case round =>
      obtain ⟨k, hk, rfl, htk, q, rfl⟩ := hrel
      have HT := Lib.hid htk; clear htk
      by_cases hlt : k < n
      · obtain ⟨b1, o1, u1, rfl, _, hu1, hc1⟩ := HA.out.at_ hlt
        obtain ⟨b2, o2, u2, rfl, _, hu2, hc2⟩ := HB.out.at_ hlt
        obtain ⟨v1, hv1, rfl⟩ := at_u8 hu1
        obtain ⟨v2, hv2, rfl⟩ := at_u8 hu2
        have HV1 := Lib.hid hv1; have HV2 := Lib.hid hv2; clear hu1 hu2 hv1 hv2
        have hli : (k : Int) < (n : Int) := by omega
        by_cases hv : v1 = v2
        · have hbne : ((v1 : Int) != (v2 : Int)) = false := by simp [hv]
          have HE := Lib.hid hv; clear hv
          go_wp2
          go_quiet (fail)
          go_wp2
          go_roundw
          case rel => exact ⟨k + 1, by omega, by go_num, take_ext HV1.out HV2.out HE.out HT.out, _, rfl⟩
          case measure => simp [intOf]; omega
        · have hbne : ((v1 : Int) != (v2 : Int)) = true := by simp; omega
          have HE := Lib.hid hv; clear hv
          go_wp2
          go_quiet (fail)
          go_wp2
          go_ret
          exact ⟨by rw [decide_eq_false (ne_of_at HV1.out HV2.out HE.out)]; rfl, q + nq, by first | rfl | exact World.drewN_drewN _ _ _⟩
      · obtain rfl : n = k := by omega
        go_wp2
        go_ret
        exact ⟨by rw [decide_eq_true (eq_of_all la lb 0 n hla.out hlb.out HT.out)]; rfl, q, rfl⟩
  · have hne : ((n : Int) != (n' : Int)) = true := by simp; omega
    go_enter Try.func31, Try.ntmps31
    go_wp2
    go_ret
    refine ⟨?_, 0, rfl⟩
    rw [decide_eq_false (fun e => hnn (by rw [← hla.out, ← hlb.out, e]))]; rfl


/-- What the reference's Decode comes to. -/
def RDecAny (w : World) (bl : List Nat) (e : Ending) (w' : World) : Prop :=
  Below w.heap.size w w' ∧ ∃ A n c, e = .returned (.tuple #[.slice A n c, .bool (decodable bl)]) ∧ (decodable bl = true → w'.ownsRow w.heap.size 27 1 (.slice A n c) n ((decodeL bl).map u64v))
set_option maxHeartbeats 1000000 in
theorem rdec_short (w : World) (A : Option Addr) (n c : Nat) (hn : n < 5) :
    Calls Try.prog 23 #[.slice A n c] w fun e w' => e = .returned (.tuple #[.slice none 0 0, .bool false]) ∧ Below w.heap.size w w' := by
  have hnb : decide ((n : Int) < 5) = true := by simp; omega
  go_enter Try.func23, Try.ntmps23
  go_wp2
  go_ret2
  exact ⟨rfl, Below.refl _ _⟩
set_option maxHeartbeats 4000000 in
theorem rdec_bad1 (w : World) (b off n c b0 b1 b2 b3 wd N4 : Nat) (hn : 5 ≤ n) (hnm : n ≤ 9223372036854775807) (hh : Head w b off n b0 b1 b2 b3 wd N4) (hbad : 1048576 < N4) :
    Calls Try.prog 23 #[.slice (some ⟨b, off, none⟩) n c] w fun e w' => e = .returned (.tuple #[.slice none 0 0, .bool false]) ∧ Below w.heap.size w w' := by
  obtain ⟨h0, h1, h2, h3, h4, c0, c1, c2, c3, c4, eN⟩ := hh
  have hnb : decide ((n : Int) < 5) = false := by simp; omega
  have i0 : (0 : Int) < (n : Int) := by omega
  have i1 : (1 : Int) < (n : Int) := by omega
  have i2 : (2 : Int) < (n : Int) := by omega
  have i3 : (3 : Int) < (n : Int) := by omega
  have i4 : (4 : Int) < (n : Int) := by omega
  have hN4 : N4 < 4294967296 := by omega
  have hsum : (b0 : Int) + (b1 : Int) * 256 + (b2 : Int) * 65536 + (b3 : Int) * 16777216 = (N4 : Int) := by omega
  clear eN
  have g1 : decide ((1048576 : Int) < (N4 : Int)) = true := by simp; omega
  go_enter Try.func23, Try.ntmps23
  go_wp2
  go_quiet (fail)
  go_wp2
  go_ret2
  exact ⟨rfl, bel_drewN (Below.refl _ _) _⟩

set_option maxHeartbeats 4000000 in
theorem rdec_bad2 (w : World) (b off n c b0 b1 b2 b3 wd N4 : Nat) (hn : 5 ≤ n) (hnm : n ≤ 9223372036854775807) (hh : Head w b off n b0 b1 b2 b3 wd N4) (hok : N4 ≤ 1048576) (hbad : 64 < wd) :
    Calls Try.prog 23 #[.slice (some ⟨b, off, none⟩) n c] w fun e w' => e = .returned (.tuple #[.slice none 0 0, .bool false]) ∧ Below w.heap.size w w' := by
  obtain ⟨h0, h1, h2, h3, h4, c0, c1, c2, c3, c4, eN⟩ := hh
  have hnb : decide ((n : Int) < 5) = false := by simp; omega
  have i0 : (0 : Int) < (n : Int) := by omega
  have i1 : (1 : Int) < (n : Int) := by omega
  have i2 : (2 : Int) < (n : Int) := by omega
  have i3 : (3 : Int) < (n : Int) := by omega
  have i4 : (4 : Int) < (n : Int) := by omega
  have hN4 : N4 < 4294967296 := by omega
  have hsum : (b0 : Int) + (b1 : Int) * 256 + (b2 : Int) * 65536 + (b3 : Int) * 16777216 = (N4 : Int) := by omega
  clear eN
  have g1 : decide ((1048576 : Int) < (N4 : Int)) = false := by simp; omega
  have g2 : decide ((64 : Int) < (wd : Int)) = true := by simp; omega
  go_enter Try.func23, Try.ntmps23
  go_wp2
  go_quiet (fail)
  go_wp2
  go_ret2
  exact ⟨rfl, bel_drewN (Below.refl _ _) _⟩

set_option maxHeartbeats 4000000 in
theorem rdec_bad3 (w : World) (b off n c b0 b1 b2 b3 wd N4 : Nat) (hn : 5 ≤ n) (hnm : n ≤ 9223372036854775807) (hh : Head w b off n b0 b1 b2 b3 wd N4) (hok : N4 ≤ 1048576) (hok2 : wd ≤ 64) (hbad : ¬ n = 5 + (N4 * wd + 7) / 8) :
    Calls Try.prog 23 #[.slice (some ⟨b, off, none⟩) n c] w fun e w' => e = .returned (.tuple #[.slice none 0 0, .bool false]) ∧ Below w.heap.size w w' := by
  obtain ⟨h0, h1, h2, h3, h4, c0, c1, c2, c3, c4, eN⟩ := hh
  have hnb : decide ((n : Int) < 5) = false := by simp; omega
  have i0 : (0 : Int) < (n : Int) := by omega
  have i1 : (1 : Int) < (n : Int) := by omega
  have i2 : (2 : Int) < (n : Int) := by omega
  have i3 : (3 : Int) < (n : Int) := by omega
  have i4 : (4 : Int) < (n : Int) := by omega
  have hN4 : N4 < 4294967296 := by omega
  have hsum : (b0 : Int) + (b1 : Int) * 256 + (b2 : Int) * 65536 + (b3 : Int) * 16777216 = (N4 : Int) := by omega
  clear eN
  have g1 : decide ((1048576 : Int) < (N4 : Int)) = false := by simp; omega
  have g2 : decide ((64 : Int) < (wd : Int)) = false := by simp; omega
  have hp : N4 * wd ≤ 67108864 := by
    have := Nat.mul_le_mul hok hok2
    omega
  have hpi : (N4 : Int) * (wd : Int) ≤ 67108864 := by rw [cast_prod]; omega
  have hpi0 : 0 ≤ (N4 : Int) * (wd : Int) := by rw [cast_prod]; omega
  have g3 : ((n : Int) != 5 + ((N4 : Int) * (wd : Int) + 7) / 8) = true := by rw [bne_iff_ne, cast_prod]; omega
  go_enter Try.func23, Try.ntmps23
  go_wp2
  go_quiet (fail)
  go_wp2
  go_ret2
  exact ⟨rfl, bel_drewN (Below.refl _ _) _⟩

end Go.Proofs.Ytjjhllbbkflnnaa
