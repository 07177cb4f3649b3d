/- louds: the laws LoudsUnder and LoudsNeighbours. -/
import Derived.Test.YtpnkjfjkeoleaaaLwFront
set_option linter.unusedVariables false
set_option maxRecDepth 100000
namespace Go.Proofs.Ytpnkjfjkeoleaaa.LD
open Go.RowKit HK
open Go.Proofs.Ytpnkjfjkeoleaaa.B (bytesOf bytesOf_len bytesOf_lt)

theorem own_sl' {w : World} {base : Nat} {e : TypeId} {v : Value} {n : Nat} {xs : List Value} (h : w.ownsRow base e 1 v n xs) : ∃ A c, v = .slice A n c ∧ n ≤ c ∧ c ≤ maxLen ∧ Sl w w.heap.size A n xs := by
  obtain ⟨A, c, rfl, h1, h2⟩ := own_shape h
  exact ⟨A, c, rfl, h1, h2, Sl.of_own h⟩
theorem take_range2 (f cn k : Nat) : (List.range' f cn).take k = List.range' f (min cn k) := by
  rcases Nat.le_total k cn with h | h
  · rw [Nat.min_eq_right h, List.take_range'_of_length_ge h]
  · rw [Nat.min_eq_left h, List.take_of_length_le (by rw [List.length_range']; exact h)]
set_option maxHeartbeats 2000000 in
theorem lawunder_all (A : Option Addr) (n c : Nat) (ss0 : List ByteArray) (s : ByteArray) (k : Int) (w : World) (hm : n ≤ maxLen) (hs : ArgStr w A n c ss0) (hsz : s.size ≤ maxLen) (hk : (Lit.int .i64 k).wf = true) :
    Calls Try.prog 7 #[.slice A n c, .string s, .int .i64 k] w fun e w' => e = .returned (.bool true) ∧ Below w.heap.size w w' := by
  have HSET := Lib.hid (lset_any w A n c ss0 hm hs.2.2.2 hs.2.2.1)
  have HK := Lib.hid hk
  have HSZ := Lib.hid hsz
  unfold maxLen at hm hsz
  clear hs hk hsz
  go_enter Try.func7, Try.ntmps7
  go_wp2_with fail
  refine HSET.out.mono ?_
  intro e w1 hP
  obtain ⟨A1, m, c1, ss, rfl, hF⟩ := setF_of hP
  have HF := Lib.hid hF
  have hfew := hF.few
  clear hP hF
  go_wp2_with fail
  refine HF.out.build.mono ?_
  rintro e w2 ⟨tb, ks, rfl, hT, hB⟩
  have HT := Lib.hid (both_of HF.out hT hB)
  have HB := Lib.hid (HF.out.bel.trans (hB.mono HF.out.bel.size))
  clear hT hB
  obtain ⟨U, hU⟩ : ∃ U, (under (ss.map bytesOf) (bytesOf s)).take k.toNat = U := ⟨_, rfl⟩
  have hUl : U.length ≤ 300 := by
    rw [← hU, List.length_take]
    have := underTo_len (ss.map bytesOf) (bytesOf s) (ss.map bytesOf).length
    rw [← under_all, HT.out.len] at this
    omega
  have HUV : Hid (∀ v ∈ U, v < 2 ^ 62) := Lib.hid (fun v hv => by
    rw [← hU] at hv
    have := under_lt v (List.mem_of_mem_take hv)
    rw [HT.out.len] at this
    omega)
  have HC1 : Hid (Calls Try.prog 19 #[.pointer (some ⟨tb, 0, none⟩), .string s, .int .i64 k] w2 (UnderPost w2 U)) := Lib.hid (by
    rw [← hU]; exact lunder_any w2 _ _ tb _ ks HT.out.tr s HSZ.out k HK.out)
  have HC2 : Hid (∀ W, Below w2.heap.size w2 W → Calls Try.prog 33 #[.slice A1 m c1, .string s, .int .i64 k] W (UnderPost W U)) := Lib.hid (fun W hW => by
    have h2 := HT.out.next hW
    rw [← hU]
    exact runder_any W A1 m c1 ss s k HK.out (by omega) h2.size HSZ.out (h2.sl.more h2.low))
  clear hU
  go_wp2_with fail
  refine HC1.out.mono ?_
  rintro e w3 ⟨v, rfl, hown, hB3⟩
  have HB3 := Lib.hid hB3
  have HBW3 := Lib.hid (HB.out.trans (hB3.mono HB.out.size))
  obtain ⟨A3, c3, rfl, _, _, hsl3⟩ := own_sl' hown
  have HS3 := Lib.hid hsl3
  clear hown hB3 hsl3
  go_wp2_with fail
  refine (HC2.out w3 HB3.out).mono ?_
  rintro e w4 ⟨v, rfl, hown, hB4⟩
  have HBW4 := Lib.hid (HBW3.out.trans (hB4.mono HBW3.out.size))
  obtain ⟨A4, c4, rfl, _, _, hsl4⟩ := own_sl' hown
  have HSI : Hid (Calls Try.prog 32 #[.slice A3 U.length c3, .slice A4 U.length c4] w4 fun e w' => e = .returned (.bool true) ∧ ∃ q, w' = w4.drewN q) := Lib.hid (by
    have h := sameInts_any w4 _ _ A3 A4 U.length c3 U.length c4 U U (by unfold maxLen; omega) (by unfold maxLen; omega) HUV.out HUV.out (HS3.out.below hB4) hsl4
    rw [decide_eq_true rfl] at h
    exact h)
  clear hown hB4 hsl4
  obtain ⟨ul, hul⟩ : ∃ ul, U.length = ul := ⟨_, rfl⟩
  rw [hul] at hUl HSI ⊢
  clear hul
  go_wp2_with fail
  refine HSI.out.mono ?_
  rintro e w5 ⟨rfl, q, rfl⟩
  go_wp2_with fail
  refine (lworks_true _).mono ?_
  rintro e w6 ⟨rfl, hB6⟩
  have HBW6 := Lib.hid ((bel_drewN HBW4.out q).trans (hB6.mono HBW4.out.size))
  clear hB6
  go_wp2
  go_ret
  exact ⟨rfl, HBW6.out⟩

set_option maxHeartbeats 4000000 in
theorem neigh_all (A : Option Addr) (n c : Nat) (ss0 : List ByteArray) (s : ByteArray) (k : Int) (w : World) (hm : n ≤ maxLen) (hs : ArgStr w A n c ss0) (hsz : s.size ≤ maxLen) (hk : (Lit.int .i64 k).wf = true) :
    Calls Try.prog 10 #[.slice A n c, .string s, .int .i64 k] w fun e w' => e = .returned (.bool true) ∧ Below w.heap.size w w' := by
  have HSET := Lib.hid (lset_any w A n c ss0 hm hs.2.2.2 hs.2.2.1)
  have HK := Lib.hid hk
  have HSZ := Lib.hid hsz
  have hkr := rg_i64 _ hk
  unfold maxLen at hm hsz
  clear hs hk hsz
  go_enter Try.func10, Try.ntmps10
  go_wp2_with fail
  refine HSET.out.mono ?_
  intro e w1 hP
  obtain ⟨A1, m, c1, ss, rfl, hF⟩ := setF_of hP
  have HF := Lib.hid hF
  have hfew := hF.few
  clear hP hF
  go_wp2_with fail
  refine HF.out.build.mono ?_
  rintro e w2 ⟨tb, ks, rfl, hT, hB⟩
  have HT := Lib.hid (both_of HF.out hT hB)
  have HB := Lib.hid (HF.out.bel.trans (hB.mono HF.out.bel.size))
  clear hT hB
  obtain ⟨f, cn, hun, hfc⟩ := HT.out.tr.full.under_range (bytesOf s)
  rw [HT.out.len] at hfc
  obtain ⟨t, ht⟩ : ∃ t, min cn k.toNat = t := ⟨_, rfl⟩
  have htk : (t : Int) ≤ max k 0 := by omega
  have htc : t ≤ cn := by omega
  have HC1 : Hid (Calls Try.prog 19 #[.pointer (some ⟨tb, 0, none⟩), .string s, .int .i64 k] w2 (UnderPost w2 (List.range' f t))) := Lib.hid (by
    have h := lunder_any w2 _ _ tb _ ks HT.out.tr s HSZ.out k HK.out
    rw [hun, take_range2, ht] at h
    exact h)
  clear hun ht
  go_wp2_with fail
  refine HC1.out.mono ?_
  rintro e w3 ⟨v, rfl, hown, hB3⟩
  rw [List.length_range'] at hown
  have HBW3 := Lib.hid (HB.out.trans (hB3.mono HB.out.size))
  obtain ⟨A3, c3, rfl, _, _, hsl3⟩ := own_sl' hown
  have HS3 : Hid (∀ j, j < t → ∃ b off, A3 = some ⟨b, off, none⟩ ∧ w3.cell? ⟨b, off, none⟩ = some (.int .i64 (f : Nat)) ∧ w3.cell? ⟨b, off + j, none⟩ = some (.int .i64 ((f : Int) + (j : Int)))) := Lib.hid (fun j hj => by
    obtain ⟨b, off, u, rfl, _, hu, hc⟩ := hsl3.at_ hj
    obtain ⟨b', off', u', hA', _, hu', hc'⟩ := hsl3.at_ (show 0 < t by omega)
    injection hA' with e0
    injection e0 with e1 e2
    subst e1 e2
    rw [List.getElem?_map, List.getElem?_range' (by omega)] at hu hu'
    simp only [Option.map_some, Option.some.injEq] at hu hu'
    subst hu hu'
    refine ⟨b, off, rfl, ?_, ?_⟩
    · simpa [intV] using hc'
    · simpa [intV] using hc)
  clear hown hB3 hsl3
  go_wp2
  go_loopw [22] (fun v wr => ∃ (j q : Nat), v = .int .i64 j ∧ j ≤ t ∧ wr = w3.drewN q) (fun v _ => t - (intOf v).toNat)
  case atStart => exact ⟨0, 0, rfl, Nat.zero_le _, rfl⟩
  case round =>
    obtain ⟨j, q, rfl, hj, rfl⟩ := hrel
    by_cases hlt : j < t
    · have hb0 : decide ((j : Int) < (t : Int)) = true := by simp; omega
      obtain ⟨b, off, rfl, hc0, hcj⟩ := HS3.out j hlt
      have i1 : (0 : Int) ≤ (j : Int) := by omega
      have i2 : (j : Int) < (t : Int) := by omega
      have i3 : (0 : Int) < (t : Int) := by omega
      have i4 : 0 < t := by omega
      have g1 : decide ((m : Int) ≤ (f : Int) + (j : Int)) = false := by simp; omega
      have g2 : ((f : Int) + (j : Int) == (f : Int) + (j : Int)) = true := by simp
      have hw1 : IntKind.i64.wrap ((f : Int) + (j : Int)) = (f : Int) + (j : Int) := IntWalk.i64_in _ (by omega)
      go_wp2
      go_quiet (fail)
      go_wp2
      clear hw1
      go_roundw
      case rel => exact ⟨j + 1, q + nq, by go_num, by omega, by simp⟩
      case measure => simp [intOf]; omega
    · obtain rfl : j = t := by omega
      have hb0 : decide ((j : Int) < (j : Int)) = false := by simp
      have g1 : decide ((j : Int) ≤ max k 0) = true := by simpa using htk
      go_wp2_with fail
      refine (lworks_true _).mono ?_
      rintro e w6 ⟨rfl, hB6⟩
      have HBW6 := Lib.hid ((bel_drewN HBW3.out q).trans (hB6.mono HBW3.out.size))
      clear hB6
      go_wp2
      go_ret
      exact ⟨rfl, HBW6.out⟩
end Go.Proofs.Ytpnkjfjkeoleaaa.LD
