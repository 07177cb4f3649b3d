/- bitvec: the law BitvecReturns. -/
import Derived.Test.YtofeemmmdbdjdaaBvDec3
import Derived.Test.YtofeemmmdbdjdaaWBvHolds
import Derived.Test.YtofeemmmdbdjdaaOpen2
set_option linter.unusedVariables false
namespace Go.Proofs.Ytofeemmmdbdjdaa.B
open Go.RowKit HK

theorem bdec_any (w : World) (A : Option Addr) (n c : Nat) (bl : List Nat) (hbl : ∀ v ∈ bl, v < 256) (hs : Sl w w.heap.size A n (bl.map u8v)) (hnc : n ≤ c) (hcm : c ≤ maxLen) :
    Calls Try.prog 25 #[.slice A n c] w (BDecPost w bl) := by
  unfold maxLen at hcm
  by_cases hn : n < 4
  · exact bdec_short w A n c bl (by have := hs.1; simpa using this) hn
  · obtain ⟨b, off, rfl, -, -⟩ := hs.2 (by omega)
    by_cases h1 : num4b bl ≤ 1048576
    · by_cases h2 : 4 + 8 * ((num4b bl + 63) / 64) ≤ n
      · exact bdec_ok w b off n c bl hbl hs (by omega) hnc (by omega) h1 h2
      · exact bdec_bad2 w b off n c bl hbl hs (by omega) hnc (by omega) h1 (by omega)
    · exact bdec_bad1 w b off n c bl hbl hs (by omega) hnc (by omega) (by omega)
theorem conv_u8 {w : World} {B : Nat} {A : Option Addr} {n : Nat} {l : List Nat} (h : Sl w B A n (l.map u8v)) (c : Nat) : (convert 36 9 (.slice A n c)).run Try.prog w = .ok (.string (bs l)) w :=
  conv_sl (P := Try.prog) 36 5 9 Try.underlying36 Try.underlying5 Try.underlying9 h c

set_option maxHeartbeats 4000000 in
theorem returns_mid (A : Option Addr) (n c : Nat) (l : List Bool) (A' : Option Addr) (n' c' : Nat) (bl : List Nat) (w : World) (hn : n ≤ 3000) (hn' : n' ≤ 1000) (hs : Sl w w.heap.size A n (l.map Value.bool)) (hs' : ArgU8 w A' n' c' bl) :
    Calls Try.prog 10 #[.slice A n c, .slice A' n' c'] w fun e w' => e = .returned (.bool true) ∧ Below w.heap.size w w' := by
  obtain ⟨hnc, hcm, hbl, hsb⟩ := hs'
  have hnb : decide ((3000 : Int) < (n : Int)) = false := by simp; omega
  have hnb2 : decide ((1000 : Int) < (n' : Int)) = false := by simp; omega
  have hlen : Hid (l.length = n) := Lib.hid (by have := hs.1; simpa using this)
  have HS := Lib.hid hs; have HSB : Hid (Sl w w.heap.size A' n' (bl.map u8v)) := Lib.hid hsb
  have HBL := Lib.hid hbl
  clear hs hsb hbl
  go_enter Try.func10, Try.ntmps10
  go_wp2_with fail
  refine (bnew_any w A n c l (by omega) HS.out).mono ?_
  rintro e w1 ⟨b, rfl, hbv, hB1⟩
  have hs1 := hB1.size
  have HV := Lib.hid hbv; clear hbv
  go_wp2_with fail
  refine (benc_any w1 _ _ b n _ HV.out (Nat.le_refl _)).mono ?_
  rintro e w2 ⟨v2, rfl, hown2, hB2⟩
  obtain ⟨A2, c2, rfl, hc2, hm2⟩ := own_shape hown2
  have hB12 := hB1.trans (hB2.mono hs1)
  have hs2 := hB12.size
  have HO2 := Lib.hid hown2
  have HIC : Hid (isCode (bcode n (bitsN l))) := Lib.hid (isCode_code n _ (by omega) HV.out.2.1)
  have HE1 : Hid (num4b (bcode n (bitsN l)) = n ∧ bitsb (bcode n (bitsN l)) = bitsN l) := Lib.hid ⟨num4b_code n _ (by omega), bitsb_code n _ (by omega) HV.out.2.1⟩
  clear hown2 hB2
  go_wp2_with fail
  refine (bdec_any w2 A2 _ c2 (bcode n (bitsN l)) (bcode_lt _ _) (Sl.of_own HO2.out) hc2 hm2).mono ?_
  rintro e w3 ⟨hB3, hP3⟩
  obtain ⟨b3, rfl, hbv3⟩ : ∃ b3, e = .returned (.tuple #[.pointer (some ⟨b3, 0, none⟩), .int .i64 0]) ∧ Bv w3 w2.heap.size w3.heap.size b3 n (bitsN l) := by
    rcases hP3 with ⟨_, b3, he, h⟩ | ⟨h, _⟩
    · rw [HE1.out.1, HE1.out.2] at h
      exact ⟨b3, he, h⟩
    · exact (h HIC.out).elim
  have HV3 := Lib.hid hbv3
  have hc0 := hbv3.len
  have hB13 := hB12.trans (hB3.mono hs2)
  have hs3 := hB13.size
  clear hP3 hbv3 hB3
  go_wp2_with fail
  refine (blen_any _ _ _ hc0).mono ?_
  rintro e w' ⟨rfl, hw'⟩
  rw [hw']; clear hw' hc0
  go_wp2_with fail
  refine (bbits_any w3 _ _ b3 n _ HV3.out (Nat.le_refl _) (by omega)).mono ?_
  rintro e w4 ⟨v4, rfl, hown4, hB4⟩
  obtain ⟨A4, c4, rfl, -, -⟩ := own_shape hown4
  have HO4 := Lib.hid hown4
  have hB14 := hB13.trans (hB4.mono hs3)
  clear hown4 hB4
  go_wp2_with fail
  refine (rsame_any w4 w4.heap.size w.heap.size A4 A n c4 n c (bitsL (bitsN l) n) l (by omega) (by omega) (Sl.of_own HO4.out) (HS.out.below hB14)).mono ?_
  rintro e w5 ⟨rfl, hq5⟩
  rw [same_bits l n hlen.out]
  have hB15 := hB14.trans (qbel _ hq5)
  have hs5 := hB15.size
  clear hq5
  go_wp2_with fail
  refine (bdec_any w5 A' n' c' bl HBL.out ((HSB.out.below hB15).more hs5) hnc hcm).mono ?_
  rintro e w6 ⟨hB6, hP6⟩
  have hB16 := hB15.trans (hB6.mono hs5)
  have hs6 := hB16.size
  clear hB6
  rcases hP6 with ⟨hic, b6, rfl, hbv6⟩ | ⟨_, rfl⟩
  · have HV6 := Lib.hid hbv6
    have hcb := conv_u8 (HSB.out.below hB16).drew c'
    obtain ⟨hok, hlt, hcode⟩ := hic
    have HCODE := Lib.hid hcode
    clear hok hlt hbv6 hcode
    have hbq : ((bs bl).toList == (bs bl).toList) = true := by simp
    go_wp2
    refine wp_region_held_drew (S := fun w' => (convert 36 9 (.slice A' n' c')).run Try.prog w' = .ok (.string (bs bl)) w') (by kernel_rfl) hcb (fun hHeld => ?_)
    refine wpAnyH_take (i := 0) (oi := _) (v := ?_) rfl (by kernel_rfl) (by kernel_rfl) (by kernel_rfl) (fun _ _ _ h => h) (Or.inl ⟨by rfl, ?_⟩) hHeld ?_
    rotate_left
    · (intro w hSw; (try dsimp only at hSw); simp only [List.getElem_toArray, List.getElem_cons_zero]; go_simp; try with_reducible rfl)
    simp only [List.getElem_toArray, List.getElem_cons_zero, Act.put, List.setIfInBounds_toArray, List.set_cons_zero, List.set_cons_succ]
    refine wpAnyH_take (i := 1) (oi := _) (v := ?_) rfl (by kernel_rfl) (by kernel_rfl) (by kernel_rfl) (fun _ _ _ h => h) (Or.inl ⟨by rfl, ?_⟩) hHeld ?_
    rotate_left
    · (intro w hSw; (try dsimp only at hSw); simp only [List.getElem_toArray, List.getElem_cons_zero, List.getElem_cons_succ]; go_simp; try with_reducible rfl)
    simp only [List.getElem_toArray, List.getElem_cons_zero, List.getElem_cons_succ, Act.put, List.setIfInBounds_toArray, List.set_cons_zero, List.set_cons_succ]
    refine wpAnyH_take (i := 2) (oi := _) (v := ?_) rfl (by kernel_rfl) (by kernel_rfl) (by kernel_rfl) (fun _ _ _ h => h) (Or.inl ⟨by rfl, ?_⟩) hHeld ?_
    rotate_left
    · (intro w hSw; (try dsimp only at hSw); simp only [List.getElem_toArray, List.getElem_cons_zero, List.getElem_cons_succ]; go_simp; try with_reducible rfl)
    simp only [List.getElem_toArray, List.getElem_cons_zero, List.getElem_cons_succ, Act.put, List.setIfInBounds_toArray, List.set_cons_zero, List.set_cons_succ]
    refine wpAnyH_take (i := 3) (oi := _) (v := ?_) rfl (by kernel_rfl) (by kernel_rfl) (by kernel_rfl) (fun _ _ _ h => h) (Or.inl ⟨by rfl, ?_⟩) hHeld ?_
    rotate_left
    · (intro w hSw; (try dsimp only at hSw); simp only [List.getElem_toArray, List.getElem_cons_zero, List.getElem_cons_succ]; go_simp; try with_reducible rfl)
    simp only [List.getElem_toArray, List.getElem_cons_zero, List.getElem_cons_succ, Act.put, List.setIfInBounds_toArray, List.set_cons_zero, List.set_cons_succ]
    refine wpAnyH_take (i := 6) (oi := _) (v := ?_) rfl (by kernel_rfl) (by kernel_rfl) (by kernel_rfl) (fun _ _ _ h => h) (Or.inl ⟨by rfl, ?_⟩) hHeld ?_
    rotate_left
    · (intro w hSw; (try dsimp only at hSw); simp only [List.getElem_toArray, List.getElem_cons_zero, List.getElem_cons_succ]; go_simp; try with_reducible rfl)
    simp only [List.getElem_toArray, List.getElem_cons_zero, List.getElem_cons_succ, Act.put, List.setIfInBounds_toArray, List.set_cons_zero, List.set_cons_succ]
    refine wpAnyH_take (i := 7) (oi := _) (v := ?_) rfl (by kernel_rfl) (by kernel_rfl) (by kernel_rfl) (fun _ _ _ h => h) (Or.inl ⟨by rfl, ?_⟩) hHeld ?_
    rotate_left
    · (intro w hSw; (try dsimp only at hSw); simp only [List.getElem_toArray, List.getElem_cons_zero, List.getElem_cons_succ]; go_simp; try with_reducible rfl)
    simp only [List.getElem_toArray, List.getElem_cons_zero, List.getElem_cons_succ, Act.put, List.setIfInBounds_toArray, List.set_cons_zero, List.set_cons_succ]
    refine wpAnyH_ready (rs := [4]) (by kernel_rfl) (by simp) ?_
    refine AllReadyH.cons (o := _) rfl (fun K hK => ?_) AllReadyH.nil
    go_simp
    refine (benc_any w6.drew _ w6.heap.size b6 _ _ HV6.out (Nat.le_refl _)).mono ?_
    rintro e w7 ⟨v7, rfl, hown7, hB7⟩
    rw [HCODE.out] at hown7
    obtain ⟨A7, c7, rfl, -, -⟩ := own_shape hown7
    have hcv7 := conv_u8 (Sl.of_own hown7) c7
    have hB17 : Below w.heap.size w w7 := hB16.drew.trans (hB7.mono hs6)
    have hcb7 := conv_u8 (HSB.out.below hB17) c'
    clear hown7 hB7
    go_wp2_with fail
    refine hK.out _ _ (hcb7) (fun hHeld => ?_)
    clear hK K
    try simp only [Act.put, List.setIfInBounds_toArray, List.set_cons_zero, List.set_cons_succ]
    refine wpAnyH_ready (rs := [5]) (by kernel_rfl) (by simp) ?_
    refine AllReadyH.cons (o := _) rfl (fun K hK => ?_) AllReadyH.nil
    go_simp
    refine hK.out _ _ (hcb7) (fun hHeld => ?_)
    clear hK K
    try simp only [Act.put, List.setIfInBounds_toArray, List.set_cons_zero, List.set_cons_succ]
    refine wpAnyH_take (i := 8) (oi := _) (v := ?_) rfl (by kernel_rfl) (by kernel_rfl) (by kernel_rfl) (fun _ _ _ h => h) (Or.inl ⟨by rfl, ?_⟩) hHeld ?_
    rotate_left
    · (intro w hSw; (try dsimp only at hSw); simp only [List.getElem_toArray, List.getElem_cons_zero, List.getElem_cons_succ]; go_simp; try with_reducible rfl)
    simp only [List.getElem_toArray, List.getElem_cons_zero, List.getElem_cons_succ, Act.put, List.setIfInBounds_toArray, List.set_cons_zero, List.set_cons_succ]
    refine wpAnyH_take (i := 9) (oi := _) (v := ?_) rfl (by kernel_rfl) (by kernel_rfl) (by kernel_rfl) (fun _ _ _ h => h) (Or.inl ⟨by rfl, ?_⟩) hHeld ?_
    rotate_left
    · (intro w hSw; (try dsimp only at hSw); simp only [List.getElem_toArray, List.getElem_cons_zero, List.getElem_cons_succ]; go_simp; try with_reducible rfl)
    simp only [List.getElem_toArray, List.getElem_cons_zero, List.getElem_cons_succ, Act.put, List.setIfInBounds_toArray, List.set_cons_zero, List.set_cons_succ]
    refine wpAnyH_take (i := 10) (oi := _) (v := ?_) rfl (by kernel_rfl) (by kernel_rfl) (by kernel_rfl) (fun _ _ _ h => h) (Or.inl ⟨by rfl, ?_⟩) hHeld ?_
    rotate_left
    · (intro w hSw; (try dsimp only at hSw); simp only [List.getElem_toArray, List.getElem_cons_zero, List.getElem_cons_succ]; go_simp; try with_reducible rfl)
    simp only [List.getElem_toArray, List.getElem_cons_zero, List.getElem_cons_succ, Act.put, List.setIfInBounds_toArray, List.set_cons_zero, List.set_cons_succ]
    refine wpAnyH_ready (rs := [11]) (by kernel_rfl) (by simp) ?_
    refine AllReadyH.cons (o := _) rfl (fun K hK => ?_) AllReadyH.nil
    go_simp
    refine (bworks_true w7).mono ?_
    rintro e w8 ⟨rfl, hB8⟩
    have hB18 := hB17.trans (hB8.mono hB17.size)
    have hcb8 := conv_u8 (HSB.out.below hB18) c'
    go_wp2_with fail
    refine hK.out _ _ (hcb8) (fun hHeld => ?_)
    clear hK K
    try simp only [Act.put, List.setIfInBounds_toArray, List.set_cons_zero, List.set_cons_succ]
    refine wpAnyH_take (i := 12) (oi := _) (v := ?_) rfl (by kernel_rfl) (by kernel_rfl) (by kernel_rfl) (fun _ _ _ h => h) (Or.inl ⟨by rfl, ?_⟩) hHeld ?_
    rotate_left
    · (intro w hSw; (try dsimp only at hSw); simp only [List.getElem_toArray, List.getElem_cons_zero, List.getElem_cons_succ]; go_simp; try with_reducible rfl)
    simp only [List.getElem_toArray, List.getElem_cons_zero, List.getElem_cons_succ, Act.put, List.setIfInBounds_toArray, List.set_cons_zero, List.set_cons_succ]
    refine wpAnyH_take (i := 13) (oi := _) (v := ?_) rfl (by kernel_rfl) (by kernel_rfl) (by kernel_rfl) (fun _ _ _ h => h) (Or.inl ⟨by rfl, ?_⟩) hHeld ?_
    rotate_left
    · (intro w hSw; (try dsimp only at hSw); simp only [List.getElem_toArray, List.getElem_cons_zero, List.getElem_cons_succ]; go_simp; try with_reducible rfl)
    simp only [List.getElem_toArray, List.getElem_cons_zero, List.getElem_cons_succ, Act.put, List.setIfInBounds_toArray, List.set_cons_zero, List.set_cons_succ]
    refine wpAnyH_done (by kernel_rfl) ?_ _
    go_wp2
    go_ret
    exact ⟨rfl, hB18⟩
  · go_wp2
    refine wp_region_held_drew (S := fun _ => True) (by kernel_rfl) trivial (fun hHeld => ?_)
    refine wpAnyH_take (i := 0) (oi := _) (v := ?_) rfl (by kernel_rfl) (by kernel_rfl) (by kernel_rfl) (fun _ _ _ h => h) (Or.inl ⟨by rfl, ?_⟩) hHeld ?_
    rotate_left
    · (intro w hSw; (try dsimp only at hSw); simp only [List.getElem_toArray, List.getElem_cons_zero]; go_simp; try with_reducible rfl)
    simp only [List.getElem_toArray, List.getElem_cons_zero, Act.put, List.setIfInBounds_toArray, List.set_cons_zero, List.set_cons_succ]
    refine wpAnyH_take (i := 1) (oi := _) (v := ?_) rfl (by kernel_rfl) (by kernel_rfl) (by kernel_rfl) (fun _ _ _ h => h) (Or.inl ⟨by rfl, ?_⟩) hHeld ?_
    rotate_left
    · (intro w hSw; (try dsimp only at hSw); simp only [List.getElem_toArray, List.getElem_cons_zero, List.getElem_cons_succ]; go_simp; try with_reducible rfl)
    simp only [List.getElem_toArray, List.getElem_cons_zero, List.getElem_cons_succ, Act.put, List.setIfInBounds_toArray, List.set_cons_zero, List.set_cons_succ]
    refine wpAnyH_take (i := 2) (oi := _) (v := ?_) rfl (by kernel_rfl) (by kernel_rfl) (by kernel_rfl) (fun _ _ _ h => h) (Or.inl ⟨by rfl, ?_⟩) hHeld ?_
    rotate_left
    · (intro w hSw; (try dsimp only at hSw); simp only [List.getElem_toArray, List.getElem_cons_zero, List.getElem_cons_succ]; go_simp; try with_reducible rfl)
    simp only [List.getElem_toArray, List.getElem_cons_zero, List.getElem_cons_succ, Act.put, List.setIfInBounds_toArray, List.set_cons_zero, List.set_cons_succ]
    refine wpAnyH_take (i := 3) (oi := _) (v := undef) rfl (by kernel_rfl) (by kernel_rfl) (by kernel_rfl) (fun _ _ _ h => h) (Or.inr ⟨by rfl, rfl⟩) hHeld ?_
    simp only [List.getElem_toArray, List.getElem_cons_zero, List.getElem_cons_succ, Act.put, List.setIfInBounds_toArray, List.set_cons_zero, List.set_cons_succ]
    refine wpAnyH_take (i := 4) (oi := _) (v := undef) rfl (by kernel_rfl) (by kernel_rfl) (by kernel_rfl) (fun _ _ _ h => h) (Or.inr ⟨by rfl, rfl⟩) hHeld ?_
    simp only [List.getElem_toArray, List.getElem_cons_zero, List.getElem_cons_succ, Act.put, List.setIfInBounds_toArray, List.set_cons_zero, List.set_cons_succ]
    refine wpAnyH_take (i := 5) (oi := _) (v := undef) rfl (by kernel_rfl) (by kernel_rfl) (by kernel_rfl) (fun _ _ _ h => h) (Or.inr ⟨by rfl, rfl⟩) hHeld ?_
    simp only [List.getElem_toArray, List.getElem_cons_zero, List.getElem_cons_succ, Act.put, List.setIfInBounds_toArray, List.set_cons_zero, List.set_cons_succ]
    refine wpAnyH_take (i := 6) (oi := _) (v := undef) rfl (by kernel_rfl) (by kernel_rfl) (by kernel_rfl) (fun _ _ _ h => h) (Or.inr ⟨by rfl, rfl⟩) hHeld ?_
    simp only [List.getElem_toArray, List.getElem_cons_zero, List.getElem_cons_succ, Act.put, List.setIfInBounds_toArray, List.set_cons_zero, List.set_cons_succ]
    refine wpAnyH_take (i := 7) (oi := _) (v := undef) rfl (by kernel_rfl) (by kernel_rfl) (by kernel_rfl) (fun _ _ _ h => h) (Or.inr ⟨by rfl, rfl⟩) hHeld ?_
    simp only [List.getElem_toArray, List.getElem_cons_zero, List.getElem_cons_succ, Act.put, List.setIfInBounds_toArray, List.set_cons_zero, List.set_cons_succ]
    refine wpAnyH_take (i := 8) (oi := _) (v := undef) rfl (by kernel_rfl) (by kernel_rfl) (by kernel_rfl) (fun _ _ _ h => h) (Or.inr ⟨by rfl, rfl⟩) hHeld ?_
    simp only [List.getElem_toArray, List.getElem_cons_zero, List.getElem_cons_succ, Act.put, List.setIfInBounds_toArray, List.set_cons_zero, List.set_cons_succ]
    refine wpAnyH_take (i := 9) (oi := _) (v := ?_) rfl (by kernel_rfl) (by kernel_rfl) (by kernel_rfl) (fun _ _ _ h => h) (Or.inl ⟨by rfl, ?_⟩) hHeld ?_
    rotate_left
    · (intro w hSw; (try dsimp only at hSw); simp only [List.getElem_toArray, List.getElem_cons_zero, List.getElem_cons_succ]; go_simp; try with_reducible rfl)
    simp only [List.getElem_toArray, List.getElem_cons_zero, List.getElem_cons_succ, Act.put, List.setIfInBounds_toArray, List.set_cons_zero, List.set_cons_succ]
    refine wpAnyH_take (i := 10) (oi := _) (v := ?_) rfl (by kernel_rfl) (by kernel_rfl) (by kernel_rfl) (fun _ _ _ h => h) (Or.inl ⟨by rfl, ?_⟩) hHeld ?_
    rotate_left
    · (intro w hSw; (try dsimp only at hSw); simp only [List.getElem_toArray, List.getElem_cons_zero, List.getElem_cons_succ]; go_simp; try with_reducible rfl)
    simp only [List.getElem_toArray, List.getElem_cons_zero, List.getElem_cons_succ, Act.put, List.setIfInBounds_toArray, List.set_cons_zero, List.set_cons_succ]
    refine wpAnyH_ready (rs := [11]) (by kernel_rfl) (by simp) ?_
    refine AllReadyH.cons (o := _) rfl (fun K hK => ?_) AllReadyH.nil
    go_simp
    refine (bworks_true w6.drew).mono ?_
    rintro e w8 ⟨rfl, hB8⟩
    have hB18 : Below w.heap.size w w8 := hB16.drew.trans (hB8.mono hB16.size)
    go_wp2_with fail
    refine hK.out _ _ (trivial) (fun hHeld => ?_)
    clear hK K
    try simp only [Act.put, List.setIfInBounds_toArray, List.set_cons_zero, List.set_cons_succ]
    refine wpAnyH_take (i := 12) (oi := _) (v := ?_) rfl (by kernel_rfl) (by kernel_rfl) (by kernel_rfl) (fun _ _ _ h => h) (Or.inl ⟨by rfl, ?_⟩) hHeld ?_
    rotate_left
    · (intro w hSw; (try dsimp only at hSw); simp only [List.getElem_toArray, List.getElem_cons_zero, List.getElem_cons_succ]; go_simp; try with_reducible rfl)
    simp only [List.getElem_toArray, List.getElem_cons_zero, List.getElem_cons_succ, Act.put, List.setIfInBounds_toArray, List.set_cons_zero, List.set_cons_succ]
    refine wpAnyH_take (i := 13) (oi := _) (v := ?_) rfl (by kernel_rfl) (by kernel_rfl) (by kernel_rfl) (fun _ _ _ h => h) (Or.inl ⟨by rfl, ?_⟩) hHeld ?_
    rotate_left
    · (intro w hSw; (try dsimp only at hSw); simp only [List.getElem_toArray, List.getElem_cons_zero, List.getElem_cons_succ]; go_simp; try with_reducible rfl)
    simp only [List.getElem_toArray, List.getElem_cons_zero, List.getElem_cons_succ, Act.put, List.setIfInBounds_toArray, List.set_cons_zero, List.set_cons_succ]
    refine wpAnyH_done (by kernel_rfl) ?_ _
    go_wp2
    go_ret
    exact ⟨rfl, hB18⟩
theorem returns_all (A : Option Addr) (n c : Nat) (l : List Bool) (A' : Option Addr) (n' c' : Nat) (bl : List Nat) (w : World) (hm : n ≤ maxLen) (hs : Sl w w.heap.size A n (l.map Value.bool)) (hm' : n' ≤ maxLen) (hs' : ArgU8 w A' n' c' bl) :
    Calls Try.prog 10 #[.slice A n c, .slice A' n' c'] w fun e w' => e = .returned (.bool true) ∧ Below w.heap.size w w' := by
  unfold maxLen at hm hm'
  by_cases hbig : 3000 < n
  · have hnb : decide ((3000 : Int) < (n : Int)) = true := by simp; omega
    clear hs hs'
    go_enter Try.func10, Try.ntmps10
    go_wp2
    go_ret
    exact ⟨rfl, Below.refl _ _⟩
  · by_cases hbig' : 1000 < n'
    · have hnb : decide ((3000 : Int) < (n : Int)) = false := by simp; omega
      have hnb2 : decide ((1000 : Int) < (n' : Int)) = true := by simp; omega
      clear hs hs'
      go_enter Try.func10, Try.ntmps10
      go_wp2
      go_ret
      exact ⟨rfl, Below.refl _ _⟩
    · exact returns_mid A n c l A' n' c' bl w (by omega) (by omega) hs hs'
end Go.Proofs.Ytofeemmmdbdjdaa.B
