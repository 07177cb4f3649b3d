/- bitvec: the law's works(). -/
import Derived.Test.YtofeemmmdbdjdaaBvEnc
set_option linter.unusedVariables false
namespace Go.Proofs.Ytofeemmmdbdjdaa.B
open Go.RowKit HK

theorem Bv.below {w w' : World} {S E b n N B : Nat} (h : Bv w S E b n N) (hb : Below B w w') (hE : E ≤ B) : Bv w' S E b n N := h.agree (Agree.of_below hb hE)
theorem Bv.quiet {w w' : World} {S E b n N : Nat} (h : Bv w S E b n N) (hq : ∃ k, w' = w.drewN k) : Bv w' S E b n N := by
  obtain ⟨k, rfl⟩ := hq
  exact h
theorem Bv.len {w : World} {S E b n N : Nat} (h : Bv w S E b n N) : w.cell? ⟨b, 0, none⟩ = some (.int .i64 n) := by
  obtain ⟨_, _, _, _, A1, c1, A2, c2, hr, _, _⟩ := h
  exact hr.cell 0
theorem conv_put {w' : World} {base : Nat} {A : Option Addr} {n c M : Nat} {xs : List Nat} (h : w'.ownsRow base 5 1 (.slice A n c) M (xs.map u8v)) : (convert 36 9 (.slice A n c)).run Try.prog w' = .ok (.string (bs xs)) w' := by
  obtain ⟨A', c', e, -, -⟩ := own_shape h
  injection e with e1 e2 e3
  subst e1 e2 e3
  exact conv_sl (P := Try.prog) 36 5 9 Try.underlying36 Try.underlying5 Try.underlying9 (Sl.of_own h) _

set_option maxHeartbeats 2000000 in
theorem bworks_true (w : World) : Calls Try.prog 15 #[] w fun e w' => e = .returned (.bool true) ∧ Below w.heap.size w w' := by
  have hnew := bnew_any (w.alloc (.cells #[.bool true, .bool false, .bool true, .bool true] 4)) (some ⟨w.heap.size, 0, none⟩) 4 4 [true, false, true, true] (by decide) (by rw [World.size_alloc]; exact lit_sl (cs := #[.bool true, .bool false, .bool true, .bool true]) rfl)
  have e1 : bitsN [true, false, true, true] = 13 := by decide +kernel
  rw [e1] at hnew
  clear e1
  have HN := Lib.hid hnew; clear hnew
  go_enter Try.func15, Try.ntmps15
  go_wp2_with fail
  refine HN.out.mono ?_
  rintro e w1 ⟨b, rfl, hbv, hB⟩
  obtain ⟨E, hE⟩ : ∃ E, w1.heap.size = E := ⟨_, rfl⟩
  rw [hE] at hbv
  have H := Lib.hid hbv; clear hbv
  have hc0 : w1.cell? ⟨b, 0, none⟩ = some (.int .i64 4) := H.out.len
  have HR1 := Lib.hid (brank_any w1 _ E b 4 13 H.out true 3 (by decide))
  rw [show (rk 13 true (clamp 3 4) : Nat) = 2 by decide] at HR1
  go_wp2_with fail
  refine (blen_any _ _ 4 hc0).mono ?_
  rintro e w' ⟨rfl, rfl⟩
  go_wp2_with fail
  refine HR1.out.mono ?_
  rintro e w2 ⟨rfl, hq2⟩
  have H2 := Lib.hid (H.out.quiet hq2)
  have hB2 := qbel E hq2
  have hz2 := qsize hq2
  clear hq2
  have HR2 := Lib.hid (brank_any w2 _ E b 4 13 H2.out false 9 (by decide))
  rw [show (rk 13 false (clamp 9 4) : Nat) = 1 by decide] at HR2
  go_wp2_with fail
  refine HR2.out.mono ?_
  rintro e w3 ⟨rfl, hq3⟩
  have H3 := Lib.hid (H2.out.quiet hq3)
  have hB3 := qbel E hq3
  have hz3 := qsize hq3
  clear hq3
  go_wp2_with fail
  refine (bsel_any w3 _ E b 4 13 H3.out (by omega) true 1 (by decide)).mono ?_
  rintro e w4 ⟨z, rfl, hz, hB4⟩
  obtain rfl : z = 2 := hz.same (.inr ⟨2, rfl, by decide, by decide, by decide⟩)
  have hz4 := hB4.size
  have H4 := Lib.hid (H3.out.below hB4 (by omega))
  clear hz
  go_wp2_with fail
  refine (bsel_any w4 _ E b 4 13 H4.out (by omega) true 3 (by decide)).mono ?_
  rintro e w5 ⟨z, rfl, hz, hB5⟩
  obtain rfl : z = -1 := hz.same (.inl ⟨rfl, .inr (by decide)⟩)
  have hz5 := hB5.size
  have H5 := Lib.hid (H4.out.below hB5 (by omega))
  clear hz
  go_wp2_with fail
  refine (bsel_any w5 _ E b 4 13 H5.out (by omega) false (-1) (by decide)).mono ?_
  rintro e w6 ⟨z, rfl, hz, hB6⟩
  obtain rfl : z = -1 := hz.same (.inl ⟨rfl, .inl (by decide)⟩)
  have hz6 := hB6.size
  have H6 := Lib.hid (H5.out.below hB6 (by omega))
  clear hz
  go_wp2_with fail
  refine (benc_any w6 _ E b 4 13 H6.out (by omega)).mono ?_
  rintro e w7 ⟨v, rfl, hown, hB7⟩
  obtain ⟨A, c, rfl, -, -⟩ := own_shape hown
  have hcv := conv_put hown
  have ecode : bcode 4 13 = [4, 0, 0, 0, 13, 0, 0, 0, 0, 0, 0, 0, 0, 0, 0, 0] := by decide +kernel
  rw [ecode] at hcv
  have HO := Lib.hid hown; clear hown ecode
  have hbq : ((bs [4, 0, 0, 0, 13, 0, 0, 0, 0, 0, 0, 0, 0, 0, 0, 0]).toList == [4, 0, 0, 0, 13, 0, 0, 0, 0, 0, 0, 0, 0, 0, 0, 0]) = true := by rw [bs_toList]; decide
  go_wp2
  go_ret
  refine ⟨rfl, ?_⟩
  have hs1 := hB.size
  simp only [World.size_alloc] at hs1
  have b1 : Below w.heap.size w w' := Below.trans ((Below.refl _ w).alloc (Nat.le_refl _) _) (hB.mono (by simp))
  exact (((((b1.trans (hB2.mono (by omega))).trans (hB3.mono (by omega))).trans (hB4.mono (by omega))).trans (hB5.mono (by omega))).trans (hB6.mono (by omega))).trans (hB7.mono (by omega))
end Go.Proofs.Ytofeemmmdbdjdaa.B
