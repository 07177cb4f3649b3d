/- louds, the laws' helper works: the examples of the chapter. -/
import Derived.Test.YtpnkjfjkeoleaaaLwHelp
import Derived.Test.YtpnkjfjkeoleaaaLwSet
set_option linter.unusedVariables false
set_option maxRecDepth 100000
namespace Go.Proofs.Ytpnkjfjkeoleaaa.LD
open Go.RowKit HK
open Go.Proofs.Ytpnkjfjkeoleaaa.B (bytesOf bytesOf_len bytesOf_lt)

def wS : List ByteArray := [⟨#[97]⟩, ⟨#[97, 98]⟩, ⟨#[98]⟩]
def wL : List Str := [[97], [97, 98], [98]]
theorem wS_L : wS.map bytesOf = wL := by decide +kernel
theorem wL_good : Good wL := by
  refine okJ_good (by decide) ?_ ?_
  · rw [← wS_L]; exact bytes_all wS
  · intro j hj
    have : j = 0 ∨ j = 1 ∨ j = 2 := by simp [wL] at hj; omega
    rcases this with rfl | rfl | rfl
    · exact ⟨by decide, by decide, fun h => by omega⟩
    · exact ⟨by decide, by decide, fun _ => by decide⟩
    · exact ⟨by decide, by decide, fun _ => by decide⟩
theorem wL_wt : wt wL (root wL) ≤ 524287 := wt_small wL_good (by decide)
theorem wS_len : ∀ s ∈ wS, s.size ≤ maxLen := by
  intro s hs
  simp [wS] at hs
  rcases hs with rfl | rfl | rfl <;> decide
theorem wFind : findV wL (bytesOf ⟨#[98]⟩) = .tuple #[.int .i64 2, .bool true] := by
  unfold findV
  rw [idx_first (k := 2) (by decide) (by decide +kernel) (fun j hj => by
    have : j = 0 ∨ j = 1 := by omega
    rcases this with rfl | rfl <;> decide +kernel)]
  rfl
theorem wText : bs (at_ wL 1) = ⟨#[97, 98]⟩ := by decide +kernel
theorem wHits : hits wL (bytesOf ⟨#[97, 98, 99]⟩) = [(0, 1), (1, 2)] := by decide +kernel
theorem wUnder1 : (under wL (bytesOf ⟨#[97]⟩)).take 5 = [0, 1] := by decide +kernel
theorem wUnder2 : (under wL (bytesOf ⟨#[]⟩)).take 1 = [0] := by decide +kernel

set_option maxHeartbeats 8000000 in
theorem lworks_true (w : World) : Calls Try.prog 21 #[] w fun e w' => e = .returned (.bool true) ∧ Below w.heap.size w w' := by
  have HBD : Hid (Calls Try.prog 23 #[.slice (some ⟨w.heap.size, 0, none⟩) 3 3] (w.alloc (.cells #[.string ⟨#[97]⟩, .string ⟨#[97, 98]⟩, .string ⟨#[98]⟩] 9)) (Made2 (w.alloc (.cells #[.string ⟨#[97]⟩, .string ⟨#[97, 98]⟩, .string ⟨#[98]⟩] 9)) wL)) := Lib.hid (by
    refine lbuild_made _ _ 3 3 wS wL wS_L wL_good wL_wt (by decide) wS_len ?_
    have h := lit_sl (w := w) (t := 9) (cs := #[.string ⟨#[97]⟩, .string ⟨#[97, 98]⟩, .string ⟨#[98]⟩]) (xs := wS.map Value.string) rfl
    rw [World.size_alloc]
    exact h)
  have HB0 : Hid (Below w.heap.size w (w.alloc (.cells #[.string ⟨#[97]⟩, .string ⟨#[97, 98]⟩, .string ⟨#[98]⟩] 9))) := Lib.hid ((Below.refl _ _).alloc (Nat.le_refl _) _)
  go_enter Try.func21, Try.ntmps21
  go_wp2_with fail
  refine HBD.out.mono ?_
  rintro e w1 ⟨tb, ks, rfl, hT, hB⟩
  have HB1 := Lib.hid (HB0.out.trans (hB.mono HB0.out.size))
  have HLL := Lib.hid (llen_any w1 _ _ tb wL ks hT)
  have HFD := Lib.hid (lfind_any w1 _ _ tb wL ks hT ⟨#[98]⟩ (by decide))
  rw [wFind] at HFD
  have HT := Lib.hid hT
  clear hT hB
  go_wp2_with fail
  refine HLL.out.mono ?_
  rintro e w2 ⟨rfl, rfl⟩
  rw [show ((wL.length : Nat) : Int) = 3 by decide]
  go_wp2_with fail
  refine HFD.out.mono ?_
  rintro e w2 ⟨rfl, hB2⟩
  have HB2 := Lib.hid (HB1.out.trans (hB2.mono HB1.out.size))
  have HT2 := Lib.hid (HT.out.next hB2)
  have HTX := Lib.hid (ltext_in w2 _ _ tb wL ks HT2.out 1 (by decide))
  rw [wText] at HTX
  clear hB2
  go_wp2_with fail
  refine HTX.out.mono ?_
  rintro e w3 ⟨rfl, hB3⟩
  have HB3 := Lib.hid (HB2.out.trans (hB3.mono HB2.out.size))
  have HT3 := Lib.hid (HT2.out.next hB3)
  have HPF := Lib.hid (lpref_any w3 _ _ tb wL ks HT3.out ⟨#[97, 98, 99]⟩ (by decide))
  rw [wHits] at HPF
  clear hB3
  go_wp2_with fail
  refine HPF.out.mono ?_
  rintro e w4 ⟨v, rfl, hown, hB4⟩
  obtain ⟨g, c4, rfl, _, _⟩ := own_some hown (by decide)
  have k0 : w4.cell? ⟨g, 0, none⟩ = some (.int .i64 0) := hown.cellAt 0 (by decide)
  have k1 : w4.cell? ⟨g, 1, none⟩ = some (.int .i64 1) := hown.cellAt 1 (by decide)
  have k2 : w4.cell? ⟨g, 2, none⟩ = some (.int .i64 1) := hown.cellAt 2 (by decide)
  have k3 : w4.cell? ⟨g, 3, none⟩ = some (.int .i64 2) := hown.cellAt 3 (by decide)
  have HB4 := Lib.hid (HB3.out.trans (hB4.mono HB3.out.size))
  have HT4 := Lib.hid (HT3.out.next hB4)
  have HU1 := Lib.hid (lunder_in w4 _ _ tb wL ks HT4.out ⟨#[97]⟩ (by decide) 5 (by decide) (by decide) (by decide) (by decide))
  rw [wUnder1] at HU1
  clear hB4 hown
  go_wp2_with fail
  refine HU1.out.mono ?_
  rintro e w5 ⟨v, rfl, hown, hB5⟩
  obtain ⟨g5, c5, rfl, _, _⟩ := own_some hown (by decide)
  have HB5 := Lib.hid (HB4.out.trans (hB5.mono HB4.out.size))
  have HT5 := Lib.hid (HT4.out.next hB5)
  have HO5 := Lib.hid hown
  clear hB5 hown k0 k1 k2 k3
  have HS1 : Hid (Calls Try.prog 32 #[.slice (some ⟨g5, 0, none⟩) 2 c5, .slice (some ⟨w5.heap.size, 0, none⟩) 2 2] (w5.alloc (.cells #[.int .i64 0, .int .i64 1] 3)) fun e w' => e = .returned (.bool true) ∧ ∃ q, w' = (w5.alloc (.cells #[.int .i64 0, .int .i64 1] 3)).drewN q) := Lib.hid (by
    refine sameInts_any _ w5.heap.size (w5.heap.size + 1) _ _ 2 _ 2 _ [0, 1] [0, 1] (by decide) (by decide) (by decide) (by decide) ((Sl.of_own HO5.out).alloc (Nat.le_refl _) _) ?_
    exact lit_sl (w := w5) (t := 3) (cs := #[.int .i64 0, .int .i64 1]) (xs := [0, 1].map intV) rfl)
  go_wp2_with fail
  refine HS1.out.mono ?_
  rintro e w6 ⟨rfl, q6, rfl⟩
  have HB6 := Lib.hid (bel_drewN (HB5.out.alloc HB5.out.size (.cells #[.int .i64 0, .int .i64 1] 3)) q6)
  have HT6 := Lib.hid ((HT5.out.alloc (.cells #[.int .i64 0, .int .i64 1] 3)).drewN q6)
  obtain ⟨w6, hw6⟩ : ∃ w6, (w5.alloc (.cells #[.int .i64 0, .int .i64 1] 3)).drewN q6 = w6 := ⟨_, rfl⟩
  rw [hw6] at HB6 HT6 ⊢
  clear hw6
  have HU2 := Lib.hid (lunder_in w6 _ _ tb wL ks HT6.out ⟨#[]⟩ (by decide) 1 (by decide) (by decide) (by decide) (by decide))
  rw [wUnder2] at HU2
  go_wp2_with fail
  refine HU2.out.mono ?_
  rintro e w7 ⟨v, rfl, hown, hB7⟩
  obtain ⟨g7, c7, rfl, _, _⟩ := own_some hown (by decide)
  have HB7 := Lib.hid (HB6.out.trans (hB7.mono HB6.out.size))
  have HO7 := Lib.hid hown
  clear hB7 hown
  have HS2 : Hid (Calls Try.prog 32 #[.slice (some ⟨g7, 0, none⟩) 1 c7, .slice (some ⟨w7.heap.size, 0, none⟩) 1 1] (w7.alloc (.cells #[.int .i64 0] 3)) fun e w' => e = .returned (.bool true) ∧ ∃ q, w' = (w7.alloc (.cells #[.int .i64 0] 3)).drewN q) := Lib.hid (by
    refine sameInts_any _ w7.heap.size (w7.heap.size + 1) _ _ 1 _ 1 _ [0] [0] (by decide) (by decide) (by decide) (by decide) ((Sl.of_own HO7.out).alloc (Nat.le_refl _) _) ?_
    exact lit_sl (w := w7) (t := 3) (cs := #[.int .i64 0]) (xs := [0].map intV) rfl)
  go_wp2_with fail
  refine HS2.out.mono ?_
  rintro e w8 ⟨rfl, q8, rfl⟩
  have HB8 := Lib.hid (bel_drewN (HB7.out.alloc HB7.out.size (.cells #[.int .i64 0] 3)) q8)
  go_wp2
  go_ret
  exact ⟨rfl, HB8.out⟩
end Go.Proofs.Ytpnkjfjkeoleaaa.LD
