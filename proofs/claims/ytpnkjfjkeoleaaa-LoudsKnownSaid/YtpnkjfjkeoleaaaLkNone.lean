/- louds, the law's helper none: a nil trie, and what is not in a trie. -/
import Derived.Test.YtpnkjfjkeoleaaaLkMany
import Derived.Test.YtpnkjfjkeoleaaaLwFront
import Derived.Test.YtpnkjfjkeoleaaaLeEnc
set_option linter.unusedVariables false
set_option maxRecDepth 100000
namespace Go.Proofs.Ytpnkjfjkeoleaaa.LD
open Go.RowKit HK
open Go.Proofs.Ytpnkjfjkeoleaaa.B (bytesOf bytesOf_len bytesOf_lt)

theorem own_zero {w : World} {base s : Nat} {e : TypeId} {v : Value} {xs : List Value} (h : w.ownsRow base e s v 0 xs) : ∃ A c, v = .slice A 0 c := by
  rcases h.2 with ⟨hv, _⟩ | ⟨g, cap, cur, hv, _⟩
  · exact ⟨none, 0, hv⟩
  · exact ⟨_, _, hv⟩
set_option maxHeartbeats 8000000 in
theorem none_any (w : World) : Calls Try.prog 26 #[] w (RefPost w) := by
  have HBD : Hid (Calls Try.prog 23 #[.slice (some ⟨w.heap.size, 0, none⟩) 3 3] (w.alloc (.cells #[.string ⟨#[97]⟩, .string ⟨#[97, 98]⟩, .string ⟨#[98]⟩] 9)) (Made2 (w.alloc (.cells #[.string ⟨#[97]⟩, .string ⟨#[97, 98]⟩, .string ⟨#[98]⟩] 9)) wL)) := Lib.hid (by
    refine lbuild_made _ _ 3 3 wS wL wS_L wL_good wL_wt (by decide) wS_len ?_
    have h := lit_sl (w := w) (t := 9) (cs := #[.string ⟨#[97]⟩, .string ⟨#[97, 98]⟩, .string ⟨#[98]⟩]) (xs := wS.map Value.string) rfl
    rw [World.size_alloc]
    exact h)
  have HB0 : Hid (Below w.heap.size w (w.alloc (.cells #[.string ⟨#[97]⟩, .string ⟨#[97, 98]⟩, .string ⟨#[98]⟩] 9))) := Lib.hid ((Below.refl _ _).alloc (Nat.le_refl _) _)
  go_enter Try.func26, Try.ntmps26
  go_wp2_with fail
  refine (lfind_nil _ _).mono ?_
  rintro e w' ⟨rfl, rfl⟩
  go_wp2_with fail
  refine (ltext_nil _ _ (by decide)).mono ?_
  rintro e w' ⟨rfl, rfl⟩
  go_wp2_with fail
  refine (llen_nil _).mono ?_
  rintro e w' ⟨rfl, rfl⟩
  go_wp2_with fail
  refine (lpref_nil _ _).mono ?_
  rintro e w' ⟨rfl, rfl⟩
  go_wp2_with fail
  refine (lunder_none _ _ _).mono ?_
  rintro e w' ⟨rfl, rfl⟩
  go_wp2_with fail
  refine (lenc_nil _).mono ?_
  rintro e w' ⟨rfl, rfl⟩
  go_wp2_with fail
  refine HBD.out.mono ?_
  rintro e w1 ⟨tb, ks, rfl, hT, hB⟩
  have HB1 := Lib.hid (HB0.out.trans (hB.mono HB0.out.size))
  have HT := Lib.hid hT
  have HF1 := Lib.hid (lfind_any w1 _ _ tb wL ks hT ⟨#[99]⟩ (by decide))
  rw [wFindC] at HF1
  clear hT hB
  go_wp2_with fail
  refine HF1.out.mono ?_
  rintro e w2 ⟨rfl, hB2⟩
  have HB2 := Lib.hid (HB1.out.trans (hB2.mono HB1.out.size))
  have HT2 := Lib.hid (HT.out.next hB2)
  have HF2 := Lib.hid (lfind_any w2 _ _ tb wL ks HT2.out ⟨#[]⟩ (by decide))
  rw [wFindE] at HF2
  clear hB2
  go_wp2_with fail
  refine HF2.out.mono ?_
  rintro e w3 ⟨rfl, hB3⟩
  have HB3 := Lib.hid (HB2.out.trans (hB3.mono HB2.out.size))
  have HT3 := Lib.hid (HT2.out.next hB3)
  clear hB3
  go_wp2_with fail
  refine (ltext_out w3 _ _ tb wL ks HT3.out 3 (.inr (by decide))).mono ?_
  rintro e w' ⟨rfl, rfl⟩
  go_wp2_with fail
  refine (ltext_out w3 _ _ tb wL ks HT3.out (-1) (.inl (by decide))).mono ?_
  rintro e w' ⟨rfl, rfl⟩
  have HU := Lib.hid (lunder_any w3 _ _ tb wL ks HT3.out ⟨#[97]⟩ (by decide) 0 (by decide))
  rw [show (under wL (bytesOf ⟨#[97]⟩)).take ((0 : Int).toNat) = [] from rfl] at HU
  go_wp2_with fail
  refine HU.out.mono ?_
  rintro e w4 ⟨v, rfl, hown, hB4⟩
  obtain ⟨A4, c4, rfl⟩ := own_zero hown
  have HB4 := Lib.hid (HB3.out.trans (hB4.mono HB3.out.size))
  have HT4 := Lib.hid (HT3.out.next hB4)
  have HP := Lib.hid (lpref_any w4 _ _ tb wL ks HT4.out ⟨#[]⟩ (by decide))
  rw [wHitsE] at HP
  clear hB4 hown
  go_wp2_with fail
  refine HP.out.mono ?_
  rintro e w5 ⟨v, rfl, hown, hB5⟩
  obtain ⟨A5, c5, rfl⟩ := own_zero hown
  have HB5 := Lib.hid (HB4.out.trans (hB5.mono HB4.out.size))
  clear hB5 hown
  go_wp2
  go_ret
  exact ⟨rfl, HB5.out⟩
end Go.Proofs.Ytpnkjfjkeoleaaa.LD
