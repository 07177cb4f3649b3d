/- louds: the law LoudsDecodes. -/
import Derived.Test.YtpnkjfjkeoleaaaLhDec
import Derived.Test.YtpnkjfjkeoleaaaWLdOne
set_option linter.unusedVariables false
set_option maxRecDepth 100000
namespace Go.Proofs.Ytpnkjfjkeoleaaa.LD
open Go.RowKit HK
open Go.Proofs.Ytpnkjfjkeoleaaa.B (bytesOf bytesOf_len bytesOf_lt PutInv)

set_option maxHeartbeats 8000000 in
theorem decodes_all (A : Option Addr) (n c : Nat) (bl : List Nat) (w : World) (hm : n ≤ maxLen) (hs : ArgU8 w A n c bl) :
    Calls Try.prog 12 #[.slice A n c] w fun e w' => e = .returned (.bool true) ∧ Below w.heap.size w w' := by
  obtain ⟨hnc, hcm, hbl, hsl⟩ := hs
  have HS : Hid (Sl w w.heap.size A n (bl.map B.u8v)) := Lib.hid hsl
  have HDC := Lib.hid (ldec_any w A n c bl hbl HS.out hnc hcm)
  have HRD : Hid (n ≤ 20000 → ∀ W, Below w.heap.size w W → Calls Try.prog 37 #[.slice A n c] W (RDec11Post W bl)) := Lib.hid (fun hn W hW => rdecode_any W A n c bl hn hbl ((HS.out.below hW).more hW.size) hnc hcm)
  unfold maxLen at hm hcm
  clear hbl hsl
  by_cases hbig : 20000 < n
  · have g0 : decide ((20000 : Int) < (n : Int)) = true := by simp; omega
    go_enter Try.func12, Try.ntmps12
    go_wp2_with fail
    refine (lworks_true _).mono ?_
    rintro e w1 ⟨rfl, hB1⟩
    have HB1 := Lib.hid hB1
    clear hB1
    go_wp2
    go_ret
    exact ⟨rfl, HB1.out⟩
  · have g0 : decide ((20000 : Int) < (n : Int)) = false := by simp; omega
    go_enter Try.func12, Try.ntmps12
    go_wp2_with fail
    refine HDC.out.mono ?_
    rintro e w1 ⟨hB1, hp1⟩
    have HB1 := Lib.hid hB1
    have HR := Lib.hid (HRD.out (by omega) w1 HB1.out)
    clear hB1
    rcases hp1 with ⟨L, ks, tb, hk, rfl, hT, hu⟩ | ⟨rfl, hno⟩
    · have HT := Lib.hid hT; have HK := Lib.hid hk; have HU := Lib.hid hu
      clear hT hk hu
      go_wp2_with fail
      refine HR.out.mono ?_
      rintro e w2 ⟨hB2, A2, m, c2, ok, rfl, hp2⟩
      have HB2 := Lib.hid (HB1.out.trans (hB2.mono HB1.out.size))
      have HT2 := Lib.hid (HT.out.next hB2)
      clear hB2
      rcases hp2 with ⟨rfl, hm20, ss, ks', hs2, hz2, F', e'⟩ | ⟨rfl, hno⟩
      · have e1 := HU.out _ _ F' e'
        have hT2 := HT2.out
        rw [← e1] at hT2
        have HHAS := Lib.hid (lhas_any w2 _ _ tb ks A2 m c2 ss hT2 (by unfold maxLen; omega) (fun s h => by have := hz2 s h; unfold maxLen; omega) hs2)
        clear hs2 hz2 F' e' e1 hT2
        go_wp2_with fail
        refine HHAS.out.mono ?_
        rintro e w3 ⟨rfl, hB3⟩
        have HB3 := Lib.hid (HB2.out.trans (hB3.mono HB2.out.size))
        clear hB3
        go_wp2_with fail
        refine (lworks_true w3).mono ?_
        rintro e w4 ⟨rfl, hB4⟩
        have HB4 := Lib.hid (HB3.out.trans (hB4.mono HB3.out.size))
        clear hB4
        go_wp2
        go_ret
        exact ⟨rfl, HB4.out⟩
      · exact (hno L ks HT.out.full HK.out).elim
    · have HNO := Lib.hid hno
      clear hno
      go_wp2_with fail
      refine HR.out.mono ?_
      rintro e w2 ⟨hB2, A2, m, c2, ok, rfl, hp2⟩
      have HB2 := Lib.hid (HB1.out.trans (hB2.mono HB1.out.size))
      clear hB2
      rcases hp2 with ⟨rfl, hm20, ss, ks', hs2, hz2, F', e'⟩ | ⟨rfl, hno⟩
      · exact (HNO.out _ _ F' e').elim
      · clear hno
        go_wp2_with fail
        refine (lworks_true w2).mono ?_
        rintro e w4 ⟨rfl, hB4⟩
        have HB4 := Lib.hid (HB2.out.trans (hB4.mono HB2.out.size))
        clear hB4
        go_wp2
        go_ret
        exact ⟨rfl, HB4.out⟩
end Go.Proofs.Ytpnkjfjkeoleaaa.LD
