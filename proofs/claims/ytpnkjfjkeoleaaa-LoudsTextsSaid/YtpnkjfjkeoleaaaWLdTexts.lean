/- louds: the law LoudsTexts. -/
import Derived.Test.YtpnkjfjkeoleaaaLwFront
set_option linter.unusedVariables false
set_option maxRecDepth 100000
namespace Go.Proofs.Ytpnkjfjkeoleaaa.LD
open Go.RowKit HK
open Go.Proofs.Ytpnkjfjkeoleaaa.B (bytesOf bytesOf_len bytesOf_lt)

set_option maxHeartbeats 2000000 in
theorem texts_all (A : Option Addr) (n c : Nat) (ss0 : List ByteArray) (k : Int) (w : World) (hm : n ≤ maxLen) (hs : ArgStr w A n c ss0) (hk : (Lit.int .i64 k).wf = true) :
    Calls Try.prog 8 #[.slice A n c, .int .i64 k] w fun e w' => e = .returned (.bool true) ∧ Below w.heap.size w w' := by
  have HSET := Lib.hid (lset_any w A n c ss0 hm hs.2.2.2 hs.2.2.1)
  have hkr := rg_i64 _ hk
  unfold maxLen at hm
  clear hs hk
  go_enter Try.func8, Try.ntmps8
  go_wp2_with fail
  refine HSET.out.mono ?_
  intro e w1 hP
  obtain ⟨A1, m, c1, ss, rfl, hF⟩ := setF_of hP
  have HF := Lib.hid hF
  have hfew := hF.few
  clear hP hF
  go_wp2_with fail
  refine HF.out.build.mono ?_
  rintro e w2 ⟨tb, ks, rfl, hT, hB⟩
  have HT := Lib.hid (both_of HF.out hT hB)
  have HB := Lib.hid (HF.out.bel.trans (hB.mono HF.out.bel.size))
  clear hT hB
  by_cases hin : 0 ≤ k ∧ k < (m : Int)
  · obtain ⟨j, rfl⟩ : ∃ j : Nat, k = j := ⟨k.toNat, by omega⟩
    have hj : j < m := by omega
    have HTX := Lib.hid (ltext_in w2 _ _ tb _ ks HT.out.tr j (by rw [HT.out.len]; exact hj))
    go_wp2_with fail
    refine HTX.out.mono ?_
    rintro e w3 ⟨rfl, hB3⟩
    have HT3 := Lib.hid (HT.out.next hB3)
    have HB3 := Lib.hid (HB.out.trans (hB3.mono HB.out.size))
    obtain ⟨b, off, s, rfl, hc, hat, hsz⟩ := strs_at HT3.out.size HT3.out.sl hj
    have g1 : decide ((j : Int) < 0) = false := by simp
    have g2 : decide ((m : Int) ≤ (j : Int)) = false := by simp; omega
    have g2' : decide (m ≤ j) = false := by simp; omega
    have g3 := bs_eq hat
    have i1 : (0 : Int) ≤ (j : Int) := by omega
    have i2 : (j : Int) < (m : Int) := by omega
    clear hat hB3 hin
    go_wp2_with fail
    refine (lworks_true _).mono ?_
    rintro e w4 ⟨rfl, hB4⟩
    go_wp2
    go_ret
    exact ⟨rfl, HB3.out.trans (hB4.mono HB3.out.size)⟩
  · have HTX := Lib.hid (ltext_out w2 _ _ tb _ ks HT.out.tr k (by rw [HT.out.len]; omega))
    by_cases h0 : k < 0
    · have g1 : decide (k < 0) = true := by simpa using h0
      clear hin
      go_wp2_with fail
      refine HTX.out.mono ?_
      rintro e w3 ⟨rfl, rfl⟩
      go_wp2_with fail
      refine (lworks_true _).mono ?_
      rintro e w4 ⟨rfl, hB4⟩
      go_wp2
      go_ret
      exact ⟨rfl, HB.out.trans (hB4.mono HB.out.size)⟩
    · have g1 : decide (k < 0) = false := by simpa using h0
      have g2 : decide ((m : Int) ≤ k) = true := by simp; omega
      clear hin
      go_wp2_with fail
      refine HTX.out.mono ?_
      rintro e w3 ⟨rfl, rfl⟩
      go_wp2_with fail
      refine (lworks_true _).mono ?_
      rintro e w4 ⟨rfl, hB4⟩
      go_wp2
      go_ret
      exact ⟨rfl, HB.out.trans (hB4.mono HB.out.size)⟩
end Go.Proofs.Ytpnkjfjkeoleaaa.LD
