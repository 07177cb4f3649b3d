/- bitvec: the laws BitvecRanks, BitvecSelects. -/
import Derived.Test.YtofeemmmdbdjdaaBvRef
set_option linter.unusedVariables false
namespace Go.Proofs.Ytofeemmmdbdjdaa.B
open Go.RowKit HK

set_option maxHeartbeats 2000000 in
theorem ranks_all (A : Option Addr) (n c : Nat) (l : List Bool) (i : Int) (w : World) (hm : n ≤ maxLen) (hs : Sl w w.heap.size A n (l.map Value.bool)) (hi : (Lit.int .i64 i).wf = true) :
    Calls Try.prog 3 #[.slice A n c, .int .i64 i] w fun e w' => e = .returned (.bool true) ∧ Below w.heap.size w w' := by
  unfold maxLen at hm
  have hri := rg_i64 i hi
  by_cases hbig : 3000 < n
  · have hnb : decide ((3000 : Int) < (n : Int)) = true := by simp; omega
    clear hs
    go_enter Try.func3, Try.ntmps3
    go_wp2
    go_ret
    exact ⟨rfl, Below.refl _ _⟩
  · have hnb : decide ((3000 : Int) < (n : Int)) = false := by simp; omega
    have HS := Lib.hid hs; clear hs
    go_enter Try.func3, Try.ntmps3
    go_wp2_with fail
    refine (bnew_any w A n c l (by omega) HS.out).mono ?_
    rintro e w1 ⟨b, rfl, hbv, hB⟩
    have H := Lib.hid hbv; clear hbv
    go_wp2_with fail
    refine (brank_any w1 _ _ b n _ H.out true i hi).mono ?_
    rintro e w2 ⟨rfl, hq2⟩
    have H2 := Lib.hid (H.out.quiet hq2)
    have hB2 := hB.trans (qbel _ hq2)
    have HS2 := Lib.hid (HS.out.below hB2)
    clear hq2
    go_wp2_with fail
    refine (rrank_any w2 _ A n c l true i (by omega) hi HS2.out).mono ?_
    rintro e w' ⟨rfl, rfl⟩
    go_wp2_with fail
    refine (brank_any w2 _ _ b n _ H2.out false i hi).mono ?_
    rintro e w3 ⟨rfl, hq3⟩
    have hB3 := hB2.trans (qbel _ hq3)
    have HS3 := Lib.hid (HS.out.below hB3)
    clear hq3
    go_wp2_with fail
    refine (rrank_any w3 _ A n c l false i (by omega) hi HS3.out).mono ?_
    rintro e w' ⟨rfl, rfl⟩
    go_wp2_with fail
    refine (bworks_true w3).mono ?_
    rintro e w4 ⟨rfl, hB4⟩
    go_wp2
    go_ret
    exact ⟨rfl, hB3.trans (hB4.mono hB3.size)⟩

set_option maxHeartbeats 2000000 in
theorem selects_all (A : Option Addr) (n c : Nat) (l : List Bool) (i : Int) (w : World) (hm : n ≤ maxLen) (hs : Sl w w.heap.size A n (l.map Value.bool)) (hi : (Lit.int .i64 i).wf = true) :
    Calls Try.prog 4 #[.slice A n c, .int .i64 i] w fun e w' => e = .returned (.bool true) ∧ Below w.heap.size w w' := by
  unfold maxLen at hm
  have hri := rg_i64 i hi
  by_cases hbig : 3000 < n
  · have hnb : decide ((3000 : Int) < (n : Int)) = true := by simp; omega
    clear hs
    go_enter Try.func4, Try.ntmps4
    go_wp2
    go_ret
    exact ⟨rfl, Below.refl _ _⟩
  · have hnb : decide ((3000 : Int) < (n : Int)) = false := by simp; omega
    have HS := Lib.hid hs; clear hs
    go_enter Try.func4, Try.ntmps4
    go_wp2_with fail
    refine (bnew_any w A n c l (by omega) HS.out).mono ?_
    rintro e w1 ⟨b, rfl, hbv, hB⟩
    obtain ⟨E, hE⟩ : ∃ E, w1.heap.size = E := ⟨_, rfl⟩
    rw [hE] at hbv
    have H := Lib.hid hbv; clear hbv
    have hs1 := hB.size
    go_wp2_with fail
    refine (bsel_any w1 _ E b n _ H.out (by omega) true i hi).mono ?_
    rintro e w2 ⟨z, rfl, hz, hB2⟩
    have hs2 := hB2.size
    have H2 := Lib.hid (H.out.below hB2 (by omega))
    have HZ := Lib.hid hz; clear hz
    have hBB2 := hB.trans (hB2.mono hs1)
    have HS2 := Lib.hid (HS.out.below hBB2)
    clear hB2
    go_wp2_with fail
    refine (rsel_any w2 _ A n c l true i (by omega) hi HS2.out).mono ?_
    rintro e w' ⟨z', rfl, hz', rfl⟩
    obtain rfl := HZ.out.same hz'
    clear hz'
    go_wp2_with fail
    refine (bsel_any w2 _ E b n _ H2.out (by omega) false i hi).mono ?_
    rintro e w3 ⟨z3, rfl, hz3, hB3⟩
    have HZ3 := Lib.hid hz3; clear hz3
    have hBB3 := hBB2.trans (hB3.mono (by omega))
    have HS3 := Lib.hid (HS.out.below hBB3)
    clear hB3
    go_wp2_with fail
    refine (rsel_any w3 _ A n c l false i (by omega) hi HS3.out).mono ?_
    rintro e w' ⟨z4, rfl, hz4, rfl⟩
    obtain rfl := HZ3.out.same hz4
    clear hz4
    go_wp2_with fail
    refine (bworks_true w3).mono ?_
    rintro e w4 ⟨rfl, hB4⟩
    go_wp2
    go_ret
    exact ⟨rfl, hBB3.trans (hB4.mono hBB3.size)⟩
end Go.Proofs.Ytofeemmmdbdjdaa.B
