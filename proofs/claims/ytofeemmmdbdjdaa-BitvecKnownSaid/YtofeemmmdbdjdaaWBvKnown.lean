/- bitvec: the law BitvecKnown. -/
import Derived.Test.YtofeemmmdbdjdaaWBvRet
import Derived.Test.YtofeemmmdbdjdaaBytes
set_option linter.unusedVariables false
namespace Go.Proofs.Ytofeemmmdbdjdaa.B
open Go.RowKit HK

theorem bget_nil (w : World) : Calls Try.prog 21 #[.pointer none, .int .i64 0] w fun e w' => e = .returned (.bool false) ∧ w = w' := by
  go_enter Try.func21, Try.ntmps21
  go_wp2_with (go_at_call 18; refine (blen_nil _).mono ?_; rintro e w' ⟨rfl, rfl⟩)
  all_goals (go_ret; exact ⟨rfl, rfl⟩)
theorem brank_nil (w : World) (bb : Bool) (i : Int) (h : i = 0 ∨ i = 1) : Calls Try.prog 13 #[.pointer none, .bool bb, .int .i64 i] w fun e w' => e = .returned (.int .i64 0) ∧ w = w' := by
  rcases h with rfl | rfl
  all_goals
    go_enter Try.func13, Try.ntmps13
    go_wp2_with (go_at_call 18; refine (blen_nil _).mono ?_; rintro e w' ⟨rfl, rfl⟩)
    all_goals (go_ret; exact ⟨rfl, rfl⟩)
theorem bsel_nil (w : World) : Calls Try.prog 16 #[.pointer none, .bool false, .int .i64 0] w fun e w' => e = .returned (.int .i64 (-1)) ∧ Below w.heap.size w w' := by
  obtain ⟨W, hW⟩ : ∃ W, ((w.alloc (.cells #[.pointer none] 23)).alloc (.cells #[.bool false] 4)).alloc (.cells #[.int .i64 0] 3) = W := ⟨_, rfl⟩
  have hk1 : W.cell? ⟨w.heap.size, 0, none⟩ = some (.pointer none) := by rw [← hW]; exact (((Row.new w _ _).alloc _).alloc _).cell 0
  have hk2 : W.cell? ⟨w.heap.size + 1, 0, none⟩ = some (.bool false) := by rw [← hW]; exact ((Row.new2 w _ _ _).alloc _).cell 0
  have hk3 : W.cell? ⟨w.heap.size + 1 + 1, 0, none⟩ = some (.int .i64 0) := by rw [← hW]; exact (Row.new3 w _ _ _ _).cell 0
  have hBel : ∀ q, Below w.heap.size w (W.drewN q) := by rw [← hW]; exact bel3 w _ _ _
  have HB := Lib.hid hBel; clear hBel
  have HWW := Lib.hid hW; clear hW
  go_enter Try.func16, Try.ntmps16
  go_wp2_with fail
  rw [HWW.out]
  refine (blen_nil _).mono ?_
  rintro e w' ⟨rfl, rfl⟩
  go_wp2
  go_quiet ((go_at_call 13; exact Calls.quiet_of_same ((brank_nil _ _ _ (.inl rfl)).mono (fun e w' h => ⟨h.1, h.2.symm⟩))))
  go_wp2
  go_ret
  exact ⟨rfl, HB.out _⟩
theorem benc_nil (w : World) : Calls Try.prog 23 #[.pointer none] w fun e w' => e = .returned (.slice none 0 0) ∧ w = w' := by
  go_enter Try.func23, Try.ntmps23
  go_wp2
  go_ret
  exact ⟨rfl, rfl⟩

instance (bl : List Nat) : Decidable (isCode bl) := by unfold isCode; infer_instance
def badA : Array Value := #[.string ⟨#[]⟩, .string ⟨#[0, 0, 0, 0, 0]⟩, .string ⟨#[4, 0, 0, 0, 13, 0, 0, 0, 0, 0, 0, 0, 1, 0, 0, 0]⟩, .string ⟨#[4, 0, 0, 0, 29, 0, 0, 0, 0, 0, 0, 0, 0, 0, 0, 0]⟩, .string ⟨#[4, 0, 0, 0, 13, 0, 0, 0, 0, 0, 0, 0, 0, 0, 0]⟩, .string ⟨#[65, 0, 0, 0, 0, 0, 0, 0, 0, 0, 0, 0, 0, 0, 0, 0]⟩, .string ⟨#[1, 0, 0, 0, 0, 0, 0, 0, 0, 0, 0, 0, 1, 0, 0, 0]⟩, .string ⟨#[255, 255, 255, 255]⟩]
def BadAt (k : Nat) : Prop := ∃ s : ByteArray, badA[k]? = some (.string s) ∧ s.size ≤ 16 ∧ ¬ isCode (bytesOf s)
theorem bad_at : ∀ k, k < 8 → BadAt k
  | 0, _ => ⟨_, rfl, by decide, by decide +kernel⟩
  | 1, _ => ⟨_, rfl, by decide, by decide +kernel⟩
  | 2, _ => ⟨_, rfl, by decide, by decide +kernel⟩
  | 3, _ => ⟨_, rfl, by decide, by decide +kernel⟩
  | 4, _ => ⟨_, rfl, by decide, by decide +kernel⟩
  | 5, _ => ⟨_, rfl, by decide, by decide +kernel⟩
  | 6, _ => ⟨_, rfl, by decide, by decide +kernel⟩
  | 7, _ => ⟨_, rfl, by decide, by decide +kernel⟩
  | k + 8, h => absurd h (by omega)

set_option maxRecDepth 100000 in
set_option maxHeartbeats 4000000 in
theorem known_all (w : World) : Calls Try.prog 11 #[] w fun e w' => e = .returned (.bool true) ∧ Below w.heap.size w w' := by
  go_enter Try.func11, Try.ntmps11
  go_wp2_with fail
  refine (blen_nil _).mono ?_
  rintro e w' ⟨rfl, hw'⟩
  rw [hw']; clear hw'
  go_wp2_with fail
  refine (bget_nil _).mono ?_
  rintro e w' ⟨rfl, rfl⟩
  go_wp2_with fail
  refine (brank_nil _ _ _ (.inr rfl)).mono ?_
  rintro e w' ⟨rfl, rfl⟩
  go_wp2_with fail
  refine (bsel_nil _).mono ?_
  rintro e w1 ⟨rfl, hB1⟩
  have hs1 := hB1.size
  go_wp2_with fail
  refine (benc_nil _).mono ?_
  rintro e w' ⟨rfl, rfl⟩
  have hnew := bnew_any w1 none 0 0 [] (by decide) ⟨rfl, fun h => by omega⟩
  have e1 : bitsN [] = 0 := rfl
  rw [e1] at hnew
  have HN := Lib.hid hnew; clear hnew e1
  go_wp2_with fail
  refine HN.out.mono ?_
  rintro e w2 ⟨b, rfl, hbv, hB2⟩
  have hB12 := hB1.trans (hB2.mono hs1)
  have HV := Lib.hid hbv
  clear hbv
  go_wp2_with fail
  refine (benc_any w2 _ _ b 0 0 HV.out (Nat.le_refl _)).mono ?_
  rintro e w3 ⟨v3, rfl, hown3, hB3⟩
  obtain ⟨A3, c3, rfl, -, -⟩ := own_shape hown3
  have hcv := conv_put hown3
  have ecode : bcode 0 0 = [0, 0, 0, 0] := by decide +kernel
  rw [ecode] at hcv
  have hbq : (bs [0, 0, 0, 0]).toList = [0, 0, 0, 0] := by rw [bs_toList]; decide
  have hB13 := hB12.trans (hB3.mono hB12.size)
  have hc0 := (HV.out.below hB3 (Nat.le_refl _)).len
  have HO3 := Lib.hid hown3; clear hown3 ecode
  go_wp2_with fail
  refine (blen_any _ _ _ hc0).mono ?_
  rintro e w' ⟨rfl, hw'⟩
  rw [hw']; clear hw'
  go_wp2_with fail
  go_loopw [6] (fun x wr => ∃ k : Nat, k ≤ 8 ∧ x = .int .i64 k ∧ Row wr w3.heap.size 9 badA ∧ Below w.heap.size w wr) (fun x _ => 8 - (intOf x).toNat)
  case atStart => exact ⟨0, by omega, rfl, Row.new w3 _ _, hB13.alloc hB13.size _⟩
  case round =>
    obtain ⟨k, hk, rfl, hrow, hB⟩ := hrel
    by_cases hlt : k < 8
    · obtain ⟨s, hs, hsz, hno⟩ := bad_at k hlt
      have hcell : wr.cell? ⟨w3.heap.size, k, none⟩ = some (.string s) := (hrow.cell k).trans hs
      obtain ⟨A4, c4, w4, hrun, hc4, hm4, hB4, hsl4⟩ := of_string wr s (by unfold maxLen; omega)
      have HS4 := Lib.hid hsl4
      have HR := Lib.hid hrow
      have HNO := Lib.hid hno
      have hwl := hrow.lt
      have hB14 := hB.trans (hB4.mono hB.size)
      clear hsl4 hrow hs hno
      go_wp2_with fail
      refine (bdec_any w4 A4 _ c4 (bytesOf s) (bytesOf_lt s) HS4.out hc4 hm4).mono ?_
      rintro e w5 ⟨hB5, hP5⟩
      obtain rfl : e = .returned (.tuple #[.pointer none, .int .i64 5]) := by
        rcases hP5 with ⟨h, _⟩ | ⟨_, h⟩
        · exact (HNO.out h).elim
        · exact h
      clear hP5 hrun
      go_wp2
      go_roundw
      case rel => exact ⟨k + 1, by omega, by go_num, (HR.out.below hB4 hwl).below hB5 (Nat.lt_of_lt_of_le hwl hB4.size), hB14.trans (hB5.mono hB14.size)⟩
      case measure => simp [intOf]; omega
    · clear hrow
      go_wp2_with fail
      refine (bworks_true _).mono ?_
      rintro e w5 ⟨rfl, hB5⟩
      go_wp2
      go_ret
      exact ⟨rfl, hB.trans (hB5.mono hB.size)⟩
end Go.Proofs.Ytofeemmmdbdjdaa.B
