/- math/bits.OnesCount64. -/
import Derived.Test.YtofeemmmdbdjdaaProg
import Derived.Test.YtofeemmmdbdjdaaBvPlain
import Derived.Test.YtofeemmmdbdjdaaGen
import Derived.WalkKit
import Derived.Outline
import Derived.WalkSpells
import Derived.WalkLawsBesides
import Derived.Deep.QuietTactic
import Derived.BigQuiet
import Derived.Laws.BitsAllLaws
import Derived.Lib.Hide
set_option linter.unusedVariables false
namespace Go.Proofs.Ytofeemmmdbdjdaa
open Go.RowKit HK

theorem dvp (x s : Nat) : (x : Int) / 2 ^ s = ((x / 2 ^ s : Nat) : Int) := by simp
theorem oc_and (x : Nat) (m : Nat) (hx : x < 2 ^ 64) (hm : m < 2 ^ 64) : bits .and .u64 (x : Int) (m : Int) = ((x &&& m : Nat) : Int) := u64_and_nat x m hx hm
theorem oc1 (x : Nat) (hx : x < 2 ^ 64) : IntKind.u64.wrap (bits .and .u64 ((x : Int) / 2) 6148914691236517205 + bits .and .u64 (x : Int) 6148914691236517205) = ((sw1 x : Nat) : Int) := by
  have e1 : (x : Int) / 2 = ((x / 2 : Nat) : Int) := by omega
  have h := (swar_all x hx).2.1
  rw [e1]
  have a1 : bits .and .u64 ((x / 2 : Nat) : Int) 6148914691236517205 = ((x / 2 &&& 6148914691236517205 : Nat) : Int) := oc_and (x / 2) 6148914691236517205 (by omega) (by decide)
  have a2 : bits .and .u64 (x : Int) 6148914691236517205 = ((x &&& 6148914691236517205 : Nat) : Int) := oc_and x 6148914691236517205 hx (by decide)
  rw [a1, a2, IntKind.wrap_u64]
  unfold sw1 at h ⊢
  generalize x / 2 &&& 6148914691236517205 = p at *
  generalize x &&& 6148914691236517205 = q at *
  omega
theorem oc2 (y : Nat) (hy : y < 2 ^ 64) (h : sw2 y < 2 ^ 63) : IntKind.u64.wrap (bits .and .u64 ((y : Int) / 4) 3689348814741910323 + bits .and .u64 (y : Int) 3689348814741910323) = ((sw2 y : Nat) : Int) := by
  have e1 : (y : Int) / 4 = ((y / 4 : Nat) : Int) := by omega
  rw [e1]
  have a1 : bits .and .u64 ((y / 4 : Nat) : Int) 3689348814741910323 = ((y / 4 &&& 3689348814741910323 : Nat) : Int) := oc_and (y / 4) 3689348814741910323 (by omega) (by decide)
  have a2 : bits .and .u64 (y : Int) 3689348814741910323 = ((y &&& 3689348814741910323 : Nat) : Int) := oc_and y 3689348814741910323 hy (by decide)
  rw [a1, a2, IntKind.wrap_u64]
  unfold sw2 at h ⊢
  generalize y / 4 &&& 3689348814741910323 = p at *
  generalize y &&& 3689348814741910323 = q at *
  omega
theorem oc3 (y : Nat) (hy : y < 2 ^ 63) : bits .and .u64 (IntKind.u64.wrap ((y : Int) / 16 + (y : Int))) 1085102592571150095 = ((sw3 y : Nat) : Int) := by
  have e1 : IntKind.u64.wrap ((y : Int) / 16 + (y : Int)) = ((y / 16 + y : Nat) : Int) := by rw [IntKind.wrap_u64]; omega
  rw [e1]
  have a1 : bits .and .u64 ((y / 16 + y : Nat) : Int) 1085102592571150095 = (((y / 16 + y) &&& 1085102592571150095 : Nat) : Int) := oc_and (y / 16 + y) 1085102592571150095 (by omega) (by decide)
  rw [a1]; rfl
theorem oc4 (y : Nat) (hy : y < 2 ^ 60) : IntKind.u64.wrap ((y : Int) + (y : Int) / 256) = ((sw4 y : Nat) : Int) := by rw [IntKind.wrap_u64]; unfold sw4; omega
theorem oc5 (y : Nat) (hy : y < 2 ^ 61) : IntKind.u64.wrap ((y : Int) + (y : Int) / 65536) = ((sw5 y : Nat) : Int) := by rw [IntKind.wrap_u64]; unfold sw5; omega
theorem oc6 (y : Nat) (hy : y < 2 ^ 62) : IntKind.u64.wrap ((y : Int) + (y : Int) / 4294967296) = ((sw6 y : Nat) : Int) := by rw [IntKind.wrap_u64]; unfold sw6; omega
theorem ofInt_i64m (a : Nat) (ha : a < 9223372036854775808) : (BitVec.ofInt 64 (a : Int)).toNat = a := by
  rw [BitVec.ofInt_natCast, BitVec.toNat_ofNat]; exact Nat.mod_eq_of_lt (by omega)
theorem oc7 (y : Nat) (hy : y < 2 ^ 63) : bits .and .i64 (wrap64 (y : Int)) 127 = ((y % 128 : Nat) : Int) := by
  have e1 : wrap64 (y : Int) = (y : Int) := IntWalk.wrap64_in _ ⟨by omega, by omega⟩
  rw [e1]
  have hx : y &&& 127 < 2 ^ 63 := Nat.and_lt_two_pow _ (by decide)
  show IntKind.i64.wrap ((BitVec.ofInt 64 (y : Int) &&& BitVec.ofInt 64 ((127 : Nat) : Int)).toNat : Int) = _
  rw [BitVec.toNat_and, ofInt_i64m y (by omega), ofInt_i64m 127 (by decide), IntKind.wrap_i64]
  have e2 : y &&& 127 = y % 128 := Nat.and_two_pow_sub_one_eq_mod y 7
  rw [e2]
  omega

set_option maxHeartbeats 1000000 in
theorem ones_any (x : Nat) (w : World) (hx : x < 2 ^ 64) : Calls Try.prog 27 #[.int .u64 (x : Int)] w fun e w' => e = .returned (.int .i64 (cnt x 64)) ∧ w = w' := by
  obtain ⟨h0, b1, b2, b3, b4, b5, b6⟩ := swar_all x hx
  have q1 := oc1 x hx
  obtain ⟨y1, hy1⟩ : ∃ y, sw1 x = y := ⟨_, rfl⟩
  rw [hy1] at q1 h0 b1 b2 b3 b4 b5 b6
  have q2 := oc2 y1 b1 b2
  obtain ⟨y2, hy2⟩ : ∃ y, sw2 y1 = y := ⟨_, rfl⟩
  rw [hy2] at q2 h0 b2 b3 b4 b5 b6
  have q3 := oc3 y2 b2
  obtain ⟨y3, hy3⟩ : ∃ y, sw3 y2 = y := ⟨_, rfl⟩
  rw [hy3] at q3 h0 b3 b4 b5 b6
  have q4 := oc4 y3 b3
  obtain ⟨y4, hy4⟩ : ∃ y, sw4 y3 = y := ⟨_, rfl⟩
  rw [hy4] at q4 h0 b4 b5 b6
  have q5 := oc5 y4 b4
  obtain ⟨y5, hy5⟩ : ∃ y, sw5 y4 = y := ⟨_, rfl⟩
  rw [hy5] at q5 h0 b5 b6
  have q6 := oc6 y5 b5
  obtain ⟨y6, hy6⟩ : ∃ y, sw6 y5 = y := ⟨_, rfl⟩
  rw [hy6] at q6 h0 b6
  have q7 := oc7 y6 b6
  rw [h0] at q7
  clear h0 b1 b2 b3 b4 b5 b6 hy1 hy2 hy3 hy4 hy5 hy6 hx
  go_enter Try.func27, Try.ntmps27
  go_wp2
  go_ret
  exact ⟨rfl, rfl⟩
end Go.Proofs.Ytofeemmmdbdjdaa
