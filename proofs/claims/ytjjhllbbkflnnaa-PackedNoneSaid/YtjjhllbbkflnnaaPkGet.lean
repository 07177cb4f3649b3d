/- packed: get. -/
import Derived.Test.YtjjhllbbkflnnaaProg
import Derived.Test.YtjjhllbbkflnnaaPlain
import Derived.Test.YtjjhllbbkflnnaaMem
import Derived.WalkKit
import Derived.Outline
import Derived.WalkSpells
import Derived.WalkLawsBesides
import Derived.Deep.QuietTactic
import Derived.BigQuiet
import Derived.Laws.BitsAllLaws
import Derived.Lib.Hide
set_option linter.unusedVariables false
namespace Go.Proofs.Ytjjhllbbkflnnaa
open Go.RowKit HK

/-- The struct of a sequence: n numbers of width wd, whose words are those of the number N. -/
def PI (w : World) (b n wd N : Nat) : Prop :=
  ∃ g, Row w b 52 #[.int .i64 n, .int .i64 wd, .slice (some ⟨g, 0, none⟩) ((n * wd + 63) / 64) ((n * wd + 63) / 64)] ∧
    Row w g 27 ((List.range ((n * wd + 63) / 64)).map fun k => Value.int .u64 (word N k)).toArray

theorem mask_int (wd : Nat) (h : wd ≤ 64) : IntKind.u64.wrap (IntKind.u64.wrap (2 ^ wd) - 1) = ((2 ^ wd - 1 : Nat) : Int) := by
  have e : ((2 : Int) ^ wd) = ((2 ^ wd : Nat) : Int) := by simp
  rw [e, IntKind.wrap_u64, IntKind.wrap_u64]
  have hp := Nat.two_pow_pos wd
  by_cases h64 : wd = 64
  · subst h64; decide
  · have h1 : 2 ^ wd ≤ 2 ^ 63 := Nat.pow_le_pow_right (by decide) (by omega)
    generalize 2 ^ wd = q at *
    omega
theorem and_mask (a wd : Nat) (ha : a < 2 ^ 64) (h : wd ≤ 64) : bits .and .u64 (a : Int) (IntKind.u64.wrap (IntKind.u64.wrap (2 ^ wd) - 1)) = ((a % 2 ^ wd : Nat) : Int) := by
  have hp := Nat.two_pow_pos wd
  have h1 : 2 ^ wd ≤ 2 ^ 64 := Nat.pow_le_pow_right (by decide) h
  rw [mask_int wd h, u64_and_nat a _ ha (by omega), Nat.and_two_pow_sub_one_eq_mod]
theorem div_pow_cast (x s : Nat) : (x : Int) / 2 ^ s = ((x / 2 ^ s : Nat) : Int) := by simp
theorem get_val_one (x s wd : Nat) (hx : x < 2 ^ 64) (h : wd ≤ 64) : bits .and .u64 ((x : Int) / 2 ^ s) (IntKind.u64.wrap (IntKind.u64.wrap (2 ^ wd) - 1)) = ((x / 2 ^ s % 2 ^ wd : Nat) : Int) := by
  rw [div_pow_cast, and_mask _ _ (Nat.lt_of_le_of_lt (Nat.div_le_self _ _) hx) h]
theorem get_val_two (x y s t wd : Nat) (hx : x < 2 ^ 64) (h : wd ≤ 64) : bits .and .u64 (bits .or .u64 ((x : Int) / 2 ^ s) (IntKind.u64.wrap ((y : Int) * 2 ^ t))) (IntKind.u64.wrap (IntKind.u64.wrap (2 ^ wd) - 1)) = (((x / 2 ^ s ||| y * 2 ^ t % 2 ^ 64) % 2 ^ wd : Nat) : Int) := by
  have e : IntKind.u64.wrap ((y : Int) * 2 ^ t) = ((y * 2 ^ t % 2 ^ 64 : Nat) : Int) := by rw [IntKind.wrap_u64]; simp
  have h1 : x / 2 ^ s < 2 ^ 64 := Nat.lt_of_le_of_lt (Nat.div_le_self _ _) hx
  have h2 : y * 2 ^ t % 2 ^ 64 < 2 ^ 64 := Nat.mod_lt _ (by decide)
  rw [div_pow_cast, e, u64_or_nat _ _ h1 h2, and_mask _ _ (Nat.or_lt_two_pow h1 h2) h]

set_option maxHeartbeats 400000 in
theorem pget_one (w : World) (b g n wd i m : Nat) (x : Nat) (hxl : x < 2 ^ 64) (h1 : 1 ≤ wd) (h64 : wd ≤ 64) (hi : i ≤ 1048576)
    (p0 : 0 ≤ (i : Int) * (wd : Int)) (p1 : (i : Int) * (wd : Int) ≤ 67108864)
    (hm : (i : Int) * (wd : Int) / 64 < (m : Int)) (hm2 : m ≤ 1048577)
    (hc1 : w.cell? ⟨b, 1, none⟩ = some (.int .i64 wd)) (hc2 : w.cell? ⟨b, 2, none⟩ = some (.slice (some ⟨g, 0, none⟩) m m))
    (hx : w.cell? ⟨g, i * wd / 64, none⟩ = some (.int .u64 x))
    (hs : (i : Int) * (wd : Int) % 64 + (wd : Int) ≤ 64) :
    Calls Try.prog 27 #[.pointer (some ⟨b, 0, none⟩), .int .i64 i] w fun e w' => e = .returned (.int .u64 ((x / 2 ^ (i * wd % 64) % 2 ^ wd : Nat) : Int)) ∧ ∃ k, w' = w.drewN k := by
  have HX := Lib.hid hxl; clear hxl
  have e0 : ((wd : Int) == 0) = false := by simp; omega
  have e1 : IntKind.i64.wrap ((i : Int) * (wd : Int)) = (i : Int) * (wd : Int) := IntWalk.i64_in _ (by omega)
  go_enter Try.func27, Try.ntmps27
  go_wp2
  go_quiet (fail)
  go_wp2
  go_ret
  exact ⟨congrArg (fun q => Ending.returned (.int .u64 q)) (get_val_one x _ wd HX.out h64), nq, rfl⟩

set_option maxHeartbeats 400000 in
theorem pget_two (w : World) (b g n wd i m : Nat) (x y : Nat) (hxl : x < 2 ^ 64) (h1 : 1 ≤ wd) (h64 : wd ≤ 64) (hi : i ≤ 1048576)
    (p0 : 0 ≤ (i : Int) * (wd : Int)) (p1 : (i : Int) * (wd : Int) ≤ 67108864)
    (hm : (i : Int) * (wd : Int) / 64 + 1 < (m : Int)) (hm2 : m ≤ 1048577)
    (hc1 : w.cell? ⟨b, 1, none⟩ = some (.int .i64 wd)) (hc2 : w.cell? ⟨b, 2, none⟩ = some (.slice (some ⟨g, 0, none⟩) m m))
    (hx : w.cell? ⟨g, i * wd / 64, none⟩ = some (.int .u64 x)) (hy : w.cell? ⟨g, i * wd / 64 + 1, none⟩ = some (.int .u64 y))
    (hs : 64 < (i : Int) * (wd : Int) % 64 + (wd : Int)) :
    Calls Try.prog 27 #[.pointer (some ⟨b, 0, none⟩), .int .i64 i] w fun e w' => e = .returned (.int .u64 (((x / 2 ^ (i * wd % 64) ||| y * 2 ^ (64 - i * wd % 64) % 2 ^ 64) % 2 ^ wd : Nat) : Int)) ∧ ∃ k, w' = w.drewN k := by
  have HX := Lib.hid hxl; clear hxl
  have e0 : ((wd : Int) == 0) = false := by simp; omega
  have e1 : IntKind.i64.wrap ((i : Int) * (wd : Int)) = (i : Int) * (wd : Int) := IntWalk.i64_in _ (by omega)
  go_enter Try.func27, Try.ntmps27
  go_wp2
  go_quiet (fail)
  go_wp2
  go_ret
  exact ⟨congrArg (fun q => Ending.returned (.int .u64 q)) (get_val_two x y _ _ wd HX.out h64), nq, rfl⟩
set_option maxHeartbeats 400000 in
theorem pget_zero (w : World) (b : Nat) (i : Int) (hc1 : w.cell? ⟨b, 1, none⟩ = some (.int .i64 0)) :
    Calls Try.prog 27 #[.pointer (some ⟨b, 0, none⟩), .int .i64 i] w fun e w' => e = .returned (.int .u64 0) ∧ w' = w := by
  go_enter Try.func27, Try.ntmps27
  go_wp2
  go_ret
  exact ⟨rfl, rfl⟩
end Go.Proofs.Ytjjhllbbkflnnaa
