/- GPkA: several texts in one: packed: get. packed: set. math/bits.Len64; packed: Len, Width. packed: New. Conditions: those each theorem names. -/
import Derived.Test.YtpnkjfjkeoleaaaProg
import Derived.Test.YtpnkjfjkeoleaaaPlain
import Derived.Test.YtpnkjfjkeoleaaaGMem
import Derived.WalkKit
import Derived.Outline
import Derived.WalkSpells
import Derived.WalkLawsBesides
import Derived.Deep.QuietTactic
import Derived.BigQuiet
import Derived.Laws.BitsAllLaws
import Derived.Lib.Hide
import Derived.Lib.Strings
import Derived.Lib.Slices
import Derived.Lib.Small
import Derived.Lib.Walk
import Derived.Lib.BitFns
import Derived.Deep.OwnRows
import Derived.RegionTactic
/-! packed: get. -/
set_option linter.unusedVariables false
set_option maxRecDepth 100000
namespace Go.Proofs.Ytpnkjfjkeoleaaa
open Go.RowKit HK

/-- The struct of a sequence: n numbers of width wd, whose words are those of the number N. -/
def PI (w : World) (b n wd N : Nat) : Prop :=
  ∃ g, Row w b 108 #[.int .i64 n, .int .i64 wd, .slice (some ⟨g, 0, none⟩) ((n * wd + 63) / 64) ((n * wd + 63) / 64)] ∧
    Row w g 87 ((List.range ((n * wd + 63) / 64)).map fun k => Value.int .u64 (word N k)).toArray

theorem mask_int (wd : Nat) (h : wd ≤ 64) : IntKind.u64.wrap (IntKind.u64.wrap (2 ^ wd) - 1) = ((2 ^ wd - 1 : Nat) : Int) := by
  have e : ((2 : Int) ^ wd) = ((2 ^ wd : Nat) : Int) := by simp
  rw [e, IntKind.wrap_u64, IntKind.wrap_u64]
  have hp := Nat.two_pow_pos wd
  by_cases h64 : wd = 64
  · subst h64; decide
  · have h1 : 2 ^ wd ≤ 2 ^ 63 := Nat.pow_le_pow_right (by decide) (by omega)
    generalize 2 ^ wd = q at *
    omega
theorem and_mask (a wd : Nat) (ha : a < 2 ^ 64) (h : wd ≤ 64) : bits .and .u64 (a : Int) (IntKind.u64.wrap (IntKind.u64.wrap (2 ^ wd) - 1)) = ((a % 2 ^ wd : Nat) : Int) := by
  have hp := Nat.two_pow_pos wd
  have h1 : 2 ^ wd ≤ 2 ^ 64 := Nat.pow_le_pow_right (by decide) h
  rw [mask_int wd h, u64_and_nat a _ ha (by omega), Nat.and_two_pow_sub_one_eq_mod]
theorem div_pow_cast (x s : Nat) : (x : Int) / 2 ^ s = ((x / 2 ^ s : Nat) : Int) := by simp
theorem get_val_one (x s wd : Nat) (hx : x < 2 ^ 64) (h : wd ≤ 64) : bits .and .u64 ((x : Int) / 2 ^ s) (IntKind.u64.wrap (IntKind.u64.wrap (2 ^ wd) - 1)) = ((x / 2 ^ s % 2 ^ wd : Nat) : Int) := by
  rw [div_pow_cast, and_mask _ _ (Nat.lt_of_le_of_lt (Nat.div_le_self _ _) hx) h]
theorem get_val_two (x y s t wd : Nat) (hx : x < 2 ^ 64) (h : wd ≤ 64) : bits .and .u64 (bits .or .u64 ((x : Int) / 2 ^ s) (IntKind.u64.wrap ((y : Int) * 2 ^ t))) (IntKind.u64.wrap (IntKind.u64.wrap (2 ^ wd) - 1)) = (((x / 2 ^ s ||| y * 2 ^ t % 2 ^ 64) % 2 ^ wd : Nat) : Int) := by
  have e : IntKind.u64.wrap ((y : Int) * 2 ^ t) = ((y * 2 ^ t % 2 ^ 64 : Nat) : Int) := by rw [IntKind.wrap_u64]; simp
  have h1 : x / 2 ^ s < 2 ^ 64 := Nat.lt_of_le_of_lt (Nat.div_le_self _ _) hx
  have h2 : y * 2 ^ t % 2 ^ 64 < 2 ^ 64 := Nat.mod_lt _ (by decide)
  rw [div_pow_cast, e, u64_or_nat _ _ h1 h2, and_mask _ _ (Nat.or_lt_two_pow h1 h2) h]

set_option maxHeartbeats 400000 in
theorem pget_one (w : World) (b g n wd i m : Nat) (x : Nat) (hxl : x < 2 ^ 64) (h1 : 1 ≤ wd) (h64 : wd ≤ 64) (hi : i ≤ 1048576)
    (p0 : 0 ≤ (i : Int) * (wd : Int)) (p1 : (i : Int) * (wd : Int) ≤ 67108864)
    (hm : (i : Int) * (wd : Int) / 64 < (m : Int)) (hm2 : m ≤ 1048577)
    (hc1 : w.cell? ⟨b, 1, none⟩ = some (.int .i64 wd)) (hc2 : w.cell? ⟨b, 2, none⟩ = some (.slice (some ⟨g, 0, none⟩) m m))
    (hx : w.cell? ⟨g, i * wd / 64, none⟩ = some (.int .u64 x))
    (hs : (i : Int) * (wd : Int) % 64 + (wd : Int) ≤ 64) :
    Calls Try.prog 70 #[.pointer (some ⟨b, 0, none⟩), .int .i64 i] w fun e w' => e = .returned (.int .u64 ((x / 2 ^ (i * wd % 64) % 2 ^ wd : Nat) : Int)) ∧ ∃ k, w' = w.drewN k := by
  have HX := Lib.hid hxl; clear hxl
  have e0 : ((wd : Int) == 0) = false := by simp; omega
  have e1 : IntKind.i64.wrap ((i : Int) * (wd : Int)) = (i : Int) * (wd : Int) := IntWalk.i64_in _ (by omega)
  go_enter Try.func70, Try.ntmps70
  go_wp2
  go_quiet (fail)
  go_wp2
  go_ret
  exact ⟨congrArg (fun q => Ending.returned (.int .u64 q)) (get_val_one x _ wd HX.out h64), nq, rfl⟩

set_option maxHeartbeats 400000 in
theorem pget_two (w : World) (b g n wd i m : Nat) (x y : Nat) (hxl : x < 2 ^ 64) (h1 : 1 ≤ wd) (h64 : wd ≤ 64) (hi : i ≤ 1048576)
    (p0 : 0 ≤ (i : Int) * (wd : Int)) (p1 : (i : Int) * (wd : Int) ≤ 67108864)
    (hm : (i : Int) * (wd : Int) / 64 + 1 < (m : Int)) (hm2 : m ≤ 1048577)
    (hc1 : w.cell? ⟨b, 1, none⟩ = some (.int .i64 wd)) (hc2 : w.cell? ⟨b, 2, none⟩ = some (.slice (some ⟨g, 0, none⟩) m m))
    (hx : w.cell? ⟨g, i * wd / 64, none⟩ = some (.int .u64 x)) (hy : w.cell? ⟨g, i * wd / 64 + 1, none⟩ = some (.int .u64 y))
    (hs : 64 < (i : Int) * (wd : Int) % 64 + (wd : Int)) :
    Calls Try.prog 70 #[.pointer (some ⟨b, 0, none⟩), .int .i64 i] w fun e w' => e = .returned (.int .u64 (((x / 2 ^ (i * wd % 64) ||| y * 2 ^ (64 - i * wd % 64) % 2 ^ 64) % 2 ^ wd : Nat) : Int)) ∧ ∃ k, w' = w.drewN k := by
  have HX := Lib.hid hxl; clear hxl
  have e0 : ((wd : Int) == 0) = false := by simp; omega
  have e1 : IntKind.i64.wrap ((i : Int) * (wd : Int)) = (i : Int) * (wd : Int) := IntWalk.i64_in _ (by omega)
  go_enter Try.func70, Try.ntmps70
  go_wp2
  go_quiet (fail)
  go_wp2
  go_ret
  exact ⟨congrArg (fun q => Ending.returned (.int .u64 q)) (get_val_two x y _ _ wd HX.out h64), nq, rfl⟩
set_option maxHeartbeats 400000 in
theorem pget_zero (w : World) (b : Nat) (i : Int) (hc1 : w.cell? ⟨b, 1, none⟩ = some (.int .i64 0)) :
    Calls Try.prog 70 #[.pointer (some ⟨b, 0, none⟩), .int .i64 i] w fun e w' => e = .returned (.int .u64 0) ∧ w' = w := by
  go_enter Try.func70, Try.ntmps70
  go_wp2
  go_ret
  exact ⟨rfl, rfl⟩
end Go.Proofs.Ytpnkjfjkeoleaaa

/-! packed: set. -/
set_option linter.unusedVariables false
namespace Go.Proofs.Ytpnkjfjkeoleaaa
open Go.RowKit HK

theorem set_val_one (x v s : Nat) (hx : x < 2 ^ 64) : bits .or .u64 (x : Int) (IntKind.u64.wrap ((v : Int) * 2 ^ s)) = ((x ||| v * 2 ^ s % 2 ^ 64 : Nat) : Int) := by
  have e : IntKind.u64.wrap ((v : Int) * 2 ^ s) = ((v * 2 ^ s % 2 ^ 64 : Nat) : Int) := by rw [IntKind.wrap_u64]; simp
  rw [e, u64_or_nat _ _ hx (Nat.mod_lt _ (by decide))]
theorem set_val_two (y v t : Nat) (hy : y < 2 ^ 64) (hv : v < 2 ^ 64) : bits .or .u64 (y : Int) ((v : Int) / 2 ^ t) = ((y ||| v / 2 ^ t : Nat) : Int) := by
  rw [div_pow_cast, u64_or_nat _ _ hy (Nat.lt_of_le_of_lt (Nat.div_le_self _ _) hv)]

set_option maxHeartbeats 400000 in
theorem pset_one (w : World) (b g n wd i m : Nat) (x v : Nat) (hxl : x < 2 ^ 64) (h1 : 1 ≤ wd) (h64 : wd ≤ 64) (hi : i ≤ 1048576)
    (p0 : 0 ≤ (i : Int) * (wd : Int)) (p1 : (i : Int) * (wd : Int) ≤ 67108864)
    (hm : (i : Int) * (wd : Int) / 64 < (m : Int)) (hm2 : m ≤ 1048577)
    (hc1 : w.cell? ⟨b, 1, none⟩ = some (.int .i64 wd)) (hc2 : w.cell? ⟨b, 2, none⟩ = some (.slice (some ⟨g, 0, none⟩) m m))
    (hx : w.cell? ⟨g, i * wd / 64, none⟩ = some (.int .u64 x)) (hf : w.frozen? ⟨g, i * wd / 64, none⟩ = false) (hbg : ¬ b = g)
    (hs : (i : Int) * (wd : Int) % 64 + (wd : Int) ≤ 64) :
    Calls Try.prog 76 #[.pointer (some ⟨b, 0, none⟩), .int .i64 i, .int .u64 v] w fun e w' => e = .returned (.tuple #[]) ∧
      ∃ k, w' = (w.setCell ⟨g, i * wd / 64, none⟩ (.int .u64 ((x ||| v * 2 ^ (i * wd % 64) % 2 ^ 64 : Nat) : Int))).drewN k := by
  have HV := Lib.hid (set_val_one x v (i * wd % 64) hxl); clear hxl
  have e0 : ((wd : Int) == 0) = false := by simp; omega
  have e1 : IntKind.i64.wrap ((i : Int) * (wd : Int)) = (i : Int) * (wd : Int) := IntWalk.i64_in _ (by omega)
  go_enter Try.func76, Try.ntmps76
  go_wp2
  go_quiet (fail)
  go_wp2
  go_end0
  rw [HV.out]
  exact ⟨rfl, nq, rfl⟩

set_option maxHeartbeats 400000 in
theorem pset_two (w : World) (b g n wd i m : Nat) (x y v : Nat) (hxl : x < 2 ^ 64) (hyl : y < 2 ^ 64) (hvl : v < 2 ^ 64) (h1 : 1 ≤ wd) (h64 : wd ≤ 64) (hi : i ≤ 1048576)
    (p0 : 0 ≤ (i : Int) * (wd : Int)) (p1 : (i : Int) * (wd : Int) ≤ 67108864)
    (hm : (i : Int) * (wd : Int) / 64 + 1 < (m : Int)) (hm2 : m ≤ 1048577)
    (hc1 : w.cell? ⟨b, 1, none⟩ = some (.int .i64 wd)) (hc2 : w.cell? ⟨b, 2, none⟩ = some (.slice (some ⟨g, 0, none⟩) m m))
    (hx : w.cell? ⟨g, i * wd / 64, none⟩ = some (.int .u64 x)) (hf : w.frozen? ⟨g, i * wd / 64, none⟩ = false) (hbg : ¬ b = g)
    (hy : w.cell? ⟨g, i * wd / 64 + 1, none⟩ = some (.int .u64 y)) (hf2 : w.frozen? ⟨g, i * wd / 64 + 1, none⟩ = false)
    (hs : 64 < (i : Int) * (wd : Int) % 64 + (wd : Int)) :
    Calls Try.prog 76 #[.pointer (some ⟨b, 0, none⟩), .int .i64 i, .int .u64 v] w fun e w' => e = .returned (.tuple #[]) ∧
      ∃ k, w' = ((w.setCell ⟨g, i * wd / 64, none⟩ (.int .u64 ((x ||| v * 2 ^ (i * wd % 64) % 2 ^ 64 : Nat) : Int))).setCell ⟨g, i * wd / 64 + 1, none⟩ (.int .u64 ((y ||| v / 2 ^ (64 - i * wd % 64) : Nat) : Int))).drewN k := by
  have HV := Lib.hid (set_val_one x v (i * wd % 64) hxl)
  have HV2 := Lib.hid (set_val_two y v (64 - i * wd % 64) hyl hvl)
  clear hxl hyl hvl
  have e0 : ((wd : Int) == 0) = false := by simp; omega
  have e1 : IntKind.i64.wrap ((i : Int) * (wd : Int)) = (i : Int) * (wd : Int) := IntWalk.i64_in _ (by omega)
  go_enter Try.func76, Try.ntmps76
  go_wp2
  go_quiet (fail)
  go_wp2
  go_end0
  rw [HV.out, HV2.out]
  exact ⟨rfl, nq, rfl⟩
set_option maxHeartbeats 400000 in
theorem pset_zero (w : World) (b : Nat) (i v : Int) (hc1 : w.cell? ⟨b, 1, none⟩ = some (.int .i64 0)) :
    Calls Try.prog 76 #[.pointer (some ⟨b, 0, none⟩), .int .i64 i, .int .u64 v] w fun e w' => e = .returned (.tuple #[]) ∧ w' = w := by
  go_enter Try.func76, Try.ntmps76
  go_wp2
  refine bodyPost_ret (results_none rfl _ _ _) rfl ?_
  exact ⟨rfl, rfl⟩

/-- The words of a number, as cells. -/
def wordsA (N m : Nat) : Array Value := ((List.range m).map fun k => Value.int .u64 (word N k)).toArray
theorem wordsA_size (N m : Nat) : (wordsA N m).size = m := by simp [wordsA]
theorem wordsA_at (N m k : Nat) (h : k < m) : (wordsA N m)[k]? = some (.int .u64 (word N k)) := by simp [wordsA, h]
theorem wordsA_ext (a : Array Value) (N m : Nat) (hs : a.size = m) (h : ∀ k, k < m → a[k]? = some (.int .u64 (word N k))) : a = wordsA N m := by
  apply Array.ext_getElem?
  intro k
  by_cases hk : k < m
  · rw [h k hk, wordsA_at N m k hk]
  · rw [Array.getElem?_eq_none (by omega), Array.getElem?_eq_none (by rw [wordsA_size]; omega)]
theorem wordsA_zero (m : Nat) : wordsA 0 m = (List.replicate m (Value.int .u64 0)).toArray := by
  symm
  apply wordsA_ext
  · simp
  · intro k hk
    simp [hk, word]
/-- The struct and its words lie in blocks b and g. -/
def PR (w : World) (b g n wd N : Nat) : Prop :=
  Row w b 108 #[.int .i64 n, .int .i64 wd, .slice (some ⟨g, 0, none⟩) ((n * wd + 63) / 64) ((n * wd + 63) / 64)] ∧ Row w g 87 (wordsA N ((n * wd + 63) / 64))
theorem PR.bg {w : World} {b g n wd N : Nat} (h : PR w b g n wd N) : ¬ b = g := h.1.apart h.2 (by decide)

theorem prods (i n wd : Nat) (hi : i < n) (hn : n ≤ 1048576) (hw : wd ≤ 64) : i * wd + wd ≤ n * wd ∧ n * wd ≤ 67108864 := by
  have h1 : (i + 1) * wd ≤ n * wd := Nat.mul_le_mul_right _ hi
  have h2 : n * wd ≤ 1048576 * 64 := Nat.mul_le_mul hn hw
  rw [Nat.add_mul] at h1
  omega
theorem cast_prod (i wd : Nat) : (i : Int) * (wd : Int) = ((i * wd : Nat) : Int) := by simp

theorem pset_any (w : World) (b g n wd i N v : Nat) (hn : n ≤ 1048576) (h64 : wd ≤ 64) (hi : i < n) (hN : N < 2 ^ (i * wd)) (hv : v < 2 ^ wd) (h : PR w b g n wd N) :
    Calls Try.prog 76 #[.pointer (some ⟨b, 0, none⟩), .int .i64 i, .int .u64 v] w fun e w' => e = .returned (.tuple #[]) ∧ PR w' b g n wd (N + 2 ^ (i * wd) * v) ∧ w.grownBy w' (some g) := by
  have hc1 : w.cell? ⟨b, 1, none⟩ = some (.int .i64 wd) := h.1.cell 1
  have hc2 : w.cell? ⟨b, 2, none⟩ = some (.slice (some ⟨g, 0, none⟩) ((n * wd + 63) / 64) ((n * wd + 63) / 64)) := h.1.cell 2
  have hp := prods i n wd hi hn h64
  have hcp := cast_prod i wd
  by_cases hz : wd = 0
  · subst hz
    have : v = 0 := by simpa using hv
    subst this
    refine (pset_zero w b i 0 hc1).mono ?_
    rintro e w' ⟨rfl, rfl⟩
    exact ⟨rfl, by simpa using h, World.grownBy.refl _ _⟩
  · have hat : i * wd / 64 < (n * wd + 63) / 64 := by omega
    have hx := (h.2.cell (i * wd / 64)).trans (wordsA_at N _ _ hat)
    have hv64 : v < 2 ^ 64 := Nat.lt_of_lt_of_le hv (Nat.pow_le_pow_right (by decide) h64)
    by_cases hs : i * wd % 64 + wd ≤ 64
    · refine (pset_one w b g n wd i _ _ v (word_lt _ _) (by omega) h64 (by omega) (by omega) (by omega) (by omega) (by omega) hc1 hc2 hx (h.2.frozen _) h.bg (by omega)).mono ?_
      rintro e w' ⟨rfl, k, rfl⟩
      refine ⟨rfl, ⟨h.1.far h.bg _, ?_⟩, ?_⟩
      · have hr := h.2.put (i * wd / 64) (.int .u64 ((word N (i * wd / 64) ||| v * 2 ^ (i * wd % 64) % 2 ^ 64 : Nat) : Int))
        rw [wordsA_ext ((wordsA N _).setIfInBounds _ _) (N + 2 ^ (i * wd) * v) ((n * wd + 63) / 64) (by simp [wordsA_size]) ?_] at hr
        · exact hr
        · intro k hk
          rw [Array.getElem?_setIfInBounds]
          by_cases hkk : i * wd / 64 = k
          · subst hkk; simp [wordsA_size, hk, word_set_at N v (i * wd) hN]
          · rw [if_neg hkk, wordsA_at N _ _ hk, word_set_other N v (i * wd) wd k hN hv h64 (fun e => hkk e.symm) (fun _ => hs)]
      · exact ⟨rfl, rfl, rfl, by simp [World.setCell], fun j hj hne => Below.heap_setCell w _ _ j (fun e => hne (by rw [e]))⟩
    · have hat2 : i * wd / 64 + 1 < (n * wd + 63) / 64 := by omega
      have hy := (h.2.cell (i * wd / 64 + 1)).trans (wordsA_at N _ _ hat2)
      refine (pset_two w b g n wd i _ _ _ v (word_lt _ _) (word_lt _ _) hv64 (by omega) h64 (by omega) (by omega) (by omega) (by omega) (by omega) hc1 hc2 hx (h.2.frozen _) h.bg hy (h.2.frozen _) (by omega)).mono ?_
      rintro e w' ⟨rfl, k, rfl⟩
      refine ⟨rfl, ⟨(h.1.far h.bg _).far h.bg _, ?_⟩, ?_⟩
      · have hr := (h.2.put (i * wd / 64) (.int .u64 ((word N (i * wd / 64) ||| v * 2 ^ (i * wd % 64) % 2 ^ 64 : Nat) : Int))).put (i * wd / 64 + 1) (.int .u64 ((word N (i * wd / 64 + 1) ||| v / 2 ^ (64 - i * wd % 64) : Nat) : Int))
        rw [wordsA_ext (((wordsA N _).setIfInBounds _ _).setIfInBounds _ _) (N + 2 ^ (i * wd) * v) ((n * wd + 63) / 64) (by simp [wordsA_size]) ?_] at hr
        · exact hr
        · intro k hk
          have hd : v / 2 ^ (64 - i * wd % 64) % 2 ^ 64 = v / 2 ^ (64 - i * wd % 64) := Nat.mod_eq_of_lt (Nat.lt_of_le_of_lt (Nat.div_le_self _ _) hv64)
          rw [Array.getElem?_setIfInBounds, Array.getElem?_setIfInBounds]
          by_cases hk1 : i * wd / 64 + 1 = k
          · subst hk1; simp only [wordsA_size, Array.size_setIfInBounds, hk, if_true, word_set_next N v (i * wd) hN, hd]
          · rw [if_neg hk1]
            by_cases hkk : i * wd / 64 = k
            · subst hkk; simp only [wordsA_size, hk, if_true, word_set_at N v (i * wd) hN]
            · rw [if_neg hkk, wordsA_at N _ _ hk, word_set_other N v (i * wd) wd k hN hv h64 (fun e => hkk e.symm) (fun e => absurd e.symm hk1)]
      · exact ⟨rfl, rfl, rfl, by simp [World.setCell], fun j hj hne => (Below.heap_setCell _ _ _ j (fun e => hne (by rw [e]))).trans (Below.heap_setCell w _ _ j (fun e => hne (by rw [e])))⟩

theorem pget_any (w : World) (b g n wd i N : Nat) (hn : n ≤ 1048576) (h64 : wd ≤ 64) (hi : i < n) (h : PR w b g n wd N) :
    Calls Try.prog 70 #[.pointer (some ⟨b, 0, none⟩), .int .i64 i] w fun e w' => e = .returned (.int .u64 ((N / 2 ^ (i * wd) % 2 ^ wd : Nat) : Int)) ∧ ∃ k, w' = w.drewN k := by
  have hc1 : w.cell? ⟨b, 1, none⟩ = some (.int .i64 wd) := h.1.cell 1
  have hc2 : w.cell? ⟨b, 2, none⟩ = some (.slice (some ⟨g, 0, none⟩) ((n * wd + 63) / 64) ((n * wd + 63) / 64)) := h.1.cell 2
  have hp := prods i n wd hi hn h64
  have hcp := cast_prod i wd
  by_cases hz : wd = 0
  · subst hz
    refine (pget_zero w b i hc1).mono ?_
    rintro e w' ⟨rfl, rfl⟩
    exact ⟨by simp [Nat.mod_one], 0, rfl⟩
  · have hat : i * wd / 64 < (n * wd + 63) / 64 := by omega
    have hx := (h.2.cell (i * wd / 64)).trans (wordsA_at N _ _ hat)
    by_cases hs : i * wd % 64 + wd ≤ 64
    · refine (pget_one w b g n wd i _ _ (word_lt _ _) (by omega) h64 (by omega) (by omega) (by omega) (by omega) (by omega) hc1 hc2 hx (by omega)).mono ?_
      rintro e w' ⟨rfl, k, rfl⟩
      rw [word_get_one N (i * wd) wd hs]
      exact ⟨rfl, k, rfl⟩
    · have hat2 : i * wd / 64 + 1 < (n * wd + 63) / 64 := by omega
      have hy := (h.2.cell (i * wd / 64 + 1)).trans (wordsA_at N _ _ hat2)
      refine (pget_two w b g n wd i _ _ _ (word_lt _ _) (by omega) h64 (by omega) (by omega) (by omega) (by omega) (by omega) hc1 hc2 hx hy (by omega)).mono ?_
      rintro e w' ⟨rfl, k, rfl⟩
      rw [word_get_two N (i * wd) wd h64]
      exact ⟨rfl, k, rfl⟩
end Go.Proofs.Ytpnkjfjkeoleaaa

/-! math/bits.Len64; packed: Len, Width. -/
set_option linter.unusedVariables false
namespace Go.Proofs.Ytpnkjfjkeoleaaa
open Go.RowKit HK

theorem blen_half (x : Nat) (h : x ≠ 0) : blen x = 1 + blen (x / 2) := by
  have key : ∀ w, blen x ≤ w + 1 ↔ blen (x / 2) ≤ w := by
    intro w
    rw [blen_le_iff, blen_le_iff, Nat.pow_succ, Nat.div_lt_iff_lt_mul (by decide)]
  have h1 := (key (blen (x / 2))).2 (Nat.le_refl _)
  have h2 : 1 ≤ blen x := by
    have := (blen_le_iff x 0)
    simp only [Nat.le_zero, Nat.pow_zero] at this
    omega
  have h3 := (key (blen x - 1)).1 (by omega)
  omega
theorem bitLenAux_eq : ∀ f x : Nat, x < 2 ^ f → Lib.bitLenAux f x = blen x
  | 0, x, h => by
    have : x = 0 := by simpa using h
    subst this; rfl
  | f + 1, x, h => by
    unfold Lib.bitLenAux
    by_cases hx : x = 0
    · subst hx; rfl
    · rw [if_neg hx, bitLenAux_eq f (x / 2) (by rw [Nat.div_lt_iff_lt_mul (by decide), ← Nat.pow_succ]; exact h), blen_half x hx]
theorem bitLen_eq (x : Nat) (h : x < 2 ^ 64) : Lib.bitLen x = blen x := bitLenAux_eq 64 x h

theorem blen_div (x k : Nat) (h : 2 ^ k ≤ x) : blen x = k + blen (x / 2 ^ k) := by
  have key : ∀ w, blen x ≤ k + w ↔ blen (x / 2 ^ k) ≤ w := by
    intro w
    rw [blen_le_iff, blen_le_iff, Nat.div_lt_iff_lt_mul (Nat.two_pow_pos k), ← Nat.pow_add, Nat.add_comm]
  have h1 := (key (blen (x / 2 ^ k))).2 (Nat.le_refl _)
  have h2 : ¬ blen x ≤ k := by rw [blen_le_iff]; omega
  have h3 := (key (blen x - k)).1 (by omega)
  omega
theorem tab_at (y : Int) (hb : y.toNat < Lib.len8tab.size) : wrap64 ((Lib.len8tab[y.toNat]'hb).toNat : Int) = (blen y.toNat : Int) := by
  have hs := Lib.len8tab_size
  have h8 : blen y.toNat ≤ 8 := by rw [blen_le_iff]; omega
  have h := Lib.len8_of (y.toNat : Int) (by omega) (by omega)
  unfold Lib.len8 at h
  rw [Int.toNat_natCast, getElem?_pos Lib.len8tab y.toNat hb, Option.getD_some, bitLen_eq _ (by omega)] at h
  rw [h, IntWalk.wrap64_in _ ⟨by omega, by omega⟩]
theorem len_close (x : Int) (k q : Nat) (y : Int) (h0 : 0 ≤ x) (hk : k ≤ 64) (hq : q = 2 ^ k) (hx : (q : Int) ≤ x) (hy : y = x / (q : Int)) (hy8 : y < 256) : wrap64 ((k : Int) + (blen y.toNat : Int)) = (blen x.toNat : Int) := by
  have h8 : blen y.toNat ≤ 8 := by rw [blen_le_iff]; omega
  have e : y.toNat = x.toNat / q := by
    rw [hy]
    obtain ⟨X, rfl⟩ := Int.eq_ofNat_of_zero_le h0
    rw [← Int.natCast_ediv, Int.toNat_natCast, Int.toNat_natCast]
  rw [blen_div x.toNat k (by omega), ← hq, ← e, IntWalk.wrap64_in _ ⟨by omega, by omega⟩]
  omega
set_option maxHeartbeats 4000000 in
set_option maxRecDepth 100000 in
theorem len64_int (x : Int) (w : World) (h0 : 0 ≤ x) (h1 : x ≤ 18446744073709551615) :
    Calls Try.prog 75 #[.int .u64 x] w fun e w' => e = .returned (.int .i64 (blen x.toNat)) ∧ w' = w := by
  have hsz : (Lib.len8tab.size : Int) = 256 := by decide
  go_enter Try.func75, Try.ntmps75
  go_wp2
  all_goals (go_ret; refine ⟨congrArg Ending.returned (congrArg (Value.int IntKind.i64) ?_), rfl⟩; rw [tab_at])
  · exact len_close x 56 72057594037927936 _ h0 (by decide) (by decide) (by omega) (by omega) (by omega)
  · exact len_close x 48 281474976710656 _ h0 (by decide) (by decide) (by omega) (by omega) (by omega)
  · exact len_close x 40 1099511627776 _ h0 (by decide) (by decide) (by omega) (by omega) (by omega)
  · exact len_close x 32 4294967296 _ h0 (by decide) (by decide) (by omega) (by omega) (by omega)
  · exact len_close x 24 16777216 _ h0 (by decide) (by decide) (by omega) (by omega) (by omega)
  · exact len_close x 16 65536 _ h0 (by decide) (by decide) (by omega) (by omega) (by omega)
  · exact len_close x 8 256 _ h0 (by decide) (by decide) (by omega) (by omega) (by omega)
  · have h8 : blen x.toNat ≤ 8 := by rw [blen_le_iff]; omega
    exact IntWalk.wrap64_in _ ⟨by omega, by omega⟩
theorem len64_any (x : Nat) (w : World) (h : x < 2 ^ 64) :
    Calls Try.prog 75 #[.int .u64 (x : Int)] w fun e w' => e = .returned (.int .i64 (blen x)) ∧ w = w' := by
  refine (len64_int x w (by omega) (by omega)).mono ?_
  rintro e w' ⟨rfl, hw⟩
  rw [Int.toNat_natCast]
  exact ⟨rfl, hw.symm⟩

theorem plen_any (b : Nat) (n : Int) (w : World) (hc : w.cell? ⟨b, 0, none⟩ = some (.int .i64 n)) :
    Calls Try.prog 72 #[.pointer (some ⟨b, 0, none⟩)] w fun e w' => e = .returned (.int .i64 n) ∧ w = w' := by
  go_enter Try.func72, Try.ntmps72
  go_wp2
  go_ret
  exact ⟨rfl, rfl⟩
theorem plen_nil (w : World) : Calls Try.prog 72 #[.pointer none] w fun e w' => e = .returned (.int .i64 0) ∧ w = w' := by
  go_enter Try.func72, Try.ntmps72
  go_wp2
  go_ret
  exact ⟨rfl, rfl⟩
theorem pget2_out (b : Nat) (n i : Int) (w : World) (hc : w.cell? ⟨b, 0, none⟩ = some (.int .i64 n)) (ho : i < 0 ∨ n ≤ i) :
    Calls Try.prog 73 #[.pointer (some ⟨b, 0, none⟩), .int .i64 i] w fun e w' => e = .returned (.tuple #[.int .u64 0, .bool false]) ∧ w = w' := by
  by_cases h0 : i < 0
  · go_enter Try.func73, Try.ntmps73
    go_wp2
    go_ret2
    exact ⟨rfl, rfl⟩
  · have h1 : n ≤ i := by omega
    have h0' : decide (i < 0) = false := by simpa using h0
    go_enter Try.func73, Try.ntmps73
    go_wp2_with (go_at_call 72; refine (plen_any _ _ _ hc).mono ?_; rintro e w' ⟨rfl, rfl⟩)
    go_ret2
    exact ⟨rfl, rfl⟩
theorem pget2_nil (i : Int) (w : World) :
    Calls Try.prog 73 #[.pointer none, .int .i64 i] w fun e w' => e = .returned (.tuple #[.int .u64 0, .bool false]) ∧ w = w' := by
  by_cases h0 : i < 0
  · go_enter Try.func73, Try.ntmps73
    go_wp2
    go_ret2
    exact ⟨rfl, rfl⟩
  · have h1 : 0 ≤ i := by omega
    have h0' : decide (i < 0) = false := by simpa using h0
    go_enter Try.func73, Try.ntmps73
    go_wp2_with (go_at_call 72; refine (plen_nil _).mono ?_; rintro e w' ⟨rfl, rfl⟩)
    go_ret2
    exact ⟨rfl, rfl⟩
theorem pget2_in (b g n wd i N : Nat) (w : World) (hn : n ≤ 1048576) (h64 : wd ≤ 64) (hi : i < n) (h : PR w b g n wd N) :
    Calls Try.prog 73 #[.pointer (some ⟨b, 0, none⟩), .int .i64 i] w fun e w' => e = .returned (.tuple #[.int .u64 ((N / 2 ^ (i * wd) % 2 ^ wd : Nat) : Int), .bool true]) ∧ ∃ k, w' = w.drewN k := by
  have hc : w.cell? ⟨b, 0, none⟩ = some (.int .i64 n) := h.1.cell 0
  have hg := pget_any w b g n wd i N hn h64 hi h
  have HG := Lib.hid hg; clear hg
  have H := Lib.hid h; clear h
  have h0 : decide ((i : Int) < 0) = false := by simp
  go_enter Try.func73, Try.ntmps73
  go_wp2_with (first | (go_at_call 72; refine (plen_any _ _ _ hc).mono ?_; rintro e w' ⟨rfl, rfl⟩) | (go_at_call 70; refine HG.out.mono ?_; rintro e w' ⟨rfl, hk⟩))
  go_ret2
  exact ⟨rfl, hk⟩
end Go.Proofs.Ytpnkjfjkeoleaaa

/-! packed: New. -/
set_option linter.unusedVariables false
namespace Go.Proofs.Ytpnkjfjkeoleaaa
open Go.RowKit HK

def u64v (v : Nat) : Value := .int .u64 (v : Int)
theorem infoU64 : (Try.prog.info? 87).map (fun i => (i.zero, i.size, i.bytes)) = some (some (.int .u64 0), 1, 8) := by kernel_rfl

theorem made_words (m : Nat) : madeCells #[Value.int .u64 0] m = wordsA 0 m := by
  apply wordsA_ext
  · exact size_madeCells _ _
  · intro k hk
    simp [madeCells, hk, Nat.mod_one, word]
theorem take_snoc_n (l : List Nat) (k : Nat) (v : Nat) (h : l[k]? = some v) : l.take (k + 1) = l.take k ++ [v] := by
  rw [List.take_add_one, h]; rfl
theorem at_u64 {l : List Nat} {k : Nat} {u : Value} (h : (l.map u64v)[k]? = some u) : ∃ v, l[k]? = some v ∧ u = .int .u64 (v : Int) := by
  rw [List.getElem?_map] at h
  obtain ⟨v, hv, rfl⟩ := Option.map_eq_some_iff.1 h
  exact ⟨v, hv, rfl⟩

set_option maxHeartbeats 1000000 in
theorem pnew_walk (w : World) (A : Option Addr) (n c : Nat) (l : List Nat) (hn : n ≤ 1048576) (hl : ∀ v ∈ l, v < 2 ^ 64) (hs : Sl w w.heap.size A n (l.map u64v)) :
    Calls Try.prog 52 #[.slice A n c] w fun e w' => ∃ b g, e = .returned (.tuple #[.pointer (some ⟨b, 0, none⟩), .int .i64 0]) ∧ PR w' b g n (widthL l) (packN (widthL l) l) ∧ w.heap.size ≤ b ∧ w.heap.size ≤ g ∧ Below w.heap.size w w' := by
  have hlen : Hid (l.length = n) := Lib.hid (by have := hs.1; simpa using this)
  have hnb : decide ((1048576 : Int) < (n : Int)) = false := by simp; omega
  have HL := Lib.hid hl; clear hl
  have HS := Lib.hid hs; clear hs
  go_enter Try.func52, Try.ntmps52
  go_wp2
  go_loop [4, 15] (fun a i => ∃ k : Nat, k ≤ n ∧ i = .int .i64 k ∧ a = .int .u64 (orL (l.take k) : Nat)) (fun _ i => n - (intOf i).toNat)
  case atStart => exact ⟨0, Nat.zero_le _, rfl, rfl⟩
  case round =>
    obtain ⟨k, hk, rfl, rfl⟩ := hrel
    by_cases hlt : k < n
    · obtain ⟨b, off, u, rfl, hb, hu, hc⟩ := HS.out.at_ hlt
      obtain ⟨v, hv, rfl⟩ := at_u64 hu
      have HU := Lib.hid hu; clear hu
      have HVV := Lib.hid hv; clear hv
      go_wp2
      go_round
      case rel =>
        refine ⟨k + 1, by omega, by go_num, ?_⟩
        have h1 : orL (l.take k) < 2 ^ 64 := by
          rw [← blen_le_iff, blen_orL, widthL_le_iff]
          exact fun v hv => HL.out v (List.mem_of_mem_take hv)
        have h2 : v < 2 ^ 64 := HL.out v (List.mem_of_getElem? HVV.out)
        rw [u64_or_nat _ _ h1 h2, take_snoc_n l k v HVV.out, orL_snoc]
      case measure => simp [intOf]; omega
    · obtain rfl : n = k := by omega
      have hor : Hid (orL (l.take n) < 2 ^ 64) := Lib.hid (by
        rw [← blen_le_iff, blen_orL, widthL_le_iff]
        exact fun v hv => HL.out v (List.mem_of_mem_take hv))
      go_wp2_with fail
      refine (len64_any _ _ hor.out).mono ?_
      rintro e w' ⟨rfl, rfl⟩
      obtain ⟨wd, hwd⟩ : ∃ wd, blen (orL (l.take n)) = wd := ⟨_, rfl⟩
      rw [hwd]
      have hwd' : Hid (wd = widthL l) := Lib.hid (by rw [← hwd, blen_orL, List.take_of_length_le (by rw [hlen.out]; exact Nat.le_refl _)])
      clear hwd
      have hw64 : wd ≤ 64 := by rw [hwd'.out]; exact widthL_le_64 l HL.out
      have hp : n * wd ≤ 67108864 := by
        have := Nat.mul_le_mul hn hw64
        omega
      have hpi : (n : Int) * (wd : Int) ≤ 67108864 := by rw [cast_prod]; omega
      have hpi0 : 0 ≤ (n : Int) * (wd : Int) := by rw [cast_prod]; omega
      have hmk := run_make_row' (P := Try.prog) 80 87 (.int .u64 0) 8 Try.underlying80 infoU64 rfl .i64 .i64 ((n * wd + 63) / 64) (by omega) (by omega)
      have ec : (((n * wd + 63) / 64 : Nat) : Int) = ((n : Int) * (wd : Int) + 63) / 64 := by rw [cast_prod]; omega
      rw [ec, made_words] at hmk
      clear ec
      go_wp2
      go_region
      go_wp2
      clear hmk
      go_loopw [46] (fun i wr => ∃ k : Nat, k ≤ n ∧ i = .int .i64 k ∧ PR wr w.heap.size (w.heap.size + 1) n wd (packN wd (l.take k)) ∧ Below w.heap.size w wr) (fun i _ => n - (intOf i).toNat)
      case atStart =>
        refine ⟨0, Nat.zero_le _, rfl, ⟨(Row.alloc (Row.new w _ _) _).drew, ?_⟩, (((Below.refl _ _).alloc (Nat.le_refl _) _).alloc (by simp) _).drew⟩
        exact (Row.new2 w _ _ _).drew
      case round =>
        obtain ⟨k, hk, rfl, hpr, hB⟩ := hrel
        have HPR := Lib.hid hpr; clear hpr
        by_cases hlt : k < n
        · obtain ⟨b, off, u, rfl, hb, hu, hc⟩ := (HS.out.below hB).at_ hlt
          obtain ⟨v, hv, rfl⟩ := at_u64 hu
          have HU := Lib.hid hu; clear hu
          have HVV := Lib.hid hv; clear hv
          have hcall := pset_any wr w.heap.size (w.heap.size + 1) n wd k (packN wd (l.take k)) v hn hw64 hlt (by
            have h1 := packN_lt wd (l.take k) (fun x hx => by rw [hwd'.out]; exact lt_widthL l x (List.mem_of_mem_take hx))
            rw [List.length_take, hlen.out, Nat.min_eq_left (by omega), Nat.mul_comm] at h1
            exact h1) (by rw [hwd'.out]; exact lt_widthL l v (List.mem_of_getElem? HVV.out)) HPR.out
          have HC := Lib.hid hcall; clear hcall
          go_wp2_with (go_at_call 76; refine HC.out.mono ?_; rintro e w' ⟨rfl, hpr', hgr'⟩)
          go_roundw
          case rel =>
            refine ⟨k + 1, by omega, by go_num, ?_, hB.grown hgr' hB.size (fun q e => by cases e; omega)⟩
            rw [take_snoc_n l k v HVV.out, packN_append, List.length_take, hlen.out, Nat.min_eq_left (by omega), Nat.mul_comm wd k]
            exact hpr'
          case measure => simp [intOf]; omega
        · obtain rfl : n = k := by omega
          go_wp2
          go_ret2
          refine ⟨w.heap.size, w.heap.size + 1, rfl, ?_, Nat.le_refl _, by omega, hB⟩
          have := HPR.out
          rw [List.take_of_length_le (by rw [hlen.out]; exact Nat.le_refl _), hwd'.out] at this
          exact this
end Go.Proofs.Ytpnkjfjkeoleaaa
