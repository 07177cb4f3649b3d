/- packed: set. -/
import Derived.Test.YtjjhllbbkflnnaaPkGet
set_option linter.unusedVariables false
namespace Go.Proofs.Ytjjhllbbkflnnaa
open Go.RowKit HK

theorem set_val_one (x v s : Nat) (hx : x < 2 ^ 64) : bits .or .u64 (x : Int) (IntKind.u64.wrap ((v : Int) * 2 ^ s)) = ((x ||| v * 2 ^ s % 2 ^ 64 : Nat) : Int) := by
  have e : IntKind.u64.wrap ((v : Int) * 2 ^ s) = ((v * 2 ^ s % 2 ^ 64 : Nat) : Int) := by rw [IntKind.wrap_u64]; simp
  rw [e, u64_or_nat _ _ hx (Nat.mod_lt _ (by decide))]
theorem set_val_two (y v t : Nat) (hy : y < 2 ^ 64) (hv : v < 2 ^ 64) : bits .or .u64 (y : Int) ((v : Int) / 2 ^ t) = ((y ||| v / 2 ^ t : Nat) : Int) := by
  rw [div_pow_cast, u64_or_nat _ _ hy (Nat.lt_of_le_of_lt (Nat.div_le_self _ _) hv)]

set_option maxHeartbeats 400000 in
theorem pset_one (w : World) (b g n wd i m : Nat) (x v : Nat) (hxl : x < 2 ^ 64) (h1 : 1 ≤ wd) (h64 : wd ≤ 64) (hi : i ≤ 1048576)
    (p0 : 0 ≤ (i : Int) * (wd : Int)) (p1 : (i : Int) * (wd : Int) ≤ 67108864)
    (hm : (i : Int) * (wd : Int) / 64 < (m : Int)) (hm2 : m ≤ 1048577)
    (hc1 : w.cell? ⟨b, 1, none⟩ = some (.int .i64 wd)) (hc2 : w.cell? ⟨b, 2, none⟩ = some (.slice (some ⟨g, 0, none⟩) m m))
    (hx : w.cell? ⟨g, i * wd / 64, none⟩ = some (.int .u64 x)) (hf : w.frozen? ⟨g, i * wd / 64, none⟩ = false) (hbg : ¬ b = g)
    (hs : (i : Int) * (wd : Int) % 64 + (wd : Int) ≤ 64) :
    Calls Try.prog 26 #[.pointer (some ⟨b, 0, none⟩), .int .i64 i, .int .u64 v] w fun e w' => e = .returned (.tuple #[]) ∧
      ∃ k, w' = (w.setCell ⟨g, i * wd / 64, none⟩ (.int .u64 ((x ||| v * 2 ^ (i * wd % 64) % 2 ^ 64 : Nat) : Int))).drewN k := by
  have HV := Lib.hid (set_val_one x v (i * wd % 64) hxl); clear hxl
  have e0 : ((wd : Int) == 0) = false := by simp; omega
  have e1 : IntKind.i64.wrap ((i : Int) * (wd : Int)) = (i : Int) * (wd : Int) := IntWalk.i64_in _ (by omega)
  go_enter Try.func26, Try.ntmps26
  go_wp2
  go_quiet (fail)
  go_wp2
  go_end0
  rw [HV.out]
  exact ⟨rfl, nq, rfl⟩

set_option maxHeartbeats 400000 in
theorem pset_two (w : World) (b g n wd i m : Nat) (x y v : Nat) (hxl : x < 2 ^ 64) (hyl : y < 2 ^ 64) (hvl : v < 2 ^ 64) (h1 : 1 ≤ wd) (h64 : wd ≤ 64) (hi : i ≤ 1048576)
    (p0 : 0 ≤ (i : Int) * (wd : Int)) (p1 : (i : Int) * (wd : Int) ≤ 67108864)
    (hm : (i : Int) * (wd : Int) / 64 + 1 < (m : Int)) (hm2 : m ≤ 1048577)
    (hc1 : w.cell? ⟨b, 1, none⟩ = some (.int .i64 wd)) (hc2 : w.cell? ⟨b, 2, none⟩ = some (.slice (some ⟨g, 0, none⟩) m m))
    (hx : w.cell? ⟨g, i * wd / 64, none⟩ = some (.int .u64 x)) (hf : w.frozen? ⟨g, i * wd / 64, none⟩ = false) (hbg : ¬ b = g)
    (hy : w.cell? ⟨g, i * wd / 64 + 1, none⟩ = some (.int .u64 y)) (hf2 : w.frozen? ⟨g, i * wd / 64 + 1, none⟩ = false)
    (hs : 64 < (i : Int) * (wd : Int) % 64 + (wd : Int)) :
    Calls Try.prog 26 #[.pointer (some ⟨b, 0, none⟩), .int .i64 i, .int .u64 v] w fun e w' => e = .returned (.tuple #[]) ∧
      ∃ k, w' = ((w.setCell ⟨g, i * wd / 64, none⟩ (.int .u64 ((x ||| v * 2 ^ (i * wd % 64) % 2 ^ 64 : Nat) : Int))).setCell ⟨g, i * wd / 64 + 1, none⟩ (.int .u64 ((y ||| v / 2 ^ (64 - i * wd % 64) : Nat) : Int))).drewN k := by
  have HV := Lib.hid (set_val_one x v (i * wd % 64) hxl)
  have HV2 := Lib.hid (set_val_two y v (64 - i * wd % 64) hyl hvl)
  clear hxl hyl hvl
  have e0 : ((wd : Int) == 0) = false := by simp; omega
  have e1 : IntKind.i64.wrap ((i : Int) * (wd : Int)) = (i : Int) * (wd : Int) := IntWalk.i64_in _ (by omega)
  go_enter Try.func26, Try.ntmps26
  go_wp2
  go_quiet (fail)
  go_wp2
  go_end0
  rw [HV.out, HV2.out]
  exact ⟨rfl, nq, rfl⟩
set_option maxHeartbeats 400000 in
theorem pset_zero (w : World) (b : Nat) (i v : Int) (hc1 : w.cell? ⟨b, 1, none⟩ = some (.int .i64 0)) :
    Calls Try.prog 26 #[.pointer (some ⟨b, 0, none⟩), .int .i64 i, .int .u64 v] w fun e w' => e = .returned (.tuple #[]) ∧ w' = w := by
  go_enter Try.func26, Try.ntmps26
  go_wp2
  refine bodyPost_ret (results_none rfl _ _ _) rfl ?_
  exact ⟨rfl, rfl⟩

/-- The words of a number, as cells. -/
def wordsA (N m : Nat) : Array Value := ((List.range m).map fun k => Value.int .u64 (word N k)).toArray
theorem wordsA_size (N m : Nat) : (wordsA N m).size = m := by simp [wordsA]
theorem wordsA_at (N m k : Nat) (h : k < m) : (wordsA N m)[k]? = some (.int .u64 (word N k)) := by simp [wordsA, h]
theorem wordsA_ext (a : Array Value) (N m : Nat) (hs : a.size = m) (h : ∀ k, k < m → a[k]? = some (.int .u64 (word N k))) : a = wordsA N m := by
  apply Array.ext_getElem?
  intro k
  by_cases hk : k < m
  · rw [h k hk, wordsA_at N m k hk]
  · rw [Array.getElem?_eq_none (by omega), Array.getElem?_eq_none (by rw [wordsA_size]; omega)]
theorem wordsA_zero (m : Nat) : wordsA 0 m = (List.replicate m (Value.int .u64 0)).toArray := by
  symm
  apply wordsA_ext
  · simp
  · intro k hk
    simp [hk, word]
/-- The struct and its words lie in blocks b and g. -/
def PR (w : World) (b g n wd N : Nat) : Prop :=
  Row w b 52 #[.int .i64 n, .int .i64 wd, .slice (some ⟨g, 0, none⟩) ((n * wd + 63) / 64) ((n * wd + 63) / 64)] ∧ Row w g 27 (wordsA N ((n * wd + 63) / 64))
theorem PR.bg {w : World} {b g n wd N : Nat} (h : PR w b g n wd N) : ¬ b = g := h.1.apart h.2 (by decide)

theorem prods (i n wd : Nat) (hi : i < n) (hn : n ≤ 1048576) (hw : wd ≤ 64) : i * wd + wd ≤ n * wd ∧ n * wd ≤ 67108864 := by
  have h1 : (i + 1) * wd ≤ n * wd := Nat.mul_le_mul_right _ hi
  have h2 : n * wd ≤ 1048576 * 64 := Nat.mul_le_mul hn hw
  rw [Nat.add_mul] at h1
  omega
theorem cast_prod (i wd : Nat) : (i : Int) * (wd : Int) = ((i * wd : Nat) : Int) := by simp

theorem pset_any (w : World) (b g n wd i N v : Nat) (hn : n ≤ 1048576) (h64 : wd ≤ 64) (hi : i < n) (hN : N < 2 ^ (i * wd)) (hv : v < 2 ^ wd) (h : PR w b g n wd N) :
    Calls Try.prog 26 #[.pointer (some ⟨b, 0, none⟩), .int .i64 i, .int .u64 v] w fun e w' => e = .returned (.tuple #[]) ∧ PR w' b g n wd (N + 2 ^ (i * wd) * v) ∧ w.grownBy w' (some g) := by
  have hc1 : w.cell? ⟨b, 1, none⟩ = some (.int .i64 wd) := h.1.cell 1
  have hc2 : w.cell? ⟨b, 2, none⟩ = some (.slice (some ⟨g, 0, none⟩) ((n * wd + 63) / 64) ((n * wd + 63) / 64)) := h.1.cell 2
  have hp := prods i n wd hi hn h64
  have hcp := cast_prod i wd
  by_cases hz : wd = 0
  · subst hz
    have : v = 0 := by simpa using hv
    subst this
    refine (pset_zero w b i 0 hc1).mono ?_
    rintro e w' ⟨rfl, rfl⟩
    exact ⟨rfl, by simpa using h, World.grownBy.refl _ _⟩
  · have hat : i * wd / 64 < (n * wd + 63) / 64 := by omega
    have hx := (h.2.cell (i * wd / 64)).trans (wordsA_at N _ _ hat)
    have hv64 : v < 2 ^ 64 := Nat.lt_of_lt_of_le hv (Nat.pow_le_pow_right (by decide) h64)
    by_cases hs : i * wd % 64 + wd ≤ 64
    · refine (pset_one w b g n wd i _ _ v (word_lt _ _) (by omega) h64 (by omega) (by omega) (by omega) (by omega) (by omega) hc1 hc2 hx (h.2.frozen _) h.bg (by omega)).mono ?_
      rintro e w' ⟨rfl, k, rfl⟩
      refine ⟨rfl, ⟨h.1.far h.bg _, ?_⟩, ?_⟩
      · have hr := h.2.put (i * wd / 64) (.int .u64 ((word N (i * wd / 64) ||| v * 2 ^ (i * wd % 64) % 2 ^ 64 : Nat) : Int))
        rw [wordsA_ext ((wordsA N _).setIfInBounds _ _) (N + 2 ^ (i * wd) * v) ((n * wd + 63) / 64) (by simp [wordsA_size]) ?_] at hr
        · exact hr
        · intro k hk
          rw [Array.getElem?_setIfInBounds]
          by_cases hkk : i * wd / 64 = k
          · subst hkk; simp [wordsA_size, hk, word_set_at N v (i * wd) hN]
          · rw [if_neg hkk, wordsA_at N _ _ hk, word_set_other N v (i * wd) wd k hN hv h64 (fun e => hkk e.symm) (fun _ => hs)]
      · exact ⟨rfl, rfl, rfl, by simp [World.setCell], fun j hj hne => Below.heap_setCell w _ _ j (fun e => hne (by rw [e]))⟩
    · have hat2 : i * wd / 64 + 1 < (n * wd + 63) / 64 := by omega
      have hy := (h.2.cell (i * wd / 64 + 1)).trans (wordsA_at N _ _ hat2)
      refine (pset_two w b g n wd i _ _ _ v (word_lt _ _) (word_lt _ _) hv64 (by omega) h64 (by omega) (by omega) (by omega) (by omega) (by omega) hc1 hc2 hx (h.2.frozen _) h.bg hy (h.2.frozen _) (by omega)).mono ?_
      rintro e w' ⟨rfl, k, rfl⟩
      refine ⟨rfl, ⟨(h.1.far h.bg _).far h.bg _, ?_⟩, ?_⟩
      · have hr := (h.2.put (i * wd / 64) (.int .u64 ((word N (i * wd / 64) ||| v * 2 ^ (i * wd % 64) % 2 ^ 64 : Nat) : Int))).put (i * wd / 64 + 1) (.int .u64 ((word N (i * wd / 64 + 1) ||| v / 2 ^ (64 - i * wd % 64) : Nat) : Int))
        rw [wordsA_ext (((wordsA N _).setIfInBounds _ _).setIfInBounds _ _) (N + 2 ^ (i * wd) * v) ((n * wd + 63) / 64) (by simp [wordsA_size]) ?_] at hr
        · exact hr
        · intro k hk
          have hd : v / 2 ^ (64 - i * wd % 64) % 2 ^ 64 = v / 2 ^ (64 - i * wd % 64) := Nat.mod_eq_of_lt (Nat.lt_of_le_of_lt (Nat.div_le_self _ _) hv64)
          rw [Array.getElem?_setIfInBounds, Array.getElem?_setIfInBounds]
          by_cases hk1 : i * wd / 64 + 1 = k
          · subst hk1; simp only [wordsA_size, Array.size_setIfInBounds, hk, if_true, word_set_next N v (i * wd) hN, hd]
          · rw [if_neg hk1]
            by_cases hkk : i * wd / 64 = k
            · subst hkk; simp only [wordsA_size, hk, if_true, word_set_at N v (i * wd) hN]
            · rw [if_neg hkk, wordsA_at N _ _ hk, word_set_other N v (i * wd) wd k hN hv h64 (fun e => hkk e.symm) (fun e => absurd e.symm hk1)]
      · exact ⟨rfl, rfl, rfl, by simp [World.setCell], fun j hj hne => (Below.heap_setCell _ _ _ j (fun e => hne (by rw [e]))).trans (Below.heap_setCell w _ _ j (fun e => hne (by rw [e])))⟩

theorem pget_any (w : World) (b g n wd i N : Nat) (hn : n ≤ 1048576) (h64 : wd ≤ 64) (hi : i < n) (h : PR w b g n wd N) :
    Calls Try.prog 27 #[.pointer (some ⟨b, 0, none⟩), .int .i64 i] w fun e w' => e = .returned (.int .u64 ((N / 2 ^ (i * wd) % 2 ^ wd : Nat) : Int)) ∧ ∃ k, w' = w.drewN k := by
  have hc1 : w.cell? ⟨b, 1, none⟩ = some (.int .i64 wd) := h.1.cell 1
  have hc2 : w.cell? ⟨b, 2, none⟩ = some (.slice (some ⟨g, 0, none⟩) ((n * wd + 63) / 64) ((n * wd + 63) / 64)) := h.1.cell 2
  have hp := prods i n wd hi hn h64
  have hcp := cast_prod i wd
  by_cases hz : wd = 0
  · subst hz
    refine (pget_zero w b i hc1).mono ?_
    rintro e w' ⟨rfl, rfl⟩
    exact ⟨by simp [Nat.mod_one], 0, rfl⟩
  · have hat : i * wd / 64 < (n * wd + 63) / 64 := by omega
    have hx := (h.2.cell (i * wd / 64)).trans (wordsA_at N _ _ hat)
    by_cases hs : i * wd % 64 + wd ≤ 64
    · refine (pget_one w b g n wd i _ _ (word_lt _ _) (by omega) h64 (by omega) (by omega) (by omega) (by omega) (by omega) hc1 hc2 hx (by omega)).mono ?_
      rintro e w' ⟨rfl, k, rfl⟩
      rw [word_get_one N (i * wd) wd hs]
      exact ⟨rfl, k, rfl⟩
    · have hat2 : i * wd / 64 + 1 < (n * wd + 63) / 64 := by omega
      have hy := (h.2.cell (i * wd / 64 + 1)).trans (wordsA_at N _ _ hat2)
      refine (pget_two w b g n wd i _ _ _ (word_lt _ _) (by omega) h64 (by omega) (by omega) (by omega) (by omega) (by omega) hc1 hc2 hx hy (by omega)).mono ?_
      rintro e w' ⟨rfl, k, rfl⟩
      rw [word_get_two N (i * wd) wd h64]
      exact ⟨rfl, k, rfl⟩
end Go.Proofs.Ytjjhllbbkflnnaa
