/- math/bits.Len64; packed: Len, Width. -/
import Derived.Test.YtjjhllbbkflnnaaPkSet
import Derived.Lib.Strings
import Derived.Lib.Slices
import Derived.Lib.Small
import Derived.Lib.Walk
import Derived.Lib.BitFns
set_option linter.unusedVariables false
namespace Go.Proofs.Ytjjhllbbkflnnaa
open Go.RowKit HK

theorem blen_half (x : Nat) (h : x ≠ 0) : blen x = 1 + blen (x / 2) := by
  have key : ∀ w, blen x ≤ w + 1 ↔ blen (x / 2) ≤ w := by
    intro w
    rw [blen_le_iff, blen_le_iff, Nat.pow_succ, Nat.div_lt_iff_lt_mul (by decide)]
  have h1 := (key (blen (x / 2))).2 (Nat.le_refl _)
  have h2 : 1 ≤ blen x := by
    have := (blen_le_iff x 0)
    simp only [Nat.le_zero, Nat.pow_zero] at this
    omega
  have h3 := (key (blen x - 1)).1 (by omega)
  omega
theorem bitLenAux_eq : ∀ f x : Nat, x < 2 ^ f → Lib.bitLenAux f x = blen x
  | 0, x, h => by
    have : x = 0 := by simpa using h
    subst this; rfl
  | f + 1, x, h => by
    unfold Lib.bitLenAux
    by_cases hx : x = 0
    · subst hx; rfl
    · rw [if_neg hx, bitLenAux_eq f (x / 2) (by rw [Nat.div_lt_iff_lt_mul (by decide), ← Nat.pow_succ]; exact h), blen_half x hx]
theorem bitLen_eq (x : Nat) (h : x < 2 ^ 64) : Lib.bitLen x = blen x := bitLenAux_eq 64 x h

theorem blen_div (x k : Nat) (h : 2 ^ k ≤ x) : blen x = k + blen (x / 2 ^ k) := by
  have key : ∀ w, blen x ≤ k + w ↔ blen (x / 2 ^ k) ≤ w := by
    intro w
    rw [blen_le_iff, blen_le_iff, Nat.div_lt_iff_lt_mul (Nat.two_pow_pos k), ← Nat.pow_add, Nat.add_comm]
  have h1 := (key (blen (x / 2 ^ k))).2 (Nat.le_refl _)
  have h2 : ¬ blen x ≤ k := by rw [blen_le_iff]; omega
  have h3 := (key (blen x - k)).1 (by omega)
  omega
theorem tab_at (y : Int) (hb : y.toNat < Lib.len8tab.size) : wrap64 ((Lib.len8tab[y.toNat]'hb).toNat : Int) = (blen y.toNat : Int) := by
  have hs := Lib.len8tab_size
  have h8 : blen y.toNat ≤ 8 := by rw [blen_le_iff]; omega
  have h := Lib.len8_of (y.toNat : Int) (by omega) (by omega)
  unfold Lib.len8 at h
  rw [Int.toNat_natCast, getElem?_pos Lib.len8tab y.toNat hb, Option.getD_some, bitLen_eq _ (by omega)] at h
  rw [h, IntWalk.wrap64_in _ ⟨by omega, by omega⟩]
theorem len_close (x : Int) (k q : Nat) (y : Int) (h0 : 0 ≤ x) (hk : k ≤ 64) (hq : q = 2 ^ k) (hx : (q : Int) ≤ x) (hy : y = x / (q : Int)) (hy8 : y < 256) : wrap64 ((k : Int) + (blen y.toNat : Int)) = (blen x.toNat : Int) := by
  have h8 : blen y.toNat ≤ 8 := by rw [blen_le_iff]; omega
  have e : y.toNat = x.toNat / q := by
    rw [hy]
    obtain ⟨X, rfl⟩ := Int.eq_ofNat_of_zero_le h0
    rw [← Int.natCast_ediv, Int.toNat_natCast, Int.toNat_natCast]
  rw [blen_div x.toNat k (by omega), ← hq, ← e, IntWalk.wrap64_in _ ⟨by omega, by omega⟩]
  omega
set_option maxHeartbeats 4000000 in
set_option maxRecDepth 100000 in
theorem len64_int (x : Int) (w : World) (h0 : 0 ≤ x) (h1 : x ≤ 18446744073709551615) :
    Calls Try.prog 25 #[.int .u64 x] w fun e w' => e = .returned (.int .i64 (blen x.toNat)) ∧ w' = w := by
  have hsz : (Lib.len8tab.size : Int) = 256 := by decide
  go_enter Try.func25, Try.ntmps25
  go_wp2
  all_goals (go_ret; refine ⟨congrArg Ending.returned (congrArg (Value.int IntKind.i64) ?_), rfl⟩; rw [tab_at])
  · exact len_close x 56 72057594037927936 _ h0 (by decide) (by decide) (by omega) (by omega) (by omega)
  · exact len_close x 48 281474976710656 _ h0 (by decide) (by decide) (by omega) (by omega) (by omega)
  · exact len_close x 40 1099511627776 _ h0 (by decide) (by decide) (by omega) (by omega) (by omega)
  · exact len_close x 32 4294967296 _ h0 (by decide) (by decide) (by omega) (by omega) (by omega)
  · exact len_close x 24 16777216 _ h0 (by decide) (by decide) (by omega) (by omega) (by omega)
  · exact len_close x 16 65536 _ h0 (by decide) (by decide) (by omega) (by omega) (by omega)
  · exact len_close x 8 256 _ h0 (by decide) (by decide) (by omega) (by omega) (by omega)
  · have h8 : blen x.toNat ≤ 8 := by rw [blen_le_iff]; omega
    exact IntWalk.wrap64_in _ ⟨by omega, by omega⟩
theorem len64_any (x : Nat) (w : World) (h : x < 2 ^ 64) :
    Calls Try.prog 25 #[.int .u64 (x : Int)] w fun e w' => e = .returned (.int .i64 (blen x)) ∧ w = w' := by
  refine (len64_int x w (by omega) (by omega)).mono ?_
  rintro e w' ⟨rfl, hw⟩
  rw [Int.toNat_natCast]
  exact ⟨rfl, hw.symm⟩

theorem plen_any (b : Nat) (n : Int) (w : World) (hc : w.cell? ⟨b, 0, none⟩ = some (.int .i64 n)) :
    Calls Try.prog 24 #[.pointer (some ⟨b, 0, none⟩)] w fun e w' => e = .returned (.int .i64 n) ∧ w = w' := by
  go_enter Try.func24, Try.ntmps24
  go_wp2
  go_ret
  exact ⟨rfl, rfl⟩
theorem plen_nil (w : World) : Calls Try.prog 24 #[.pointer none] w fun e w' => e = .returned (.int .i64 0) ∧ w = w' := by
  go_enter Try.func24, Try.ntmps24
  go_wp2
  go_ret
  exact ⟨rfl, rfl⟩
theorem pwidth_any (b : Nat) (n : Int) (w : World) (hc : w.cell? ⟨b, 1, none⟩ = some (.int .i64 n)) :
    Calls Try.prog 13 #[.pointer (some ⟨b, 0, none⟩)] w fun e w' => e = .returned (.int .i64 n) ∧ w = w' := by
  go_enter Try.func13, Try.ntmps13
  go_wp2
  go_ret
  exact ⟨rfl, rfl⟩
theorem pwidth_nil (w : World) : Calls Try.prog 13 #[.pointer none] w fun e w' => e = .returned (.int .i64 0) ∧ w = w' := by
  go_enter Try.func13, Try.ntmps13
  go_wp2
  go_ret
  exact ⟨rfl, rfl⟩
theorem pget2_out (b : Nat) (n i : Int) (w : World) (hc : w.cell? ⟨b, 0, none⟩ = some (.int .i64 n)) (ho : i < 0 ∨ n ≤ i) :
    Calls Try.prog 15 #[.pointer (some ⟨b, 0, none⟩), .int .i64 i] w fun e w' => e = .returned (.tuple #[.int .u64 0, .bool false]) ∧ w = w' := by
  by_cases h0 : i < 0
  · go_enter Try.func15, Try.ntmps15
    go_wp2
    go_ret2
    exact ⟨rfl, rfl⟩
  · have h1 : n ≤ i := by omega
    have h0' : decide (i < 0) = false := by simpa using h0
    go_enter Try.func15, Try.ntmps15
    go_wp2_with (go_at_call 24; refine (plen_any _ _ _ hc).mono ?_; rintro e w' ⟨rfl, rfl⟩)
    go_ret2
    exact ⟨rfl, rfl⟩
theorem pget2_nil (i : Int) (w : World) :
    Calls Try.prog 15 #[.pointer none, .int .i64 i] w fun e w' => e = .returned (.tuple #[.int .u64 0, .bool false]) ∧ w = w' := by
  by_cases h0 : i < 0
  · go_enter Try.func15, Try.ntmps15
    go_wp2
    go_ret2
    exact ⟨rfl, rfl⟩
  · have h1 : 0 ≤ i := by omega
    have h0' : decide (i < 0) = false := by simpa using h0
    go_enter Try.func15, Try.ntmps15
    go_wp2_with (go_at_call 24; refine (plen_nil _).mono ?_; rintro e w' ⟨rfl, rfl⟩)
    go_ret2
    exact ⟨rfl, rfl⟩
theorem pget2_in (b g n wd i N : Nat) (w : World) (hn : n ≤ 1048576) (h64 : wd ≤ 64) (hi : i < n) (h : PR w b g n wd N) :
    Calls Try.prog 15 #[.pointer (some ⟨b, 0, none⟩), .int .i64 i] w fun e w' => e = .returned (.tuple #[.int .u64 ((N / 2 ^ (i * wd) % 2 ^ wd : Nat) : Int), .bool true]) ∧ ∃ k, w' = w.drewN k := by
  have hc : w.cell? ⟨b, 0, none⟩ = some (.int .i64 n) := h.1.cell 0
  have hg := pget_any w b g n wd i N hn h64 hi h
  have HG := Lib.hid hg; clear hg
  have H := Lib.hid h; clear h
  have h0 : decide ((i : Int) < 0) = false := by simp
  go_enter Try.func15, Try.ntmps15
  go_wp2_with (first | (go_at_call 24; refine (plen_any _ _ _ hc).mono ?_; rintro e w' ⟨rfl, rfl⟩) | (go_at_call 27; refine HG.out.mono ?_; rintro e w' ⟨rfl, hk⟩))
  go_ret2
  exact ⟨rfl, hk⟩
end Go.Proofs.Ytjjhllbbkflnnaa
