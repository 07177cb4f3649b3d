/- bitvec: the words of a vector in memory. -/
import Derived.Test.YtofeemmmdbdjdaaProg
import Derived.Test.YtofeemmmdbdjdaaBvPlain
import Derived.Test.YtofeemmmdbdjdaaGen
import Derived.Test.YtofeemmmdbdjdaaBvOnes
import Derived.WalkKit
import Derived.Deep.OwnRows
import Derived.RegionTactic
set_option linter.unusedVariables false
namespace Go.Proofs.Ytofeemmmdbdjdaa.B
open Go.RowKit HK

theorem infoU64 : (Try.prog.info? 48).map (fun i => (i.zero, i.size, i.bytes)) = some (some (.int .u64 0), 1, 8) := by kernel_rfl
theorem infoInt : (Try.prog.info? 3).map (fun i => (i.zero, i.size, i.bytes)) = some (some (.int .i64 0), 1, 8) := by kernel_rfl
theorem infoU8 : (Try.prog.info? 5).map (fun i => (i.zero, i.size, i.bytes)) = some (some (.int .u8 0), 1, 1) := by kernel_rfl
theorem infoBool : (Try.prog.info? 4).map (fun i => (i.zero, i.size, i.bytes)) = some (some (.bool false), 1, 1) := by kernel_rfl

/-- The words of a number, as cells. -/
def wordsL (N m : Nat) : List Value := (List.range m).map fun k => Value.int .u64 (word N k)
def wordsA (N m : Nat) : Array Value := (wordsL N m).toArray
theorem wordsL_len (N m : Nat) : (wordsL N m).length = m := by simp [wordsL]
theorem wordsL_at (N m k : Nat) (h : k < m) : (wordsL N m)[k]? = some (.int .u64 (word N k)) := by simp [wordsL, h]
theorem wordsL_snoc (N m : Nat) : wordsL N (m + 1) = wordsL N m ++ [.int .u64 (word N m)] := by simp [wordsL, List.range_succ]
theorem wordsA_size (N m : Nat) : (wordsA N m).size = m := by simp [wordsA, wordsL_len]
theorem wordsA_at (N m k : Nat) (h : k < m) : (wordsA N m)[k]? = some (.int .u64 (word N k)) := by simp [wordsA, wordsL, h]
theorem wordsA_ext (a : Array Value) (N m : Nat) (hs : a.size = m) (h : ∀ k, k < m → a[k]? = some (.int .u64 (word N k))) : a = wordsA N m := by
  apply Array.ext_getElem?
  intro k
  by_cases hk : k < m
  · rw [h k hk, wordsA_at N m k hk]
  · rw [Array.getElem?_eq_none (by omega), Array.getElem?_eq_none (by rw [wordsA_size]; omega)]
theorem made_words (m : Nat) : madeCells #[Value.int .u64 0] m = wordsA 0 m := by
  apply wordsA_ext
  · exact size_madeCells _ _
  · intro k hk
    simp [madeCells, hk, Nat.mod_one, word]
/-- The counts before the groups. -/
def cntsL (N j : Nat) : List Value := (List.range j).map fun k => Value.int .i64 (cnt N (512 * k))
theorem cntsL_len (N j : Nat) : (cntsL N j).length = j := by simp [cntsL]
theorem cntsL_at (N j k : Nat) (h : k < j) : (cntsL N j)[k]? = some (.int .i64 (cnt N (512 * k))) := by simp [cntsL, h]
theorem cntsL_snoc (N j : Nat) : cntsL N (j + 1) = cntsL N j ++ [.int .i64 (cnt N (512 * j))] := by simp [cntsL, List.range_succ]

/-- A slice in blocks other than b. -/
def SlX (w : World) (b : Nat) (A : Option Addr) (n : Nat) (xs : List Value) : Prop :=
  xs.length = n ∧ (0 < n → ∃ g off, A = some ⟨g, off, none⟩ ∧ g < w.heap.size ∧ g ≠ b ∧ ∀ j u, xs[j]? = some u → w.cell? ⟨g, off + j, none⟩ = some u)
theorem SlX.grown {w w' : World} {b : Nat} {A : Option Addr} {n : Nat} {xs : List Value} (h : SlX w b A n xs) (hg : w.grownBy w' (some b)) : SlX w' b A n xs :=
  ⟨h.1, fun hn => by
    obtain ⟨g, off, e, h1, h2, hc⟩ := h.2 hn
    exact ⟨g, off, e, Nat.lt_of_lt_of_le h1 hg.size, h2, fun j u hu => (World.cell?_of_block (a := ⟨g, off + j, none⟩) (hg.block g h1 (fun e => h2 (by injection e)))).trans (hc j u hu)⟩⟩
theorem SlX.at_ {w : World} {b : Nat} {A : Option Addr} {n k : Nat} {xs : List Value} (h : SlX w b A n xs) (hk : k < n) : ∃ g off u, A = some ⟨g, off, none⟩ ∧ g < w.heap.size ∧ xs[k]? = some u ∧ w.cell? ⟨g, off + k, none⟩ = some u := by
  obtain ⟨g, off, e, h1, h2, hc⟩ := h.2 (by omega)
  have hl : k < xs.length := by have := h.1; omega
  exact ⟨g, off, xs[k], e, h1, List.getElem?_eq_getElem hl, hc k _ (List.getElem?_eq_getElem hl)⟩

/-- A vector of n bits, the bits of N, in the blocks from S on and below E. -/
def Bv (w : World) (S E b n N : Nat) : Prop :=
  n ≤ 1048576 ∧ N < 2 ^ n ∧ S ≤ b ∧ b < E ∧ ∃ A1 c1 A2 c2, Row w b 47 #[.int .i64 n, .slice A1 ((n + 63) / 64) c1, .slice A2 (((n + 63) / 64 + 7) / 8) c2] ∧
    SlR w S E A1 ((n + 63) / 64) (wordsL N ((n + 63) / 64)) ∧ SlR w S E A2 (((n + 63) / 64 + 7) / 8) (cntsL N (((n + 63) / 64 + 7) / 8))
theorem Bv.agree {w w' : World} {S E b n N : Nat} (h : Bv w S E b n N) (ha : Agree S E w w') : Bv w' S E b n N := by
  obtain ⟨h1, h2, h3, h4, A1, c1, A2, c2, hr, hw, hc⟩ := h
  exact ⟨h1, h2, h3, h4, A1, c1, A2, c2, hr.agree ha h3 h4, hw.agree ha, hc.agree ha⟩
theorem Bv.drewN {w : World} {S E b n N : Nat} (h : Bv w S E b n N) (k : Nat) : Bv (w.drewN k) S E b n N := h
theorem Bv.mono {w : World} {S S' E E' b n N : Nat} (h : Bv w S E b n N) (hS : S' ≤ S) (hE : E ≤ E') : Bv w S' E' b n N := by
  obtain ⟨h1, h2, h3, h4, A1, c1, A2, c2, hr, hw, hc⟩ := h
  exact ⟨h1, h2, by omega, by omega, A1, c1, A2, c2, hr, hw.mono hS hE, hc.mono hS hE⟩
theorem Bv.lt {w : World} {S E b n N : Nat} (h : Bv w S E b n N) : b < w.heap.size := by
  obtain ⟨h1, h2, h3, h4, A1, c1, A2, c2, hr, hw, hc⟩ := h
  exact hr.lt
/-- What is true before a place, of either kind. -/
def rk (N : Nat) (b : Bool) (a : Nat) : Nat := if b then cnt N a else a - cnt N a
def clamp (i : Int) (n : Nat) : Nat := (max 0 (min i (n : Int))).toNat
end Go.Proofs.Ytofeemmmdbdjdaa.B
