/- General words: worlds that agree on a range of blocks; slices that lie in such a range. Conditions: those each theorem names. -/
import Derived.Test.YtofeemmmdbdjdaaMem3
import Derived.Test.YtofeemmmdbdjdaaStr
import Derived.Lib.Hide
set_option linter.unusedVariables false
namespace Go.Proofs.Ytofeemmmdbdjdaa
open Go.RowKit

/-- The blocks from S to E are as they were. -/
def Agree (S E : Nat) (w w' : World) : Prop := ∀ k, S ≤ k → k < E → w'.heap[k]? = w.heap[k]?
theorem Agree.refl (S E : Nat) (w : World) : Agree S E w w := fun _ _ _ => rfl
theorem Agree.trans {S E : Nat} {a b c : World} (h : Agree S E a b) (k : Agree S E b c) : Agree S E a c := fun i h1 h2 => (k i h1 h2).trans (h i h1 h2)
theorem Agree.of_below {S E B : Nat} {w w' : World} (h : Below B w w') (hB : E ≤ B) : Agree S E w w' := fun k _ h2 => h.block k (by omega)
theorem Agree.of_grown {S E : Nat} {w w' : World} {row : Option Nat} (h : w.grownBy w' row) (hE : E ≤ w.heap.size) (hr : ∀ q, row = some q → q < S ∨ E ≤ q) : Agree S E w w' :=
  fun k h1 h2 => h.block k (by omega) (fun e => by rcases hr k e.symm with h3 | h3 <;> omega)
theorem Agree.mono {S S' E E' : Nat} {w w' : World} (h : Agree S E w w') (hS : S ≤ S') (hE : E' ≤ E) : Agree S' E' w w' := fun k h1 h2 => h k (by omega) (by omega)
theorem Row.agree {w w' : World} {g S E : Nat} {t : TypeId} {cs : Array Value} (h : Row w g t cs) (ha : Agree S E w w') (h1 : S ≤ g) (h2 : g < E) : Row w' g t cs := (ha g h1 h2).trans h

/-- A slice that reads as the list xs, in a block from S on and below E. -/
def SlR (w : World) (S E : Nat) (A : Option Addr) (n : Nat) (xs : List Value) : Prop :=
  xs.length = n ∧ (0 < n → ∃ b off, A = some ⟨b, off, none⟩ ∧ S ≤ b ∧ b < E ∧ ∀ j u, xs[j]? = some u → w.cell? ⟨b, off + j, none⟩ = some u)
theorem SlR.sl {w : World} {S E : Nat} {A : Option Addr} {n : Nat} {xs : List Value} (h : SlR w S E A n xs) : Sl w E A n xs :=
  ⟨h.1, fun hn => by obtain ⟨b, off, e, _, h2, hc⟩ := h.2 hn; exact ⟨b, off, e, h2, hc⟩⟩
theorem SlR.agree {w w' : World} {S E : Nat} {A : Option Addr} {n : Nat} {xs : List Value} (h : SlR w S E A n xs) (ha : Agree S E w w') : SlR w' S E A n xs :=
  ⟨h.1, fun hn => by
    obtain ⟨b, off, e, h1, h2, hc⟩ := h.2 hn
    exact ⟨b, off, e, h1, h2, fun j u hu => (World.cell?_of_block (a := ⟨b, off + j, none⟩) (ha b h1 h2)).trans (hc j u hu)⟩⟩
theorem SlR.mono {w : World} {S S' E E' : Nat} {A : Option Addr} {n : Nat} {xs : List Value} (h : SlR w S E A n xs) (hS : S' ≤ S) (hE : E ≤ E') : SlR w S' E' A n xs :=
  ⟨h.1, fun hn => by
    obtain ⟨b, off, e, h1, h2, hc⟩ := h.2 hn
    exact ⟨b, off, e, by omega, by omega, hc⟩⟩
theorem SlR.of_own {w : World} {base : Nat} {e : TypeId} {A : Option Addr} {n c : Nat} {xs : List Value} (h : w.ownsRow base e 1 (.slice A n c) n xs) : SlR w base w.heap.size A n xs := by
  refine ⟨own_len h, fun hn => ?_⟩
  obtain ⟨b, off, hA, hlt, hc⟩ := (Sl.of_own h).2 hn
  have := h.lt b (by rw [hA]; rfl)
  exact ⟨b, off, hA, this.1, hlt, hc⟩
theorem SlR.of_row {w : World} {g : Nat} {t : TypeId} {cs : Array Value} (h : Row w g t cs) (xs : List Value) (hx : cs.toList = xs) (n : Nat) (hn : cs.size = n) : SlR w g (g + 1) (some ⟨g, 0, none⟩) n xs := by
  subst hx hn
  refine ⟨by simp, fun _ => ⟨g, 0, rfl, Nat.le_refl _, Nat.lt_succ_self _, fun j u hu => ?_⟩⟩
  rw [Nat.zero_add, h.cell]
  simpa using hu

theorem qbel {w w' : World} (B : Nat) (h : ∃ k, w' = w.drewN k) : Below B w w' := by
  obtain ⟨k, rfl⟩ := h
  exact bel_drewN (Below.refl _ _) k
theorem qsize {w w' : World} (h : ∃ k, w' = w.drewN k) : w'.heap.size = w.heap.size := by
  obtain ⟨k, rfl⟩ := h
  rfl
theorem lit_sl {w : World} {t : TypeId} {cs : Array Value} {xs : List Value} (hx : cs.toList = xs) : Sl (w.alloc (.cells cs t)) (w.heap.size + 1) (some ⟨w.heap.size, 0, none⟩) cs.size xs := by
  have h := Sl.of_row (Row.new w t cs) cs.size (Nat.le_refl _)
  rw [World.size_alloc] at h
  rw [List.take_of_length_le (by simp), hx] at h
  exact h
theorem own_of_row {w : World} {base g : Nat} {t : TypeId} {cs : Array Value} {xs : List Value} (h : Row w g t cs) (hx : cs.toList = xs) (n : Nat) (hn : cs.size = n) (hm : n ≤ maxLen) (hb : base ≤ g) : w.ownsRow base t 1 (.slice (some ⟨g, 0, none⟩) n n) n xs := by
  subst hx hn
  exact ⟨by simp, .inr ⟨g, cs.size, cs, rfl, hb, h, Nat.le_refl _, hm, by simp, List.take_of_length_le (by simp)⟩⟩
end Go.Proofs.Ytofeemmmdbdjdaa
