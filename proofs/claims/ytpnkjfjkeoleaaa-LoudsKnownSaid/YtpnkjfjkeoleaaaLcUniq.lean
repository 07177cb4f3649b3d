/- Plain mathematics of tries: a set has one trie; its code. Nothing of the program. No conditions beyond those each theorem names. -/
import Derived.Test.YtpnkjfjkeoleaaaLcPlain
set_option linter.unusedVariables false
set_option maxRecDepth 100000
namespace Go.Proofs.Ytpnkjfjkeoleaaa.LD
open HK

theorem seg_same {L : List Str} {d T : Nat} {s s' : Span} (h : Seg L d T s) (h' : Seg L d T s') (e : s.f = s'.f) : s = s' := by
  have e2 : s.t = s'.t := by
    rcases Nat.lt_trichotomy s.t s'.t with h1 | h1 | h1
    · have h2 := h.stop (by have := h'.le; omega)
      have h3 := h'.same s.t (by have := h.lt; omega) h1
      rw [← e] at h3
      exact absurd h3 h2
    · exact h1
    · have h2 := h'.stop (by have := h.le; omega)
      have h3 := h.same s'.t (by have := h'.lt; omega) h1
      rw [e] at h3
      exact absurd h3 h2
  have e3 : s.d = s'.d := by rw [h.dep, h'.dep]
  cases s; cases s'
  simp only at e e2 e3
  subst e e2 e3
  rfl
theorem chain_same {L : List Str} {d T e : Nat} : ∀ {xs ys : List Span} {i : Nat}, Chain L d T i e xs → Chain L d T i e ys → xs = ys
  | [], [], _, _, _ => rfl
  | [], y :: ys, i, h, k => by
    have h1 : i = e := h
    have := Chain.le k
    simp at this; omega
  | x :: xs, [], i, h, k => by
    have h1 : i = e := k
    have := Chain.le h
    simp at this; omega
  | x :: xs, y :: ys, i, h, k => by
    have e1 := seg_same h.2.1 k.2.1 (by rw [h.1, k.1])
    subst e1
    rw [chain_same h.2.2 k.2.2]
theorem Bfs.same {L : List Str} {ks : List (List Span)} (h : Bfs L ks) : ∀ {ks' : List (List Span)}, Bfs L ks' → ks.length = ks'.length → ks = ks' := by
  induction h with
  | nil =>
    intro ks' _ e
    exact (List.eq_nil_of_length_eq_zero (by simpa using e.symm)).symm
  | @snoc ks x xs h hx hk ih =>
    intro ks' h' e
    cases h' with
    | nil => simp at e
    | @snoc ks2 x2 xs2 h2 hx2 hk2 =>
      have e1 := ih h2 (by simpa using e)
      subst e1
      rw [hx] at hx2; injection hx2 with hx2; subst hx2
      rw [chain_same hk hk2]
theorem Full.one {L : List Str} {ks ks' : List (List Span)} (F : Full L ks) (F' : Full L ks') : ks = ks' := by
  have h1 := F.bfs.full F.good F.len.symm
  have h2 := F'.bfs.full F'.good F'.len.symm
  exact F.bfs.same F'.bfs (by rw [← F.len, ← F'.len, h1, h2])

/-! The code. -/
def partL (b : List Nat) : List Nat := bytesN b.length 4 ++ b
/-- The four parts of a code. -/
def shapeC (ks : List (List Span)) : List Nat := B.bcode (shapeOf ks).length (bitsN (shapeOf ks))
def labsC (L : List Str) (ks : List (List Span)) : List Nat := ks.flatten.map (labelOf L)
def marksC (L : List Str) (ks : List (List Span)) : List Nat := B.bcode ks.length (bitsN ((allOf L ks).map (isAt L)))
def idsC (L : List Str) (ks : List (List Span)) : List Nat := code (idsOf L (allOf L ks))
def codeK (L : List Str) (ks : List (List Span)) : List Nat := partL (shapeC ks) ++ partL (labsC L ks) ++ partL (marksC L ks) ++ partL (idsC L ks)
end Go.Proofs.Ytpnkjfjkeoleaaa.LD
