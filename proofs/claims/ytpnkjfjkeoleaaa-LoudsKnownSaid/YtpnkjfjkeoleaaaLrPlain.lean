/- Plain mathematics of the reference of louds: common beginnings, the number of nodes. Nothing of the program. No conditions beyond those each theorem names. -/
import Derived.Test.YtpnkjfjkeoleaaaGLdW
set_option linter.unusedVariables false
set_option maxRecDepth 100000
namespace Go.Proofs.Ytpnkjfjkeoleaaa.LD

theorem com_at : ∀ (d : Nat) (a b : Str), a.take d = b.take d → d ≤ a.length → d ≤ b.length → (d = a.length ∨ d = b.length ∨ a.getD d 0 ≠ b.getD d 0) → com a b = d
  | 0, [], b, _, _, _, _ => by cases b <;> rfl
  | 0, a :: x, [], _, _, _, _ => rfl
  | 0, a :: x, b :: y, _, _, _, h => by
    have : a ≠ b := by
      rcases h with h | h | h
      · simp at h
      · simp at h
      · simpa using h
    simp [com, this]
  | d + 1, [], _, _, h, _, _ => by simp at h
  | d + 1, _ :: _, [], _, _, h, _ => by simp at h
  | d + 1, a :: x, b :: y, h, h1, h2, h3 => by
    simp only [List.take_succ_cons, List.cons.injEq] at h
    obtain ⟨rfl, h⟩ := h
    simp only [com, if_true]
    rw [com_at d x y h (by simpa using h1) (by simpa using h2) (by simpa using h3)]
/-- The nodes of the first i strings. -/
def cntTo (L : List Str) : Nat → Nat
  | 0 => 1
  | i + 1 => cntTo L i + (if i = 0 then (at_ L 0).length else cost L i)
theorem cntTo_eq (L : List Str) : ∀ i, cntTo L (i + 1) = 1 + (at_ L 0).length + costs L 1 i
  | 0 => by simp [cntTo, costs]
  | i + 1 => by
    have h : cntTo L (i + 1 + 1) = cntTo L (i + 1) + cost L (i + 1) := by
      simp [cntTo]
    rw [h, cntTo_eq L i, costs_add L i 1 1]
    have : costs L (1 + i) 1 = cost L (i + 1) := by simp [costs, Nat.add_comm]
    omega
theorem wt_cnt (L : List Str) : wt L (root L) = cntTo L L.length := by
  unfold wt root
  cases h : L.length with
  | zero => simp [cntTo]
  | succ n =>
    rw [cntTo_eq]
    simp
theorem cntTo_le {L : List Str} (hg : Good L) : ∀ i, i ≤ L.length → cntTo L i ≤ 1 + 256 * i
  | 0, _ => by simp [cntTo]
  | i + 1, h => by
    have ih := cntTo_le hg i (by omega)
    have h1 := (hg.lenAt (by omega : i < L.length)).2
    simp only [cntTo]
    split
    · rename_i h0; subst h0; omega
    · unfold cost; omega
/-- A few strings fit. -/
theorem wt_small {L : List Str} (hg : Good L) (h : L.length ≤ 2000) : wt L (root L) ≤ 524287 := by
  rw [wt_cnt]
  have := cntTo_le hg L.length (Nat.le_refl _)
  omega
theorem cost_pos {L : List Str} (i : Nat) : cost L i + com (at_ L (i - 1)) (at_ L i) = (at_ L i).length := by
  unfold cost
  have := com_le (at_ L (i - 1)) (at_ L i)
  omega
theorem hitsTo_256 {L : List Str} (hg : Good L) (p : Str) (h : 256 ≤ p.length) : hits L p = hitsTo L p 256 := by
  refine hitsTo_more _ h (fun j h1 h2 => ?_)
  exact idx_none (fun k hk e => by have h3 := (hg.lenAt hk).2; rw [e, List.length_take] at h3; omega)
end Go.Proofs.Ytpnkjfjkeoleaaa.LD
