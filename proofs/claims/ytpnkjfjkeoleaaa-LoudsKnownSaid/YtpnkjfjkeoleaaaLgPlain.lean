/- Plain mathematics of decoding: the parts of a code, and the parents of nodes. Nothing of the program. No conditions beyond those each theorem names. -/
import Derived.Test.YtpnkjfjkeoleaaaLcUniq
import Derived.Test.YtpnkjfjkeoleaaaGBvD
set_option linter.unusedVariables false
set_option maxRecDepth 100000
namespace Go.Proofs.Ytpnkjfjkeoleaaa.LD
open HK
open B (num4b)

/-! Parts. -/
def cat (ys : List (List Nat)) : List Nat := ys.flatMap partL
theorem cat_cons (y : List Nat) (ys : List (List Nat)) : cat (y :: ys) = partL y ++ cat ys := by simp [cat]
theorem codeK_cat (L : List Str) (ks : List (List Span)) : codeK L ks = cat [shapeC ks, labsC L ks, marksC L ks, idsC L ks] := by
  simp [cat, codeK]
theorem partL_len (b : List Nat) : (partL b).length = 4 + b.length := by simp [partL, bytesN]
theorem partL_take4 (b r : List Nat) : (partL b ++ r).take 4 = bytesN b.length 4 := by
  unfold partL
  rw [List.append_assoc, List.take_left' (bytesN_length _ 4)]
theorem partL_num (b r : List Nat) (h : b.length < 4294967296) : num4b (partL b ++ r) = b.length := by
  unfold num4b
  rw [partL_take4, packN_bytesN 4 _ (by omega)]
theorem partL_drop4 (b r : List Nat) : (partL b ++ r).drop 4 = b ++ r := by
  unfold partL
  rw [List.append_assoc, List.drop_left' (bytesN_length _ 4)]
/-- The first part, off the front. -/
theorem cat_front {y : List Nat} {ys : List (List Nat)} {bl : List Nat} (h : cat (y :: ys) = bl) (hy : y.length < 4294967296) :
    4 ≤ bl.length ∧ num4b bl = y.length ∧ num4b bl ≤ bl.length - 4 ∧ y = (bl.drop 4).take (num4b bl) ∧ cat ys = bl.drop (4 + num4b bl) := by
  rw [cat_cons] at h
  subst h
  rw [partL_num _ _ hy]
  have hl := partL_len y
  refine ⟨by simp; omega, rfl, by simp; omega, ?_, ?_⟩
  · rw [partL_drop4, List.take_left' rfl]
  · rw [← List.drop_drop, partL_drop4, List.drop_left' rfl]
/-- All parts are short enough for their heads. -/
def Short (ys : List (List Nat)) : Prop := ∀ y ∈ ys, y.length < 4294967296

/-! Parents. -/
/-- Parents and depths of nodes, as far as they are known. -/
structure Tr (ps ds : List Nat) : Prop where
  len : ps.length = ds.length
  pos : 0 < ps.length
  zero : ds[0]? = some 0
  up : ∀ c p : Nat, 1 ≤ c → ps[c]? = some p → p < c ∧ ∃ d : Nat, ds[p]? = some d ∧ ds[c]? = some (d + 1)
theorem Tr.start : Tr [0] [0] := ⟨rfl, by simp, rfl, fun c p h1 h => by
  rw [List.getElem?_eq_none (by simp; omega)] at h; cases h⟩
theorem Tr.snoc {ps ds : List Nat} (h : Tr ps ds) {i d : Nat} (hd : ds[i]? = some d) : Tr (ps ++ [i]) (ds ++ [d + 1]) := by
  have hi := (List.getElem?_eq_some_iff.1 hd).1
  have hl := h.len
  refine ⟨by simp [h.len], by simp, ?_, fun c p h1 hc => ?_⟩
  · rw [List.getElem?_append_left (by omega)]; exact h.zero
  · rcases Nat.lt_or_ge c ps.length with h2 | h2
    · rw [List.getElem?_append_left h2] at hc
      obtain ⟨h3, d', h4, h5⟩ := h.up c p h1 hc
      exact ⟨h3, d', by rw [List.getElem?_append_left (by omega)]; exact h4, by rw [List.getElem?_append_left (by omega)]; exact h5⟩
    · rw [List.getElem?_append_right h2] at hc
      have h3 : c = ps.length := by
        rcases Nat.eq_or_lt_of_le h2 with e | e
        · exact e.symm
        · rw [List.getElem?_eq_none (by simp; omega)] at hc; cases hc
      subst h3
      simp only [Nat.sub_self, List.getElem?_cons_zero, Option.some.injEq] at hc
      subst hc
      refine ⟨by omega, d, by rw [List.getElem?_append_left hi]; exact hd, ?_⟩
      rw [List.getElem?_append_right (by omega), hl, Nat.sub_self]
      rfl
theorem Tr.at_ {ps ds : List Nat} (h : Tr ps ds) {c : Nat} (hc : c < ps.length) : ∃ p d : Nat, ps[c]? = some p ∧ ds[c]? = some d := by
  have hl := h.len
  exact ⟨_, _, List.getElem?_eq_getElem hc, List.getElem?_eq_getElem (by omega)⟩
/-- What they are in a trie. -/
def Known (L : List Str) (ks : List (List Span)) (ps ds : List Nat) : Prop :=
  (∀ c d : Nat, ds[c]? = some d → ∃ x, (allOf L ks)[c]? = some x ∧ x.d = d) ∧ ∀ c p : Nat, 1 ≤ c → ps[c]? = some p → ∃ b, Kid1 L ks p b c
theorem Known.start {L : List Str} {ks : List (List Span)} (F : Full L ks) : Known L ks [0] [0] := by
  constructor
  · intro c d h
    rcases Nat.eq_zero_or_pos c with h0 | h0
    · subst h0
      refine ⟨_, F.root, ?_⟩
      simpa [root] using h
    · rw [List.getElem?_eq_none (by simp; omega)] at h; cases h
  · intro c p h1 h
    rw [List.getElem?_eq_none (by simp; omega)] at h; cases h
section
variable {L : List Str} {ks : List (List Span)} (F : Full L ks)
include F
omit F in
theorem Full.kid_parent {i i' b b' c : Nat} (h : Kid1 L ks i b c) (h' : Kid1 L ks i' b' c) : i = i' := by
  obtain ⟨xs, j, s, h1, h2, h3, h4⟩ := h
  obtain ⟨xs', j', s', h1', h2', h3', h4'⟩ := h'
  have hj := (List.getElem?_eq_some_iff.1 h2).1
  have hj' := (List.getElem?_eq_some_iff.1 h2').1
  have e1 := off_succ h1
  have e2 := off_succ h1'
  rcases Nat.lt_trichotomy i i' with h | h | h
  · have := off_le (ks := ks) (show i + 1 ≤ i' from h); omega
  · exact h
  · have := off_le (ks := ks) (show i' + 1 ≤ i from h); omega
theorem Known.snoc {ps ds : List Nat} (h : Known L ks ps ds) (hl : ps.length = ds.length) {i d j : Nat} {xs : List Span} (hi : ks[i]? = some xs) (hj : j < xs.length) (hp : ps.length = 1 + off ks i + j) (hd : ds[i]? = some d) :
    Known L ks (ps ++ [i]) (ds ++ [d + 1]) := by
  obtain ⟨x, xs', k1, k2, k3, k4, _, _, _, k5⟩ := F.node (List.getElem?_eq_some_iff.1 hi).1
  rw [hi] at k2; injection k2 with k2; subst k2
  have hs := List.getElem?_eq_getElem hj
  constructor
  · intro c d' hc
    rcases Nat.lt_or_ge c ds.length with h2 | h2
    · rw [List.getElem?_append_left h2] at hc
      exact h.1 c d' hc
    · rw [List.getElem?_append_right h2] at hc
      have h3 : c = ds.length := by
        rcases Nat.eq_or_lt_of_le h2 with e | e
        · exact e.symm
        · rw [List.getElem?_eq_none (by simp; omega)] at hc; cases hc
      subst h3
      simp only [Nat.sub_self, List.getElem?_cons_zero, Option.some.injEq] at hc
      subst hc
      obtain ⟨x', hx', e⟩ := h.1 i d hd
      rw [k1] at hx'; injection hx' with hx'; subst hx'
      refine ⟨xs[j], by rw [← hl, hp, k5 j hj, hs], ?_⟩
      rw [(Chain.mem k3 _ (List.mem_of_getElem? hs)).1.dep, e]
  · intro c p h1 hc
    rcases Nat.lt_or_ge c ps.length with h2 | h2
    · rw [List.getElem?_append_left h2] at hc
      exact h.2 c p h1 hc
    · rw [List.getElem?_append_right h2] at hc
      have h3 : c = ps.length := by
        rcases Nat.eq_or_lt_of_le h2 with e | e
        · exact e.symm
        · rw [List.getElem?_eq_none (by simp; omega)] at hc; cases hc
      subst h3
      simp only [Nat.sub_self, List.getElem?_cons_zero, Option.some.injEq] at hc
      subst hc
      exact ⟨labelOf L xs[j], xs, j, _, hi, hs, rfl, hp⟩
/-- One step up, from a node whose string is T's beginning. -/
theorem Full.step_up {ps ds : List Nat} (hk : Known L ks ps ds) {T : Str} {d c p : Nat} (hd : d < T.length) (hr : Reach L ks (T.take (d + 1)) c) (h1 : 1 ≤ c) (hp : ps[c]? = some p) :
    Reach L ks (T.take d) p ∧ lab L ks c = T.getD d 0 := by
  rw [take_snoc T d hd] at hr
  obtain ⟨i, hi, hri, hki⟩ := F.up hr
  obtain ⟨b, hkb⟩ := hk.2 c p h1 hp
  have := Full.kid_parent hki hkb
  subst this
  exact ⟨hri, ((F.kid_iff (F.reach_lt hri)).1 hki).2.2⟩
end
end Go.Proofs.Ytpnkjfjkeoleaaa.LD
