/- Plain mathematics of the code of louds: the reference's list of nodes is the trie's. Nothing of the program. No conditions beyond those each theorem names. -/
import Derived.Test.YtpnkjfjkeoleaaaGLdW
set_option linter.unusedVariables false
set_option maxRecDepth 100000
namespace Go.Proofs.Ytpnkjfjkeoleaaa.LD

/-- The order of nodes, as spans. -/
def Lt2 (x y : Span) : Prop := x.d < y.d ∨ (x.d = y.d ∧ x.t ≤ y.f)
section
variable {L : List Str} {ks : List (List Span)} (F : Full L ks)
include F
/-- A node other than the root, with its parent. -/
theorem Full.par {c : Nat} {y : Span} (h1 : 1 ≤ c) (hy : (allOf L ks)[c]? = some y) : ∃ i z xs j, i < c ∧ (allOf L ks)[i]? = some z ∧ ks[i]? = some xs ∧ IsKids L z xs ∧ xs[j]? = some y ∧ c = 1 + off ks i + j ∧ y.d = z.d + 1 ∧ z.f ≤ y.f ∧ y.t ≤ z.t ∧ y.f < y.t := by
  obtain ⟨i, xs, j, g1, g2, g3, g4, g5⟩ := F.parent h1 (F.lt hy)
  obtain ⟨z, xs', k1, k2, k3, k4, _, _, _, k5⟩ := F.node g2
  rw [g3] at k2; injection k2 with k2; subst k2
  have k6 := k5 j g4
  rw [← g5, hy] at k6
  have hm := Chain.mem k3 y (List.mem_of_getElem? k6.symm)
  have hst := start_ge L z
  exact ⟨i, z, xs, j, g1, k1, g3, k3, k6.symm, g5, hm.1.dep, by omega, hm.2.2, hm.1.lt⟩
theorem Full.lt2 : ∀ (n : Nat) {c c' : Nat} {x y : Span}, c' < n → c < c' → (allOf L ks)[c]? = some x → (allOf L ks)[c']? = some y → Lt2 x y
  | 0, _, _, _, _, h, _, _, _ => by omega
  | n + 1, c, c', x, y, hn, hlt, hx, hy => by
    obtain ⟨i', z', xs', j', a1, a2, a3, a4, a5, a6, a7, a8, a9, _⟩ := F.par (by omega) hy
    rcases Nat.eq_zero_or_pos c with h0 | h0
    · subst h0
      rw [F.root] at hx; injection hx with hx; subst hx
      left; simp [LD.root]; omega
    · obtain ⟨i, z, xs, j, b1, b2, b3, b4, b5, b6, b7, b8, b9, _⟩ := F.par h0 hx
      have hj := (List.getElem?_eq_some_iff.1 b5).1
      have hj' := (List.getElem?_eq_some_iff.1 a5).1
      rcases Nat.lt_trichotomy i i' with h | h | h
      · rcases Full.lt2 n (by omega) h b2 a2 with h3 | h3
        · left; omega
        · right; omega
      · subst h
        rw [b3] at a3; injection a3 with a3; subst a3
        rw [b2] at a2; injection a2 with a2; subst a2
        have := Chain.sorted b4 b5 a5 (by omega)
        right; omega
      · have h3 := off_le (ks := ks) (show i' + 1 ≤ i from h)
        have h4 := off_succ a3
        omega
end
/-- The order of nodes, as strings. -/
def LtN (a b : Str) : Prop := a.length < b.length ∨ (a.length = b.length ∧ ltS a b = true)
theorem LtN.irrefl (a : Str) : ¬ LtN a a := by
  rintro (h | h)
  · omega
  · rw [ltS_irrefl] at h; exact absurd h.2 (by decide)
theorem LtN.trans {a b c : Str} (h : LtN a b) (k : LtN b c) : LtN a c := by
  rcases h with h | h <;> rcases k with k | k
  · left; omega
  · left; omega
  · left; omega
  · right; exact ⟨by omega, ltS_trans h.2 k.2⟩
theorem ltS_take : ∀ (d : Nat) (a b : Str), ltS a b = true → a.take d = b.take d ∨ ltS (a.take d) (b.take d) = true
  | 0, a, b, _ => by simp
  | d + 1, a, [], h => by rw [ltS_nil] at h; cases h
  | d + 1, [], b :: y, h => by right; rfl
  | d + 1, a :: x, b :: y, h => by
    simp only [ltS] at h
    simp only [List.take_succ_cons, ltS]
    by_cases e1 : a < b
    · right; rw [if_pos e1]
    · rw [if_neg e1] at h
      by_cases e2 : a = b
      · subst e2
        rw [if_pos rfl] at h
        rcases ltS_take d x y h with h1 | h1
        · left; rw [h1]
        · right; rw [if_neg e1, if_pos rfl, h1]
      · rw [if_neg e2] at h; cases h
section
variable {L : List Str} {ks : List (List Span)} (F : Full L ks)
include F
theorem Full.ltN {c c' : Nat} {x y : Span} (hlt : c < c') (hx : (allOf L ks)[c]? = some x) (hy : (allOf L ks)[c']? = some y) : LtN (str L x) (str L y) := by
  have ox := F.ok hx
  have oy := F.ok hy
  obtain ⟨_, _, _, _, _, _, _, _, _, _, _, _, _, hyt⟩ := F.par (by omega) hy
  have hyl := oy.le
  rcases F.lt2 (c' + 1) (by omega) hlt hx hy with h | ⟨h1, h2⟩
  · left; rw [ox.strlen, oy.strlen]; exact h
  · right
    refine ⟨by rw [ox.strlen, oy.strlen]; exact h1, ?_⟩
    have hxt : x.f < x.t := by
      rcases ox.ne with h3 | ⟨_, _, _, h3⟩
      · exact h3
      · rw [h3] at hyl; simp at hyl; omega
    have h3 := F.good.asc x.f y.f (by omega) (by omega)
    have ey : str L y = (at_ L y.f).take x.d := by unfold str; rw [h1]
    rw [ey]
    rcases ltS_take x.d _ _ h3 with h4 | h4
    · exfalso
      have h5 := ox.out y.f (by omega) (by rw [h1]; exact (oy.pre y.f (Nat.le_refl _) hyt).1) (by rw [← h4]; rfl)
      omega
    · exact h4
omit F in
theorem pairwise_at {α : Type} {R : α → α → Prop} {l : List α} (h : ∀ (i j : Nat) (x y : α), i < j → l[i]? = some x → l[j]? = some y → R x y) : l.Pairwise R := by
  rw [List.pairwise_iff_getElem]
  intro i j hi hj hij
  exact h i j _ _ hij (List.getElem?_eq_getElem hi) (List.getElem?_eq_getElem hj)
theorem Full.sorted : ((allOf L ks).map (str L)).Pairwise LtN := by
  refine pairwise_at (fun i j a b hij ha hb => ?_)
  rw [List.getElem?_map] at ha hb
  obtain ⟨x, hx, rfl⟩ := Option.map_eq_some_iff.1 ha
  obtain ⟨y, hy, rfl⟩ := Option.map_eq_some_iff.1 hb
  exact F.ltN hij hx hy
theorem Full.mem_all {p : Str} : p ∈ (allOf L ks).map (str L) ↔ p = [] ∨ ∃ k, k < L.length ∧ p.length ≤ (at_ L k).length ∧ (at_ L k).take p.length = p := by
  constructor
  · intro h
    obtain ⟨x, hx, rfl⟩ := List.mem_map.1 h
    obtain ⟨i, hi, e⟩ := List.getElem_of_mem hx
    exact F.back (i := i) ⟨x, by rw [List.getElem?_eq_getElem hi, e], rfl⟩
  · intro h
    have : ∃ i, Reach L ks p i := by
      rcases h with rfl | ⟨k, h1, h2, h3⟩
      · exact ⟨0, F.reach0⟩
      · obtain ⟨i, hi⟩ := F.reaches h1 _ h2
        rw [h3] at hi
        exact ⟨i, hi⟩
    obtain ⟨i, x, hx, e⟩ := this
    exact List.mem_map.2 ⟨x, List.mem_of_getElem? hx, e⟩
end
theorem sorted_ext {α : Type} {R : α → α → Prop} (hi : ∀ a, ¬ R a a) (ht : ∀ {a b c}, R a b → R b c → R a c) : ∀ (l m : List α), l.Pairwise R → m.Pairwise R → (∀ x, x ∈ l ↔ x ∈ m) → l = m
  | [], [], _, _, _ => rfl
  | [], b :: m, _, _, h => by have := (h b).2 (by simp); simp at this
  | a :: l, [], _, _, h => by have := (h a).1 (by simp); simp at this
  | a :: l, b :: m, hl, hm, h => by
    rw [List.pairwise_cons] at hl hm
    have e : a = b := by
      have h1 := (h a).1 (by simp)
      have h2 := (h b).2 (by simp)
      rcases List.mem_cons.1 h1 with h1 | h1
      · exact h1
      · rcases List.mem_cons.1 h2 with h2 | h2
        · exact h2.symm
        · exact absurd (ht (hl.1 b h2) (hm.1 a h1)) (hi a)
    subst e
    congr 1
    refine sorted_ext hi ht l m hl.2 hm.2 (fun x => ?_)
    have hx := h x
    simp only [List.mem_cons] at hx
    constructor
    · intro h1
      rcases hx.1 (.inr h1) with h2 | h2
      · subst h2; exact absurd (hl.1 x h1) (hi x)
      · exact h2
    · intro h1
      rcases hx.2 (.inr h1) with h2 | h2
      · subst h2; exact absurd (hm.1 x h1) (hi x)
      · exact h2

/-! The reference's levels. -/
def levelTo (L : List Str) (n : Nat) : Nat → List Str
  | 0 => []
  | i + 1 => if n ≤ (at_ L i).length ∧ (levelTo L n i).getLast? ≠ some ((at_ L i).take n) then levelTo L n i ++ [(at_ L i).take n] else levelTo L n i
def level (L : List Str) (n : Nat) : List Str := levelTo L n L.length
def nodesTo (L : List Str) : Nat → List Str
  | 0 => [[]]
  | n + 1 => nodesTo L n ++ level L (n + 1)
def nodes (L : List Str) : List Str := nodesTo L 256
theorem levelTo_mem (L : List Str) (n : Nat) : ∀ (i : Nat) (p : Str), p ∈ levelTo L n i ↔ ∃ k, k < i ∧ n ≤ (at_ L k).length ∧ p = (at_ L k).take n
  | 0, p => by simp [levelTo]
  | i + 1, p => by
    have ih := levelTo_mem L n i p
    simp only [levelTo]
    split
    · rename_i h
      rw [List.mem_append, ih]
      constructor
      · rintro (⟨k, h1, h2, h3⟩ | h1)
        · exact ⟨k, by omega, h2, h3⟩
        · exact ⟨i, by omega, h.1, by simpa using h1⟩
      · rintro ⟨k, h1, h2, h3⟩
        rcases Nat.eq_or_lt_of_le (show k ≤ i by omega) with e | e
        · subst e; right; simp [h3]
        · left; exact ⟨k, e, h2, h3⟩
    · rename_i h
      rw [ih]
      constructor
      · rintro ⟨k, h1, h2, h3⟩
        exact ⟨k, by omega, h2, h3⟩
      · rintro ⟨k, h1, h2, h3⟩
        rcases Nat.eq_or_lt_of_le (show k ≤ i by omega) with e | e
        · subst e
          have h4 : (levelTo L n k).getLast? = some ((at_ L k).take n) := by
            by_cases h5 : (levelTo L n k).getLast? = some ((at_ L k).take n)
            · exact h5
            · exact absurd ⟨h2, h5⟩ h
          have h5 := List.mem_of_getLast? h4
          rw [← h3] at h5
          exact ih.1 h5
        · exact ⟨k, e, h2, h3⟩
theorem levelTo_len {L : List Str} {n i : Nat} {p : Str} (h : p ∈ levelTo L n i) : p.length = n := by
  obtain ⟨k, _, h2, rfl⟩ := (levelTo_mem L n i p).1 h
  rw [List.length_take]; omega
theorem levelTo_sorted {L : List Str} (hg : Good L) (n : Nat) : ∀ i, i ≤ L.length → (levelTo L n i).Pairwise LtN
  | 0, _ => by simp [levelTo]
  | i + 1, h => by
    have ih := levelTo_sorted hg n i (by omega)
    simp only [levelTo]
    split
    · rename_i h1
      rw [List.pairwise_append]
      refine ⟨ih, by simp, fun a ha b hb => ?_⟩
      rw [List.mem_singleton] at hb
      subst hb
      have hne : a ≠ (at_ L i).take n := by
        intro e
        subst e
        -- the last element is not this one, but lies behind it or is it
        rcases List.eq_nil_or_concat (levelTo L n i) with h2 | ⟨o, z, h2⟩
        · rw [h2] at ha; simp at ha
        · rw [List.concat_eq_append] at h2
          rw [h2] at ha h1 ih
          have hz : z ≠ (at_ L i).take n := by
            intro e; apply h1.2; rw [List.getLast?_append]; simp [e]
          rw [List.mem_append, List.mem_singleton] at ha
          rcases ha with ha | ha
          · have h3 := (List.pairwise_append.1 ih).2.2 _ ha z (by simp)
            have h4 : z ∈ levelTo L n i := by rw [h2]; simp
            obtain ⟨k, k1, k2, k3⟩ := (levelTo_mem L n i z).1 h4
            rcases ltS_take n _ _ (hg.asc k i k1 (by omega)) with h5 | h5
            · exact hz (by rw [k3, h5])
            · rw [← k3] at h5
              refine LtN.irrefl z (LtN.trans (b := (at_ L i).take n) (.inr ⟨?_, h5⟩) h3)
              rw [k3, List.length_take, List.length_take]
              omega
          · exact hz ha.symm
      obtain ⟨k, k1, k2, k3⟩ := (levelTo_mem L n i a).1 ha
      right
      subst k3
      refine ⟨by rw [List.length_take, List.length_take]; omega, ?_⟩
      rcases ltS_take n _ _ (hg.asc k i k1 (by omega)) with h5 | h5
      · exact absurd h5 hne
      · exact h5
    · exact ih
theorem nodesTo_len {L : List Str} {p : Str} : ∀ {n : Nat}, p ∈ nodesTo L n → p.length ≤ n
  | 0, h => by simp [nodesTo] at h; simp [h]
  | n + 1, h => by
    simp only [nodesTo, List.mem_append] at h
    rcases h with h | h
    · have := nodesTo_len h; omega
    · have := levelTo_len h; omega
theorem nodesTo_sorted {L : List Str} (hg : Good L) : ∀ n, (nodesTo L n).Pairwise LtN
  | 0 => by simp [nodesTo]
  | n + 1 => by
    simp only [nodesTo]
    rw [List.pairwise_append]
    refine ⟨nodesTo_sorted hg n, levelTo_sorted hg (n + 1) _ (Nat.le_refl _), fun a ha b hb => .inl ?_⟩
    have h1 := nodesTo_len ha
    have h2 := levelTo_len hb
    omega
theorem nodesTo_mem {L : List Str} {p : Str} : ∀ (n : Nat), p ∈ nodesTo L n ↔ p = [] ∨ (p.length ≤ n ∧ ∃ k, k < L.length ∧ p.length ≤ (at_ L k).length ∧ (at_ L k).take p.length = p)
  | 0 => by
    simp only [nodesTo, List.mem_singleton]
    constructor
    · intro h; exact .inl h
    · rintro (h | ⟨h, _⟩)
      · exact h
      · exact List.eq_nil_of_length_eq_zero (by omega)
  | n + 1 => by
    simp only [nodesTo, List.mem_append, nodesTo_mem n]
    unfold level
    rw [levelTo_mem]
    constructor
    · rintro ((h | ⟨h, h2⟩) | ⟨k, h1, h2, h3⟩)
      · exact .inl h
      · exact .inr ⟨by omega, h2⟩
      · have hl : p.length = n + 1 := by rw [h3, List.length_take]; omega
        exact .inr ⟨by omega, k, h1, by omega, by rw [hl]; exact h3.symm⟩
    · rintro (h | ⟨h, k, h1, h2, h3⟩)
      · exact .inl (.inl h)
      · rcases Nat.lt_or_ge p.length (n + 1) with h4 | h4
        · exact .inl (.inr ⟨by omega, k, h1, h2, h3⟩)
        · have hl : p.length = n + 1 := by omega
          exact .inr ⟨k, h1, by omega, by rw [← hl]; exact h3.symm⟩
/-- The reference's nodes are the trie's. -/
theorem Full.nodes {L : List Str} {ks : List (List Span)} (F : Full L ks) : LD.nodes L = (allOf L ks).map (str L) := by
  refine sorted_ext LtN.irrefl LtN.trans _ _ (nodesTo_sorted F.good 256) F.sorted (fun p => ?_)
  unfold LD.nodes
  rw [nodesTo_mem, F.mem_all]
  constructor
  · rintro (h | ⟨_, h⟩)
    · exact .inl h
    · exact .inr h
  · rintro (h | ⟨k, h1, h2, h3⟩)
    · exact .inl h
    · exact .inr ⟨by have := (F.good.lenAt h1).2; omega, k, h1, h2, h3⟩
section
variable {L : List Str} {ks : List (List Span)} (F : Full L ks)
include F
/-- Whose child a later node is. -/
theorem Full.next_iff {i c : Nat} {x y : Span} (hx : (allOf L ks)[i]? = some x) (hy : (allOf L ks)[c]? = some y) (h1 : 1 + off ks i ≤ c) : (str L y).dropLast = str L x ↔ c < 1 + off ks (i + 1) := by
  have hne : str L y ≠ [] := by
    obtain ⟨_, _, _, _, _, _, _, _, _, _, h7, _⟩ := F.par (by omega) hy
    intro e
    have := (F.ok hy).strlen
    rw [e] at this
    simp at this
    omega
  have hsp := List.dropLast_concat_getLast hne
  obtain ⟨i0, hi0, hr, hk⟩ := F.up (c := c) (p := (str L y).dropLast) (b := (str L y).getLast hne) ⟨y, hy, by rw [hsp]⟩
  constructor
  · intro e
    rw [e] at hr
    have := F.same hr ⟨x, hx, rfl⟩
    subst this
    exact ((F.kid_iff (F.lt hx)).1 hk).2.1
  · intro h
    have hk2 := (F.kid_iff (b := lab L ks c) (F.lt hx)).2 ⟨h1, h, rfl⟩
    obtain ⟨y', hy', e⟩ := F.kid_reach ⟨x, hx, rfl⟩ hk2
    rw [hy] at hy'; injection hy' with hy'; subst hy'
    rw [e]; simp
theorem Full.last_lab {c : Nat} {y : Span} (h1 : 1 ≤ c) (hy : (allOf L ks)[c]? = some y) : ∃ p, str L y = p ++ [lab L ks c] := by
  obtain ⟨i, z, xs, j, b1, b2, b3, b4, b5, b6, b7, b8, b9, _⟩ := F.par h1 hy
  refine ⟨str L z, ?_⟩
  rw [lab_of hy]
  exact kid_label F.good (F.ok b2) b4 (List.mem_of_getElem? b5)
end
end Go.Proofs.Ytpnkjfjkeoleaaa.LD
