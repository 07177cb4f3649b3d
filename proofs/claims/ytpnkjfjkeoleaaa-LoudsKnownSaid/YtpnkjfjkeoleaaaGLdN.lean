/- GLdN: several texts in one: Plain mathematics of tries: where the children of a node stand, and which node a string is. Nothing of the program. No conditions beyond those each theorem names. Plain mathematics of tries: the bits of the shape, the numbers of nodes, the strings under a node. Nothing of the program. No conditions beyond those each theorem names. Conditions: those each theorem names. -/
import Derived.Test.YtpnkjfjkeoleaaaLdBuild
import Derived.Test.YtpnkjfjkeoleaaaGBvR
/-! Plain mathematics of tries: where the children of a node stand, and which node a string is. Nothing of the program. No conditions beyond those each theorem names. -/
set_option linter.unusedVariables false
set_option maxRecDepth 100000
namespace Go.Proofs.Ytpnkjfjkeoleaaa.LD
open Go.RowKit

/-- How many children the nodes before i have. -/
def off (ks : List (List Span)) (i : Nat) : Nat := (ks.take i).flatten.length
theorem off_zero (ks : List (List Span)) : off ks 0 = 0 := by simp [off]
theorem off_succ {ks : List (List Span)} {i : Nat} {xs : List Span} (h : ks[i]? = some xs) : off ks (i + 1) = off ks i + xs.length := by
  unfold off
  rw [List.take_add_one, h]
  simp
theorem off_le {ks : List (List Span)} {i j : Nat} (h : i ≤ j) : off ks i ≤ off ks j := by
  unfold off
  rw [show ks.take i = (ks.take j).take i by rw [List.take_take, Nat.min_eq_left h]]
  conv => rhs; rw [← List.take_append_drop i (ks.take j)]
  rw [List.flatten_append, List.length_append]
  omega
theorem off_all (ks : List (List Span)) : off ks ks.length = ks.flatten.length := by simp [off]
theorem off_snoc {ks : List (List Span)} {ys : List Span} {i : Nat} (h : i ≤ ks.length) : off (ks ++ [ys]) i = off ks i := by
  unfold off
  rw [List.take_append_of_le_length h]
theorem flat_at : ∀ {ks : List (List Span)} {i j : Nat} {xs : List Span}, ks[i]? = some xs → j < xs.length → ks.flatten[off ks i + j]? = xs[j]?
  | [], i, j, xs, h, _ => by simp at h
  | y :: ks, 0, j, xs, h, hj => by
    simp only [List.getElem?_cons_zero, Option.some.injEq] at h
    subst h
    simp only [off, List.take_zero, List.flatten_nil, List.length_nil, Nat.zero_add, List.flatten_cons]
    exact List.getElem?_append_left hj
  | y :: ks, i + 1, j, xs, h, hj => by
    have ih := flat_at (ks := ks) (i := i) (j := j) (xs := xs) (by simpa using h) hj
    have e : off (y :: ks) (i + 1) = y.length + off ks i := by simp [off]
    rw [e, List.flatten_cons, Nat.add_assoc, List.getElem?_append_right (by omega), Nat.add_sub_cancel_left, ih]
theorem flat_find : ∀ {ks : List (List Span)} {k : Nat}, k < ks.flatten.length → ∃ i xs j, ks[i]? = some xs ∧ j < xs.length ∧ k = off ks i + j
  | [], k, h => by simp at h
  | y :: ks, k, h => by
    rcases Nat.lt_or_ge k y.length with h1 | h1
    · exact ⟨0, y, k, rfl, h1, by simp [off]⟩
    · rw [List.flatten_cons, List.length_append] at h
      obtain ⟨i, xs, j, h2, h3, h4⟩ := flat_find (ks := ks) (k := k - y.length) (by omega)
      refine ⟨i + 1, xs, j, by simpa using h2, h3, ?_⟩
      have e : off (y :: ks) (i + 1) = y.length + off ks i := by simp [off]
      omega
theorem Bfs.kids {L : List Str} {ks : List (List Span)} (h : Bfs L ks) : ∀ {i : Nat} {xs : List Span}, ks[i]? = some xs → ∃ x, (allOf L ks)[i]? = some x ∧ IsKids L x xs ∧ i ≤ off ks i := by
  induction h with
  | nil => intro i xs h; simp at h
  | @snoc ks x ys h hx hk ih =>
    intro i xs hi
    rw [allOf_snoc]
    rcases Nat.lt_or_ge i ks.length with h1 | h1
    · rw [List.getElem?_append_left h1] at hi
      obtain ⟨x', hx', hk', hle⟩ := ih hi
      have h2 := (List.getElem?_eq_some_iff.1 hx').1
      exact ⟨x', by rw [List.getElem?_append_left h2]; exact hx', hk', by rw [off_snoc (by omega)]; exact hle⟩
    · have h2 : i = ks.length := by
        rcases Nat.eq_or_lt_of_le h1 with e | e
        · exact e.symm
        · rw [List.getElem?_eq_none (by simp; omega)] at hi; cases hi
      subst h2
      rw [List.getElem?_append_right (Nat.le_refl _)] at hi
      simp only [Nat.sub_self, List.getElem?_cons_zero, Option.some.injEq] at hi
      subst hi
      have h3 := (List.getElem?_eq_some_iff.1 hx).1
      refine ⟨x, by rw [List.getElem?_append_left h3]; exact hx, hk, ?_⟩
      rw [off_snoc (Nat.le_refl _), off_all]
      have : (allOf L ks).length = 1 + ks.flatten.length := by simp [allOf]; omega
      omega

/-- All nodes have been seen. -/
structure Full (L : List Str) (ks : List (List Span)) : Prop where
  good : Good L
  bfs : Bfs L ks
  len : (allOf L ks).length = ks.length
  few : ks.length ≤ 524287
theorem Full.root {L : List Str} {ks : List (List Span)} (F : Full L ks) : (allOf L ks)[0]? = some (LD.root L) := by simp [allOf]
section
variable {L : List Str} {ks : List (List Span)} (F : Full L ks)
include F
theorem Full.flat : ks.flatten.length + 1 = ks.length := by
  have := F.len
  simp [allOf] at this ⊢
  omega
theorem Full.pos : 0 < ks.length := by have := F.flat; omega
theorem Full.offAll : 1 + off ks ks.length = ks.length := by rw [off_all]; have := F.flat; omega
/-- Node i, its children, and where they stand. -/
theorem Full.node {i : Nat} (hi : i < ks.length) : ∃ x xs, (allOf L ks)[i]? = some x ∧ ks[i]? = some xs ∧ IsKids L x xs ∧ Ok L x ∧ i ≤ off ks i ∧ off ks (i + 1) = off ks i + xs.length ∧ 1 + off ks (i + 1) ≤ ks.length ∧
    ∀ j, j < xs.length → (allOf L ks)[1 + off ks i + j]? = xs[j]? := by
  have hx := List.getElem?_eq_getElem hi
  obtain ⟨x, h1, h2, h3⟩ := F.bfs.kids hx
  refine ⟨x, _, h1, hx, h2, F.bfs.ok F.good x (List.mem_of_getElem? h1), h3, off_succ hx, ?_, fun j hj => ?_⟩
  · have h4 := off_le (ks := ks) (show i + 1 ≤ ks.length from hi)
    have h5 := F.offAll
    omega
  · have h4 := flat_at hx hj
    rw [show 1 + off ks i + j = (off ks i + j) + 1 by omega]
    unfold allOf
    rw [List.getElem?_cons_succ, h4]
theorem Full.parent {c : Nat} (h1 : 1 ≤ c) (hc : c < ks.length) : ∃ i xs j, i < c ∧ i < ks.length ∧ ks[i]? = some xs ∧ j < xs.length ∧ c = 1 + off ks i + j := by
  have h2 := F.flat
  obtain ⟨i, xs, j, h3, h4, h5⟩ := flat_find (ks := ks) (k := c - 1) (by omega)
  have hi := (List.getElem?_eq_some_iff.1 h3).1
  obtain ⟨x, hx, _, hle⟩ := F.bfs.kids h3
  exact ⟨i, xs, j, by omega, hi, h3, h4, by omega⟩
theorem Full.ok {i : Nat} {x : Span} (h : (allOf L ks)[i]? = some x) : Ok L x := F.bfs.ok F.good x (List.mem_of_getElem? h)
theorem Full.lt {i : Nat} {x : Span} (h : (allOf L ks)[i]? = some x) : i < ks.length := by
  have := (List.getElem?_eq_some_iff.1 h).1
  have := F.len
  omega
end

/-! Strings of nodes. -/
theorem Ok.strlen {L : List Str} {x : Span} (h : Ok L x) : (str L x).length = x.d := by
  unfold str
  rw [List.length_take]
  rcases h.ne with h1 | h1
  · have := (h.pre x.f (Nat.le_refl _) h1).1; omega
  · omega
theorem isAt_str {L : List Str} {x : Span} (h : isAt L x = true) : x.f < x.t ∧ at_ L x.f = str L x := by
  simp only [isAt, Bool.and_eq_true, decide_eq_true_eq] at h
  refine ⟨h.1, ?_⟩
  unfold str
  rw [← h.2, List.take_length]
/-- The string k of the set is a node's: the node is marked, and k is its first string. -/
theorem Ok.isAt_of {L : List Str} (hg : Good L) {x : Span} (h : Ok L x) {k : Nat} (hk : k < L.length) (e : at_ L k = str L x) : isAt L x = true ∧ x.f = k := by
  have hd := h.strlen
  have hl : (at_ L k).length = x.d := by rw [e, hd]
  have hin := h.out k hk (by omega) (by rw [← hl, List.take_length, e])
  have hf : x.f = k := by
    rcases Nat.eq_or_lt_of_le hin.1 with e1 | e1
    · exact e1
    · have := h.longer hg e1 hin.2; omega
  refine ⟨?_, hf⟩
  simp only [isAt, Bool.and_eq_true, decide_eq_true_eq]
  rw [hf]
  exact ⟨hin.2, hl⟩
theorem kid_label {L : List Str} (hg : Good L) {x : Span} (h : Ok L x) {xs : List Span} (hk : IsKids L x xs) {s : Span} (hs : s ∈ xs) : str L s = str L x ++ [labelOf L s] := by
  obtain ⟨_, h1, _, h2, _⟩ := kid_ok hg h hk hs
  rw [h1]
  unfold labelOf
  rw [h2, Nat.add_sub_cancel]
theorem Chain.sorted {L : List Str} {d T : Nat} : ∀ {xs : List Span} {i e : Nat}, Chain L d T i e xs → ∀ {j1 j2 : Nat} {s1 s2 : Span}, xs[j1]? = some s1 → xs[j2]? = some s2 → j1 < j2 → s1.t ≤ s2.f
  | [], i, e, h, j1, j2, s1, s2, h1, _, _ => by simp at h1
  | x :: xs, i, e, h, 0, j2 + 1, s1, s2, h1, h2, _ => by
    simp only [List.getElem?_cons_zero, Option.some.injEq] at h1
    subst h1
    rw [List.getElem?_cons_succ] at h2
    exact (Chain.mem h.2.2 s2 (List.mem_of_getElem? h2)).2.1
  | x :: xs, i, e, h, j1 + 1, 0, s1, s2, _, _, h3 => by omega
  | x :: xs, i, e, h, 0, 0, s1, s2, _, _, h3 => by omega
  | x :: xs, i, e, h, j1 + 1, j2 + 1, s1, s2, h1, h2, h3 => by
    rw [List.getElem?_cons_succ] at h1 h2
    exact Chain.sorted h.2.2 h1 h2 (by omega)
/-- The labels of children ascend. -/
theorem kids_asc {L : List Str} (hg : Good L) {x : Span} (h : Ok L x) {xs : List Span} (hk : IsKids L x xs) {j1 j2 : Nat} {s1 s2 : Span} (h1 : xs[j1]? = some s1) (h2 : xs[j2]? = some s2) (hlt : j1 < j2) : labelOf L s1 < labelOf L s2 := by
  have m1 := Chain.mem hk s1 (List.mem_of_getElem? h1)
  have m2 := Chain.mem hk s2 (List.mem_of_getElem? h2)
  have h3 := Chain.sorted hk h1 h2 hlt
  have h4 := chain_left hg h (Nat.le_refl _) (Nat.le_refl _) hk s2 (List.mem_of_getElem? h2) s1.f m1.2.1 (by have := m1.1.lt; omega)
  unfold labelOf
  rw [m1.1.dep, m2.1.dep, Nat.add_sub_cancel]
  exact h4
/-- A string of the set that goes on behind a node goes on through a child. -/
theorem kids_cover {L : List Str} (hg : Good L) {x : Span} (h : Ok L x) {xs : List Span} (hk : IsKids L x xs) {k : Nat} {b : Nat} (hkn : k < L.length) (hd : x.d < (at_ L k).length) (e : (at_ L k).take (x.d + 1) = str L x ++ [b]) :
    ∃ (j : Nat) (s : Span), xs[j]? = some s ∧ labelOf L s = b := by
  rw [take_snoc _ _ hd] at e
  have e1 := List.append_inj' e rfl
  have hb : byte L k x.d = b := by simpa [byte] using e1.2
  have hin := h.out k hkn (by omega) e1.1
  have hst : start L x ≤ k := by
    unfold start
    split
    · rename_i hi
      simp only [isAt, Bool.and_eq_true, decide_eq_true_eq] at hi
      rcases Nat.eq_or_lt_of_le hin.1 with e2 | e2
      · rw [← e2] at hd; omega
      · exact e2
    · exact hin.1
  obtain ⟨s, hs, h1, h2⟩ := Chain.cover hk k hst hin.2
  have hm := Chain.mem hk s hs
  obtain ⟨j, hj, hj2⟩ := List.getElem_of_mem hs
  refine ⟨j, s, by rw [List.getElem?_eq_getElem hj, hj2], ?_⟩
  unfold labelOf
  rw [hm.1.dep, Nat.add_sub_cancel, ← hm.1.same k h1 h2, hb]

/-- Node i is the string p. -/
def Reach (L : List Str) (ks : List (List Span)) (p : Str) (i : Nat) : Prop := ∃ x, (allOf L ks)[i]? = some x ∧ str L x = p
section
variable {L : List Str} {ks : List (List Span)} (F : Full L ks)
include F
theorem Full.reach0 : Reach L ks [] 0 := ⟨_, F.root, by simp [str, LD.root]⟩
/-- The child of node i with a label. -/
def Kid1 (L : List Str) (ks : List (List Span)) (i b c : Nat) : Prop := ∃ xs j s, ks[i]? = some xs ∧ xs[j]? = some s ∧ labelOf L s = b ∧ c = 1 + off ks i + j
theorem Full.kid_reach {i b c : Nat} {p : Str} (h : Reach L ks p i) (hc : Kid1 L ks i b c) : Reach L ks (p ++ [b]) c := by
  obtain ⟨x, hx, rfl⟩ := h
  obtain ⟨xs, j, s, h1, h2, rfl, rfl⟩ := hc
  obtain ⟨x', xs', g1, g2, g3, g4, _, _, _, g5⟩ := F.node (F.lt hx)
  rw [hx] at g1; injection g1 with g1; subst g1
  rw [h1] at g2; injection g2 with g2; subst g2
  have hj := (List.getElem?_eq_some_iff.1 h2).1
  exact ⟨s, by rw [g5 j hj, h2], kid_label F.good g4 g3 (List.mem_of_getElem? h2)⟩
theorem Full.up {c : Nat} {p : Str} {b : Nat} (h : Reach L ks (p ++ [b]) c) : ∃ i, i < c ∧ Reach L ks p i ∧ Kid1 L ks i b c := by
  obtain ⟨s, hs, e⟩ := h
  have h1 : 1 ≤ c := by
    rcases Nat.eq_zero_or_pos c with h0 | h0
    · subst h0
      rw [F.root] at hs; injection hs with hs; subst hs
      simp [str, LD.root] at e
    · exact h0
  obtain ⟨i, xs, j, g1, g2, g3, g4, g5⟩ := F.parent h1 (F.lt hs)
  obtain ⟨x, xs', k1, k2, k3, k4, _, _, _, k5⟩ := F.node g2
  rw [g3] at k2; injection k2 with k2; subst k2
  have k6 := k5 j g4
  rw [← g5, hs] at k6
  have k7 := kid_label F.good k4 k3 (List.mem_of_getElem? k6.symm)
  rw [e] at k7
  have k8 := List.append_inj' k7 rfl
  have k9 : b = labelOf L s := by simpa using k8.2
  exact ⟨i, g1, ⟨x, k1, k8.1.symm⟩, xs, j, s, g3, k6.symm, k9.symm, g5⟩
theorem Full.kid_same {i b c c' : Nat} (h : Kid1 L ks i b c) (h' : Kid1 L ks i b c') : c = c' := by
  obtain ⟨xs, j, s, h1, h2, h3, rfl⟩ := h
  obtain ⟨xs', j', s', h1', h2', h3', rfl⟩ := h'
  rw [h1] at h1'; injection h1' with h1'; subst h1'
  obtain ⟨x, xs', k1, k2, k3, k4, _⟩ := F.node ((List.getElem?_eq_some_iff.1 h1).1)
  rw [h1] at k2; injection k2 with k2; subst k2
  rcases Nat.lt_trichotomy j j' with h | h | h
  · have := kids_asc F.good k4 k3 h2 h2' h; omega
  · rw [h]
  · have := kids_asc F.good k4 k3 h2' h2 h; omega
/-- A string is at most one node. -/
theorem Full.uniq : ∀ {n : Nat} {p : Str} {i j : Nat}, p.length = n → Reach L ks p i → Reach L ks p j → i = j
  | 0, p, i, j, hn, h1, h2 => by
    have z : ∀ {i}, Reach L ks p i → i = 0 := by
      intro i hi
      rcases Nat.eq_zero_or_pos i with h0 | h0
      · exact h0
      · obtain ⟨s, hs, e⟩ := hi
        obtain ⟨i', xs, k, g1, g2, g3, g4, g5⟩ := F.parent h0 (F.lt hs)
        obtain ⟨x, xs', k1, k2, k3, k4, _, _, _, k5⟩ := F.node g2
        rw [g3] at k2; injection k2 with k2; subst k2
        have k6 := k5 k g4
        rw [← g5, hs] at k6
        have k7 := kid_label F.good k4 k3 (List.mem_of_getElem? k6.symm)
        rw [e] at k7
        rw [k7] at hn
        simp at hn
    rw [z h1, z h2]
  | n + 1, p, i, j, hn, h1, h2 => by
    obtain ⟨q, b, rfl⟩ : ∃ q b, p = q ++ [b] := ⟨p.dropLast, p.getLast (by intro e; simp [e] at hn), (List.dropLast_concat_getLast _).symm⟩
    obtain ⟨i', _, a1, a2⟩ := F.up h1
    obtain ⟨j', _, b1, b2⟩ := F.up h2
    have := Full.uniq (n := n) (by simpa using hn) a1 b1
    subst this
    exact F.kid_same a2 b2
theorem Full.same {p : Str} {i j : Nat} (h1 : Reach L ks p i) (h2 : Reach L ks p j) : i = j := F.uniq rfl h1 h2
/-- Every beginning of a string of the set is a node. -/
theorem Full.reaches {k : Nat} (hk : k < L.length) : ∀ d, d ≤ (at_ L k).length → ∃ i, Reach L ks ((at_ L k).take d) i
  | 0, _ => ⟨0, by simpa using F.reach0⟩
  | d + 1, h => by
    obtain ⟨i, x, hx, e⟩ := Full.reaches hk d (by omega)
    obtain ⟨x', xs, g1, g2, g3, g4, _⟩ := F.node (F.lt hx)
    rw [hx] at g1; injection g1 with g1; subst g1
    have hd : x.d = d := by rw [← g4.strlen, e, List.length_take]; omega
    obtain ⟨j, s, h1, h2⟩ := kids_cover F.good g4 g3 (b := (at_ L k).getD d 0) hk (by omega) (by rw [hd, e]; exact take_snoc _ _ (by omega))
    refine ⟨1 + off ks i + j, ?_⟩
    rw [take_snoc _ _ (by omega)]
    exact F.kid_reach ⟨x, hx, e⟩ ⟨xs, j, s, g2, h1, h2, rfl⟩
/-- A node other than the root is a beginning of a string. -/
theorem Full.back {p : Str} {i : Nat} (h : Reach L ks p i) : p = [] ∨ ∃ k, k < L.length ∧ p.length ≤ (at_ L k).length ∧ (at_ L k).take p.length = p := by
  obtain ⟨x, hx, rfl⟩ := h
  have ho := F.ok hx
  rcases ho.ne with h1 | ⟨_, _, h1, _⟩
  · right
    refine ⟨x.f, by have := ho.le; omega, ?_⟩
    rw [ho.strlen]
    exact ⟨(ho.pre x.f (Nat.le_refl _) h1).1, rfl⟩
  · left
    simp [str, h1]
theorem Full.kid_of {i b : Nat} {p : Str} (h : Reach L ks p i) {c : Nat} (hc : Reach L ks (p ++ [b]) c) : Kid1 L ks i b c := by
  obtain ⟨i', _, h1, h2⟩ := F.up hc
  rw [F.same h h1]
  exact h2
theorem Full.reach_lt {p : Str} {i : Nat} (h : Reach L ks p i) : i < ks.length := by
  obtain ⟨x, hx, _⟩ := h
  exact F.lt hx
theorem Full.reach_len {p : Str} {i : Nat} (h : Reach L ks p i) : p.length ≤ 256 := by
  rcases F.back h with rfl | ⟨k, h1, h2, _⟩
  · simp
  · have := F.good.lenAt h1; omega
end
end Go.Proofs.Ytpnkjfjkeoleaaa.LD

/-! Plain mathematics of tries: the bits of the shape, the numbers of nodes, the strings under a node. Nothing of the program. No conditions beyond those each theorem names. -/
set_option linter.unusedVariables false
namespace Go.Proofs.Ytpnkjfjkeoleaaa.LD
open Go.RowKit HK
open Go.Proofs.Ytpnkjfjkeoleaaa.B (rk rk_zero rk_at rk_sum SelAt)

theorem rk_take (l : List Bool) (b : Bool) : ∀ k, k ≤ l.length → rk (bitsN l) b k = (l.take k).count b
  | 0, _ => by rw [rk_zero]; simp
  | k + 1, h => by
    have hk := List.getElem?_eq_getElem (show k < l.length by omega)
    rw [rk_at l b k _ hk, rk_take l b k (by omega), List.take_add_one, hk, List.count_append]
    congr 1
def bodyOf (ks : List (List Span)) : List Bool := ks.flatMap fun xs => xs.map (fun _ => true) ++ [false]
theorem shapeOf_split (ks : List (List Span)) (k : Nat) : shapeOf ks = shapeOf (ks.take k) ++ bodyOf (ks.drop k) := by
  unfold shapeOf bodyOf
  rw [List.append_assoc, ← List.flatMap_append, List.take_append_drop]
theorem shape_len (ks : List (List Span)) : (shapeOf ks).length = 2 + ks.flatten.length + ks.length := by
  have := shapeOf_len [] ks
  simp only [allOf, List.length_cons] at this
  omega
theorem count_true (xs : List Span) (b : Bool) : (xs.map fun _ => true).count b = if b then xs.length else 0 := by
  induction xs with
  | nil => cases b <;> rfl
  | cons x xs ih =>
    rw [List.map_cons, List.count_cons, ih]
    cases b <;> simp
theorem body_count : ∀ (ks : List (List Span)) (b : Bool), (bodyOf ks).count b = if b then ks.flatten.length else ks.length
  | [], b => by cases b <;> rfl
  | xs :: ks, b => by
    have ih := body_count ks b
    unfold bodyOf at ih ⊢
    rw [List.flatMap_cons, List.count_append, List.count_append, count_true, ih]
    cases b <;> simp; omega
theorem shape_count (ks : List (List Span)) (b : Bool) : (shapeOf ks).count b = if b then 1 + ks.flatten.length else 1 + ks.length := by
  have h := body_count ks b
  unfold bodyOf at h
  unfold shapeOf
  rw [List.count_append, h]
  cases b <;> simp
theorem shape_last (ks : List (List Span)) : ∃ l, shapeOf ks = l ++ [false] := by
  rcases List.eq_nil_or_concat ks with rfl | ⟨ks', xs, rfl⟩
  · exact ⟨[true], rfl⟩
  · exact ⟨_, by rw [List.concat_eq_append, shapeOf_snoc]⟩
/-- The place of the false bit k. -/
def pl (ks : List (List Span)) (k : Nat) : Nat := 1 + off ks k + k
theorem shape_take {ks : List (List Span)} {k : Nat} (h : k ≤ ks.length) : (shapeOf ks).take (pl ks k + 1) = shapeOf (ks.take k) := by
  have hl := shape_len (ks.take k)
  rw [List.length_take, Nat.min_eq_left h] at hl
  rw [shapeOf_split ks k, List.take_append_of_le_length (by rw [hl]; unfold pl off; omega), List.take_of_length_le (by rw [hl]; unfold pl off; omega)]
theorem pl_lt {ks : List (List Span)} {k : Nat} (h : k ≤ ks.length) : pl ks k < (shapeOf ks).length := by
  have h1 := off_le (ks := ks) h
  rw [off_all] at h1
  rw [shape_len]; unfold pl; omega
theorem shape_rk {ks : List (List Span)} {k : Nat} (h : k ≤ ks.length) (b : Bool) : rk (bitsN (shapeOf ks)) b (pl ks k + 1) = if b then 1 + off ks k else 1 + k := by
  rw [rk_take _ _ _ (pl_lt h), shape_take h, shape_count, List.length_take, Nat.min_eq_left h]
  rfl
theorem shape_false {ks : List (List Span)} {k : Nat} (h : k ≤ ks.length) : (shapeOf ks)[pl ks k]? = some false := by
  obtain ⟨l, hl⟩ := shape_last (ks.take k)
  have h1 := shape_take h
  rw [hl] at h1
  have h2 : l.length = pl ks k := by
    have := congrArg List.length h1
    rw [List.length_take, Nat.min_eq_left (pl_lt h), List.length_append] at this
    simpa using this.symm
  rw [← List.getElem?_take_of_lt (show pl ks k < pl ks k + 1 by omega), h1, ← h2]
  simp
theorem sel_false {ks : List (List Span)} {k : Nat} (h : k ≤ ks.length) : SelAt (bitsN (shapeOf ks)) (shapeOf ks).length false k (pl ks k : Nat) := by
  refine .inr ⟨pl ks k, rfl, pl_lt h, ?_, ?_⟩
  · have h1 := shape_rk h false
    rw [rk_at _ false _ _ (shape_false h)] at h1
    simp at h1
    omega
  · rw [shape_rk h false]; simp; omega
theorem shape_kid {ks : List (List Span)} {i j : Nat} {xs : List Span} (h : ks[i]? = some xs) (hj : j < xs.length) :
    (shapeOf ks).take (pl ks i + 1 + j) = shapeOf (ks.take i) ++ (xs.take j).map (fun _ => true) ∧ (shapeOf ks)[pl ks i + 1 + j]? = some true := by
  have hi := (List.getElem?_eq_some_iff.1 h).1
  have hl := shape_len (ks.take i)
  rw [List.length_take, Nat.min_eq_left (by omega)] at hl
  have hl' : (shapeOf (ks.take i)).length = pl ks i + 1 := by rw [hl]; unfold pl off; omega
  have hd : ks.drop i = xs :: ks.drop (i + 1) := by
    rw [List.drop_eq_getElem_cons hi]
    congr 1
    exact (List.getElem?_eq_some_iff.1 h).2
  have hb : bodyOf (ks.drop i) = xs.map (fun _ => true) ++ ([false] ++ bodyOf (ks.drop (i + 1))) := by
    rw [hd]; unfold bodyOf; rw [List.flatMap_cons, List.append_assoc]
  rw [shapeOf_split ks i, hb]
  constructor
  · rw [List.take_append, hl', List.take_of_length_le (by omega), show pl ks i + 1 + j - (pl ks i + 1) = j by omega, List.take_append_of_le_length (by simp; omega), List.map_take]
  · rw [List.getElem?_append_right (by omega), hl', show pl ks i + 1 + j - (pl ks i + 1) = j by omega, List.getElem?_append_left (by simpa using hj), List.getElem?_map, List.getElem?_eq_getElem hj]
    rfl
/-- The true bit of a child: its place, and its parent. -/
theorem sel_true {ks : List (List Span)} {i j : Nat} {xs : List Span} (h : ks[i]? = some xs) (hj : j < xs.length) :
    SelAt (bitsN (shapeOf ks)) (shapeOf ks).length true (1 + off ks i + j : Nat) (pl ks i + 1 + j : Nat) ∧ rk (bitsN (shapeOf ks)) false (pl ks i + 1 + j) = i + 1 := by
  obtain ⟨h1, h2⟩ := shape_kid h hj
  have hi := (List.getElem?_eq_some_iff.1 h).1
  have hlt := (List.getElem?_eq_some_iff.1 h2).1
  have hr : ∀ b, rk (bitsN (shapeOf ks)) b (pl ks i + 1 + j) = if b then 1 + off ks i + j else i + 1 := by
    intro b
    rw [rk_take _ _ _ (by omega), h1, List.count_append, shape_count, count_true, List.length_take, List.length_take, Nat.min_eq_left (by omega), Nat.min_eq_left (by omega)]
    cases b
    · simp; omega
    · simp [off]
  refine ⟨.inr ⟨_, rfl, hlt, by rw [hr]; simp, ?_⟩, by rw [hr]; simp⟩
  rw [rk_at _ true _ _ h2, hr]
  simp

/-! Numbers. -/
theorem filter_at {α : Type} (f : α → Bool) : ∀ (l : List α) (i : Nat) (x : α), l[i]? = some x → f x = true → (l.filter f)[((l.take i).map f).count true]? = some x
  | [], i, x, h, _ => by simp at h
  | y :: l, 0, x, h, hf => by
    simp only [List.getElem?_cons_zero, Option.some.injEq] at h
    subst h
    simp [hf]
  | y :: l, i + 1, x, h, hf => by
    rw [List.getElem?_cons_succ] at h
    have ih := filter_at f l i x h hf
    rw [List.take_succ_cons, List.map_cons, List.count_cons]
    cases hy : f y with
    | true => rw [List.filter_cons_of_pos (by simp [hy])]; simpa using ih
    | false => rw [List.filter_cons_of_neg (by simp [hy])]; simpa using ih
theorem ids_at {L : List Str} {al : List Span} {i : Nat} {x : Span} (h : al[i]? = some x) (hx : isAt L x = true) : (idsOf L al)[rk (bitsN (al.map (isAt L))) true i]? = some x.f := by
  have hi := (List.getElem?_eq_some_iff.1 h).1
  rw [rk_take _ _ _ (by simp; omega), ← List.map_take]
  unfold idsOf
  rw [List.getElem?_map, filter_at _ _ _ _ h hx]
  rfl
theorem is_at {L : List Str} {al : List Span} {i : Nat} {x : Span} (h : al[i]? = some x) : (bitsN (al.map (isAt L))).testBit i = isAt L x := by
  apply B.bit_at
  rw [List.getElem?_map, h]; rfl
theorem nod_keep (L : List Str) (k : Nat) : ∀ (ps : List (Span × Nat)) (a : Array Value), (∀ p ∈ ps, isAt L p.1 = true → p.1.f ≠ k) → (ps.foldl (nodStep L) a)[k]? = a[k]?
  | [], a, _ => rfl
  | p :: ps, a, h => by
    rw [List.foldl_cons, nod_keep L k ps _ (fun q hq => h q (by simp [hq]))]
    unfold nodStep
    split
    · rename_i hp
      have := h p (by simp) hp
      rw [Array.getElem?_setIfInBounds_ne this]
    · rfl
theorem nod_size (L : List Str) : ∀ (ps : List (Span × Nat)) (a : Array Value), (ps.foldl (nodStep L) a).size = a.size
  | [], a => rfl
  | p :: ps, a => by
    rw [List.foldl_cons, nod_size L ps]
    unfold nodStep
    split <;> simp
theorem nodStep_pos (L : List Str) (a : Array Value) (p : Span × Nat) (h : isAt L p.1 = true) : nodStep L a p = a.setIfInBounds p.1.f (.int .i64 (p.2 : Nat)) := by unfold nodStep; rw [if_pos h]
theorem nod_at {L : List Str} {n : Nat} {al : List Span} {i : Nat} {x : Span} (h : al[i]? = some x) (hx : isAt L x = true) (hn : x.f < n) (hone : ∀ j y, al[j]? = some y → isAt L y = true → y.f = x.f → j = i) :
    (nodA L n al)[x.f]? = some (.int .i64 (i : Nat)) := by
  have hi := (List.getElem?_eq_some_iff.1 h).1
  have hxe := (List.getElem?_eq_some_iff.1 h).2
  have hsp : al.zipIdx = (al.take i).zipIdx ++ (x, i) :: (al.drop (i + 1)).zipIdx (i + 1) := by
    conv => lhs; rw [← List.take_append_drop i al, List.zipIdx_append, List.length_take, Nat.min_eq_left (by omega), List.drop_eq_getElem_cons hi, hxe]
    simp
  unfold nodA
  rw [hsp, List.foldl_append, List.foldl_cons, nod_keep]
  · rw [nodStep_pos L _ _ hx, Array.getElem?_setIfInBounds_self_of_lt]
    rw [nod_size, size_madeCells]
    exact hn
  · rintro ⟨y, j⟩ hp hy he
    have hj := List.mem_zipIdx hp
    obtain ⟨hj1, hj2, hj3⟩ := hj
    rw [List.length_drop] at hj2
    have h2 : al[j]? = some y := by
      rw [hj3, List.getElem_drop, List.getElem?_eq_getElem (by omega)]
      congr 2
      omega
    have := hone j y h2 hy he
    omega
section
variable {L : List Str} {ks : List (List Span)} (F : Full L ks)
include F
theorem Full.nod {k : Nat} (hk : k < L.length) : ∃ i, Reach L ks (at_ L k) i ∧ (nodA L L.length (allOf L ks))[k]? = some (.int .i64 (i : Nat)) := by
  obtain ⟨i, hi⟩ := F.reaches hk _ (Nat.le_refl _)
  rw [List.take_length] at hi
  refine ⟨i, hi, ?_⟩
  obtain ⟨x, hx, e⟩ := hi
  obtain ⟨h1, h2⟩ := (F.ok hx).isAt_of F.good hk e.symm
  rw [← h2]
  refine nod_at hx h1 (by omega) (fun j y hy h3 h4 => ?_)
  refine F.same (p := at_ L k) ⟨y, hy, ?_⟩ ⟨x, hx, e⟩
  rw [← (isAt_str h3).2, h4, h2]
end

/-! Where a string stands in the set. -/
def idx (L : List Str) (p : Str) : Option Nat := L.findIdx? fun q => decide (q = p)
theorem idx_some {L : List Str} (hg : Good L) {k : Nat} {p : Str} (hk : k < L.length) (e : at_ L k = p) : idx L p = some k := by
  unfold idx
  rw [List.findIdx?_eq_some_iff_getElem]
  have h1 : L[k] = at_ L k := by have := at_get hk; rw [List.getElem?_eq_getElem hk] at this; injection this
  refine ⟨hk, by simp [h1, e], fun j hj => ?_⟩
  have hjl : j < L.length := by omega
  have h2 : L[j] = at_ L j := by have := at_get hjl; rw [List.getElem?_eq_getElem hjl] at this; injection this
  have h3 := ltS_ne (hg.asc j k hj hk)
  simp only [decide_eq_true_eq]
  rw [h2, ← e]
  exact h3
theorem idx_none {L : List Str} {p : Str} (h : ∀ k, k < L.length → at_ L k ≠ p) : idx L p = none := by
  unfold idx
  rw [List.findIdx?_eq_none_iff]
  intro q hq
  obtain ⟨k, hk, rfl⟩ := List.getElem_of_mem hq
  have h1 : L[k] = at_ L k := by have := at_get hk; rw [List.getElem?_eq_getElem hk] at this; injection this
  have := h k hk
  rw [h1]
  simp [this]
theorem idx_inv {L : List Str} {p : Str} {k : Nat} (h : idx L p = some k) : k < L.length ∧ at_ L k = p := by
  unfold idx at h
  obtain ⟨hk, h1, _⟩ := List.findIdx?_eq_some_iff_getElem.1 h
  refine ⟨hk, ?_⟩
  have h2 := at_get hk
  rw [List.getElem?_eq_getElem hk] at h2
  injection h2 with h2
  rw [← h2]
  simpa using h1
section
variable {L : List Str} {ks : List (List Span)} (F : Full L ks)
include F
theorem Full.idx_at {p : Str} {i : Nat} {x : Span} (hx : (allOf L ks)[i]? = some x) (e : str L x = p) : idx L p = if isAt L x then some x.f else none := by
  have ho := F.ok hx
  cases h : isAt L x with
  | true =>
    obtain ⟨h1, h2⟩ := isAt_str h
    exact idx_some F.good (by have := ho.le; omega) (by rw [h2, e])
  | false =>
    refine idx_none (fun k hk hek => ?_)
    have := (ho.isAt_of F.good hk (by rw [hek, e])).1
    rw [h] at this; cases this
theorem Full.idx_no {p : Str} (h : ∀ i, ¬ Reach L ks p i) : idx L p = none := by
  refine idx_none (fun k hk hek => ?_)
  obtain ⟨i, hi⟩ := F.reaches hk _ (Nat.le_refl _)
  rw [List.take_length, hek] at hi
  exact h i hi
/-- Behind a string that is no node there is none. -/
theorem Full.no_more {p q : Str} (h : ∀ i, ¬ Reach L ks p i) : ∀ i, ¬ Reach L ks (p ++ q) i := by
  intro i hi
  rcases F.back hi with e | ⟨k, h1, h2, h3⟩
  · have : p = [] := (List.append_eq_nil_iff.1 e).1
    subst this
    exact h 0 F.reach0
  · obtain ⟨j, hj⟩ := F.reaches h1 p.length (by rw [List.length_append] at h2; omega)
    have e : (at_ L k).take p.length = p := by
      have := congrArg (List.take p.length) h3
      rw [List.take_take, List.length_append, Nat.min_eq_left (by omega), List.take_left'] at this
      · exact this
      · rfl
    rw [e] at hj
    exact h j hj
end
/-- p begins q. -/
def pre (p q : Str) : Bool := decide (p.length ≤ q.length) && decide (q.take p.length = p)
def under (L : List Str) (p : Str) : List Nat := (List.range L.length).filter fun k => pre p (at_ L k)
theorem filter_range (n a b : Nat) (f : Nat → Bool) (hb : b ≤ n) (hab : a ≤ b) (h : ∀ k, k < n → (f k = true ↔ a ≤ k ∧ k < b)) : (List.range n).filter f = List.range' a (b - a) := by
  have e : List.range n = List.range' 0 a ++ (List.range' a (b - a) ++ List.range' b (n - b)) := by
    rw [List.range_eq_range']
    have h1 := List.range'_append (s := a) (m := b - a) (n := n - b) (step := 1)
    have h2 := List.range'_append (s := 0) (m := a) (n := n - a) (step := 1)
    simp only [Nat.one_mul, Nat.zero_add] at h1 h2
    rw [show a + (b - a) = b by omega, show b - a + (n - b) = n - a by omega] at h1
    rw [h1, h2, show a + (n - a) = n by omega]
  rw [e, List.filter_append, List.filter_append]
  rw [List.filter_eq_nil_iff.2, List.filter_eq_self.2, List.filter_eq_nil_iff.2]
  · simp
  · intro k hk
    have := List.mem_range'_1.1 hk
    have := h k (by omega)
    simp only [this]; omega
  · intro k hk
    have := List.mem_range'_1.1 hk
    exact (h k (by omega)).2 (by omega)
  · intro k hk
    have := List.mem_range'_1.1 hk
    have := h k (by omega)
    simp only [this]; omega
section
variable {L : List Str} {ks : List (List Span)} (F : Full L ks)
include F
theorem Full.under_at {p : Str} {i : Nat} {x : Span} (hx : (allOf L ks)[i]? = some x) (e : str L x = p) : under L p = List.range' x.f (x.t - x.f) := by
  have ho := F.ok hx
  have hd := ho.strlen
  rw [e] at hd
  refine filter_range _ _ _ _ ho.le (by have := ho.ne; omega) (fun k hk => ?_)
  unfold pre
  rw [Bool.and_eq_true, decide_eq_true_eq, decide_eq_true_eq, hd]
  constructor
  · rintro ⟨h1, h2⟩
    exact ho.out k hk h1 (by rw [h2, e])
  · rintro ⟨h1, h2⟩
    have := ho.pre k h1 h2
    exact ⟨this.1, by rw [this.2, e]⟩
theorem Full.under_no {p : Str} (h : ∀ i, ¬ Reach L ks p i) : under L p = [] := by
  unfold under
  rw [List.filter_eq_nil_iff]
  intro k hk hp
  rw [List.mem_range] at hk
  unfold pre at hp
  rw [Bool.and_eq_true, decide_eq_true_eq, decide_eq_true_eq] at hp
  obtain ⟨j, hj⟩ := F.reaches hk p.length hp.1
  rw [hp.2] at hj
  exact h j hj
end
end Go.Proofs.Ytpnkjfjkeoleaaa.LD
