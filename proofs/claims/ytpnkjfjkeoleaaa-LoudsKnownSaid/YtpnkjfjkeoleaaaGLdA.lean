/- GLdA: several texts in one: Plain mathematics of tries: strings in order, the spans of a trie while it is built, and how many there are. Nothing of the program. No conditions beyond those each theorem names. Plain mathematics of tries: nodes level by level. Nothing of the program. No conditions beyond those each theorem names. Conditions: those each theorem names. -/

/-! Plain mathematics of tries: strings in order, the spans of a trie while it is built, and how many there are. Nothing of the program. No conditions beyond those each theorem names. -/
set_option linter.unusedVariables false
set_option maxRecDepth 100000
namespace Go.Proofs.Ytpnkjfjkeoleaaa.LD

abbrev Str := List Nat
/-- a < b, byte by byte. -/
def ltS : Str → Str → Bool
  | _, [] => false
  | [], _ :: _ => true
  | a :: x, b :: y => if a < b then true else if a = b then ltS x y else false
theorem ltS_nil (a : Str) : ltS a [] = false := by cases a <;> rfl
theorem ltS_irrefl : ∀ a : Str, ltS a a = false
  | [] => rfl
  | a :: x => by simp [ltS, ltS_irrefl x]
theorem ltS_trans : ∀ {a b c : Str}, ltS a b = true → ltS b c = true → ltS a c = true
  | a, b, [], _, h2 => by rw [ltS_nil] at h2; cases h2
  | a, [], c :: z, h1, _ => by rw [ltS_nil] at h1; cases h1
  | [], b :: y, c :: z, _, _ => rfl
  | a :: x, b :: y, c :: z, h1, h2 => by
    simp only [ltS] at *
    by_cases e1 : a < b
    · by_cases e2 : b < c
      · rw [if_pos (by omega)]
      · rw [if_neg e2] at h2
        by_cases e3 : b = c
        · rw [if_pos (by omega)]
        · rw [if_neg e3] at h2; cases h2
    · rw [if_neg e1] at h1
      by_cases e4 : a = b
      · rw [if_pos e4] at h1
        by_cases e2 : b < c
        · rw [if_pos (by omega)]
        · rw [if_neg e2] at h2
          by_cases e3 : b = c
          · rw [if_pos e3] at h2
            rw [if_neg (by omega), if_pos (by omega)]
            exact ltS_trans h1 h2
          · rw [if_neg e3] at h2; cases h2
      · rw [if_neg e4] at h1; cases h1
theorem ltS_total : ∀ {a b : Str}, a ≠ b → ltS a b = true ∨ ltS b a = true
  | [], [], h => absurd rfl h
  | [], _ :: _, _ => .inl rfl
  | _ :: _, [], _ => .inr rfl
  | a :: x, b :: y, h => by
    simp only [ltS]
    by_cases e1 : a < b
    · left; rw [if_pos e1]
    · by_cases e2 : a = b
      · subst e2
        rw [if_neg e1, if_pos rfl, if_neg e1, if_pos rfl]
        exact ltS_total (fun e => h (by rw [e]))
      · right; rw [if_pos (by omega)]
theorem ltS_ne {a b : Str} (h : ltS a b = true) : a ≠ b := by
  rintro rfl
  rw [ltS_irrefl] at h; cases h
theorem ltS_drop : ∀ (d : Nat) (a b : Str), a.take d = b.take d → ltS a b = ltS (a.drop d) (b.drop d)
  | 0, a, b, _ => by simp
  | d + 1, [], [], _ => by simp
  | d + 1, [], b :: y, h => by simp at h
  | d + 1, a :: x, [], h => by simp at h
  | d + 1, a :: x, b :: y, h => by
    simp only [List.take_succ_cons, List.cons.injEq] at h
    obtain ⟨rfl, h⟩ := h
    simp only [ltS, List.drop_succ_cons, Nat.lt_irrefl, if_false, if_true]
    exact ltS_drop d x y h

def at_ (L : List Str) (j : Nat) : Str := L.getD j []
def byte (L : List Str) (j d : Nat) : Nat := (at_ L j).getD d 0
theorem at_of {L : List Str} {j : Nat} {s : Str} (h : L[j]? = some s) : at_ L j = s := by simp [at_, List.getD_eq_getElem?_getD, h]
theorem at_get {L : List Str} {j : Nat} (h : j < L.length) : L[j]? = some (at_ L j) := by
  rw [List.getElem?_eq_getElem h]
  simp [at_, List.getD_eq_getElem?_getD, List.getElem?_eq_getElem h]
/-- Strictly ascending. -/
def Asc (L : List Str) : Prop := ∀ i j, i < j → j < L.length → ltS (at_ L i) (at_ L j) = true
theorem asc_of_steps {L : List Str} (h : ∀ i, i + 1 < L.length → ltS (at_ L i) (at_ L (i + 1)) = true) : Asc L := by
  intro i j
  induction j with
  | zero => intro h; omega
  | succ j ih =>
    intro hij hj
    by_cases e : i = j
    · subst e; exact h i hj
    · exact ltS_trans (ih (by omega) (by omega)) (h j hj)
/-- The strings of a set. -/
structure Good (L : List Str) : Prop where
  asc : Asc L
  few : L.length ≤ 20000
  len : ∀ s ∈ L, 1 ≤ s.length ∧ s.length ≤ 256
  byt : ∀ s ∈ L, ∀ v ∈ s, v < 256
theorem Good.lenAt {L : List Str} (h : Good L) {j : Nat} (hj : j < L.length) : 1 ≤ (at_ L j).length ∧ (at_ L j).length ≤ 256 :=
  h.len _ (List.mem_of_getElem? (at_get hj))

structure Span where
  f : Nat
  t : Nat
  d : Nat
/-- The string of a node. -/
def str (L : List Str) (x : Span) : Str := (at_ L x.f).take x.d
structure Ok (L : List Str) (x : Span) : Prop where
  le : x.t ≤ L.length
  ne : x.f < x.t ∨ (x.f = 0 ∧ x.t = 0 ∧ x.d = 0 ∧ L = [])
  pre : ∀ j, x.f ≤ j → j < x.t → x.d ≤ (at_ L j).length ∧ (at_ L j).take x.d = str L x
  out : ∀ j, j < L.length → x.d ≤ (at_ L j).length → (at_ L j).take x.d = str L x → x.f ≤ j ∧ j < x.t
def root (L : List Str) : Span := ⟨0, L.length, 0⟩
theorem root_ok (L : List Str) : Ok L (root L) where
  le := Nat.le_refl _
  ne := by
    cases L with
    | nil => right; simp [root]
    | cons a l => left; simp [root]
  pre := fun j _ _ => by simp [root, str]
  out := fun j h _ _ => ⟨Nat.zero_le _, h⟩
def isAt (L : List Str) (x : Span) : Bool := decide (x.f < x.t) && decide ((at_ L x.f).length = x.d)
def start (L : List Str) (x : Span) : Nat := if isAt L x then x.f + 1 else x.f
/-- Strings behind the first one of a span are longer than its node. -/
theorem Ok.longer {L : List Str} (hg : Good L) {x : Span} (h : Ok L x) {j : Nat} (h1 : x.f < j) (h2 : j < x.t) : x.d < (at_ L j).length := by
  have hp := h.pre j (by omega) h2
  have hf := h.pre x.f (Nat.le_refl _) (by omega)
  rcases Nat.lt_or_ge x.d (at_ L j).length with hl | hl
  · exact hl
  · exfalso
    have hlt := hg.asc x.f j h1 (by have := h.le; omega)
    rw [ltS_drop x.d _ _ (by rw [hf.2, hp.2]), List.drop_of_length_le hl, ltS_nil] at hlt
    cases hlt
theorem Ok.longer' {L : List Str} (hg : Good L) {x : Span} (h : Ok L x) {j : Nat} (h1 : start L x ≤ j) (h2 : j < x.t) : x.d < (at_ L j).length := by
  unfold start at h1
  cases hi : isAt L x with
  | true => rw [hi, if_pos rfl] at h1; exact h.longer hg (by omega) h2
  | false =>
    rw [hi] at h1
    simp only [Bool.false_eq_true, if_false] at h1
    rcases Nat.eq_or_lt_of_le h1 with e | e
    · subst e
      have hp := (h.pre x.f (Nat.le_refl _) h2).1
      simp only [isAt, h2, decide_true, Bool.true_and, decide_eq_false_iff_not] at hi
      omega
    · exact h.longer hg e h2
theorem drop_cons (a : Str) (d : Nat) (h : d < a.length) : a.drop d = a.getD d 0 :: a.drop (d + 1) := by
  rw [List.getD_eq_getElem?_getD, List.getElem?_eq_getElem h, Option.getD_some, ← List.drop_eq_getElem_cons h]
theorem take_snoc (a : Str) (d : Nat) (h : d < a.length) : a.take (d + 1) = a.take d ++ [a.getD d 0] := by
  rw [List.take_succ_eq_append_getElem h, List.getD_eq_getElem?_getD, List.getElem?_eq_getElem h]; rfl
/-- The next byte does not fall. -/
theorem Ok.mono {L : List Str} (hg : Good L) {x : Span} (h : Ok L x) {i j : Nat} (h0 : start L x ≤ i) (h1 : i ≤ j) (h2 : j < x.t) : byte L i x.d ≤ byte L j x.d := by
  rcases Nat.eq_or_lt_of_le h1 with e | e
  · subst e; exact Nat.le_refl _
  · have hs : x.f ≤ start L x := by unfold start; split <;> omega
    have li := h.longer' hg h0 (by omega)
    have lj := h.longer' hg (by omega : start L x ≤ j) h2
    have pi := (h.pre i (by omega) (by omega)).2
    have pj := (h.pre j (by omega) h2).2
    have hlt := hg.asc i j e (by have := h.le; omega)
    rw [ltS_drop x.d _ _ (by rw [pi, pj]), drop_cons _ _ li, drop_cons _ _ lj] at hlt
    simp only [ltS] at hlt
    unfold byte
    split at hlt
    · omega
    · split at hlt
      · omega
      · cases hlt

/-- One child while children are found: the strings from s.f to s.t have the same next byte, and the next string another one. -/
structure Seg (L : List Str) (d T : Nat) (s : Span) : Prop where
  dep : s.d = d + 1
  lt : s.f < s.t
  le : s.t ≤ T
  same : ∀ j, s.f ≤ j → j < s.t → byte L j d = byte L s.f d
  stop : s.t < T → byte L s.t d ≠ byte L s.f d
def Chain (L : List Str) (d T : Nat) : Nat → Nat → List Span → Prop
  | i, e, [] => i = e
  | i, e, s :: xs => s.f = i ∧ Seg L d T s ∧ Chain L d T s.t e xs
theorem Chain.snoc {L : List Str} {d T : Nat} {s : Span} (hs : Seg L d T s) : ∀ {xs : List Span} {i e : Nat}, Chain L d T i e xs → s.f = e → Chain L d T i s.t (xs ++ [s])
  | [], i, e, h, he => by
    have h0 : i = e := h
    subst h0
    exact ⟨he, hs, rfl⟩
  | x :: xs, i, e, h, he => ⟨h.1, h.2.1, Chain.snoc hs h.2.2 he⟩
theorem Chain.le {L : List Str} {d T : Nat} : ∀ {xs : List Span} {i e : Nat}, Chain L d T i e xs → i + xs.length ≤ e
  | [], i, e, h => by have : i = e := h; simp; omega
  | x :: xs, i, e, h => by
    have h1 := h.2.1.lt
    have h2 := h.1
    have h3 := Chain.le h.2.2
    simp only [List.length_cons]; omega
theorem Chain.mem {L : List Str} {d T : Nat} : ∀ {xs : List Span} {i e : Nat}, Chain L d T i e xs → ∀ s ∈ xs, Seg L d T s ∧ i ≤ s.f ∧ s.t ≤ e
  | [], i, e, h, s, hs => by cases hs
  | x :: xs, i, e, h, s, hs => by
    rcases List.mem_cons.1 hs with rfl | hs
    · exact ⟨h.2.1, by have := h.1; omega, by have := Chain.le h.2.2; omega⟩
    · have h1 := Chain.mem h.2.2 s hs
      have h2 := h.2.1.lt
      have h3 := h.1
      exact ⟨h1.1, by omega, h1.2.2⟩
theorem Chain.cover {L : List Str} {d T : Nat} : ∀ {xs : List Span} {i e : Nat}, Chain L d T i e xs → ∀ j, i ≤ j → j < e → ∃ s ∈ xs, s.f ≤ j ∧ j < s.t
  | [], i, e, h, j, h1, h2 => by have : i = e := h; omega
  | x :: xs, i, e, h, j, h1, h2 => by
    by_cases hj : j < x.t
    · exact ⟨x, by simp, by have := h.1; omega, hj⟩
    · obtain ⟨s, hs, h3⟩ := Chain.cover h.2.2 j (by omega) h2
      exact ⟨s, by simp [hs], h3⟩
/-- The children of a node. -/
def IsKids (L : List Str) (x : Span) (xs : List Span) : Prop := Chain L x.d x.t (start L x) x.t xs
theorem start_ge (L : List Str) (x : Span) : x.f ≤ start L x := by unfold start; split <;> omega
theorem start_le {L : List Str} {x : Span} (h : Ok L x) : start L x ≤ x.t := by
  unfold start
  split
  · rename_i hi
    simp only [isAt, Bool.and_eq_true, decide_eq_true_eq] at hi
    omega
  · have := h.ne; omega
/-- Strings of earlier children have lesser bytes. -/
theorem chain_left {L : List Str} (hg : Good L) {x : Span} (h : Ok L x) : ∀ {xs : List Span} {i e : Nat}, start L x ≤ i → e ≤ x.t → Chain L x.d x.t i e xs → ∀ s ∈ xs, ∀ j, i ≤ j → j < s.f → byte L j x.d < byte L s.f x.d
  | [], i, e, _, _, _, s, hs, _, _, _ => by cases hs
  | y :: xs, i, e, h0, he, hc, s, hs, j, h1, h2 => by
    have hy := hc.2.1
    have hyf := hc.1
    have hlt := hy.lt
    rcases List.mem_cons.1 hs with rfl | hs
    · omega
    · have hm := Chain.mem hc.2.2 s hs
      have hst := hm.1.lt
      rcases Nat.lt_or_ge j y.t with hj | hj
      · have e1 := hy.same j (by omega) hj
        have e2 := hy.stop (by omega)
        have e3 := h.mono hg (by omega : start L x ≤ y.f) (Nat.le_of_lt hlt) (by omega : y.t < x.t)
        have e4 := h.mono hg (by omega : start L x ≤ y.t) hm.2.1 (by omega : s.f < x.t)
        omega
      · exact chain_left hg h (by omega) he hc.2.2 s hs j hj h2
theorem seg_ok {L : List Str} (hg : Good L) {x : Span} (h : Ok L x) {s : Span} (hs : Seg L x.d x.t s) (h1 : start L x ≤ s.f) (hleft : ∀ j, start L x ≤ j → j < s.f → byte L j x.d < byte L s.f x.d) :
    Ok L s ∧ str L s = str L x ++ [byte L s.f x.d] ∧ x.d < (at_ L s.f).length := by
  have hlt := hs.lt
  have hle := hs.le
  have hst := start_ge L x
  have hlen : x.d < (at_ L s.f).length := h.longer' hg h1 (by omega)
  have hstr : str L s = str L x ++ [byte L s.f x.d] := by
    unfold str
    rw [hs.dep, take_snoc _ _ hlen]
    congr 1
    exact (h.pre s.f (by omega) (by omega)).2
  refine ⟨⟨by have := h.le; omega, .inl hlt, fun j j1 j2 => ?_, fun j j0 j1 j2 => ?_⟩, hstr, hlen⟩
  · have lj := h.longer' hg (by omega : start L x ≤ j) (by omega)
    rw [hs.dep]
    refine ⟨lj, ?_⟩
    rw [take_snoc _ _ lj, hstr, (h.pre j (by omega) (by omega)).2]
    congr 2
    exact hs.same j j1 j2
  · rw [hs.dep] at j1 j2
    have lj : x.d < (at_ L j).length := by omega
    rw [take_snoc _ _ lj, hstr] at j2
    have j3 := List.append_inj' j2 rfl
    have hin := h.out j j0 (by omega) j3.1
    have hb : byte L j x.d = byte L s.f x.d := by simpa [byte] using j3.2
    have hsj : start L x ≤ j := by
      unfold start
      split
      · rename_i hi
        simp only [isAt, Bool.and_eq_true, decide_eq_true_eq] at hi
        rcases Nat.eq_or_lt_of_le hin.1 with e | e
        · rw [← e] at lj; omega
        · exact e
      · exact hin.1
    refine ⟨?_, ?_⟩
    · rcases Nat.lt_or_ge j s.f with hlt' | hge
      · exfalso
        have := hleft j hsj hlt'
        omega
      · exact hge
    · rcases Nat.lt_or_ge j s.t with hlt' | hge
      · exact hlt'
      · exfalso
        have h5 := hs.stop (by omega)
        have h6 := h.mono hg h1 (Nat.le_of_lt hlt) (by omega : s.t < x.t)
        have h7 := h.mono hg (by omega : start L x ≤ s.t) hge hin.2
        omega
theorem kid_ok {L : List Str} (hg : Good L) {x : Span} (h : Ok L x) {xs : List Span} (hk : IsKids L x xs) {s : Span} (hs : s ∈ xs) :
    Ok L s ∧ str L s = str L x ++ [byte L s.f x.d] ∧ x.d < (at_ L s.f).length ∧ s.d = x.d + 1 ∧ s.f < s.t := by
  have hm := Chain.mem hk s hs
  have := seg_ok hg h hm.1 hm.2.1 (chain_left hg h (Nat.le_refl _) (Nat.le_refl _) hk s hs)
  exact ⟨this.1, this.2.1, this.2.2, hm.1.dep, hm.1.lt⟩

/-! How many nodes. -/
def com : Str → Str → Nat
  | a :: x, b :: y => if a = b then com x y + 1 else 0
  | _, _ => 0
theorem com_eq : ∀ (d : Nat) (a b : Str), a.take d = b.take d → d ≤ a.length → d ≤ b.length → (a.length = d ∨ a.getD d 0 ≠ b.getD d 0) → (d < b.length) → com a b = d
  | 0, [], b, _, _, _, _, _ => by cases b <;> rfl
  | 0, a :: x, [], _, _, _, _, h => by simp at h
  | 0, a :: x, b :: y, _, _, _, h, _ => by
    have : a ≠ b := by
      rcases h with h | h
      · simp at h
      · simpa using h
    simp [com, this]
  | d + 1, [], _, _, h, _, _, _ => by simp at h
  | d + 1, _ :: _, [], _, _, h, _, _ => by simp at h
  | d + 1, a :: x, b :: y, h, h1, h2, h3, h4 => by
    simp only [List.take_succ_cons, List.cons.injEq] at h
    obtain ⟨rfl, h⟩ := h
    simp only [com, if_true]
    rw [com_eq d x y h (by simpa using h1) (by simpa using h2) (by simpa using h3) (by simpa using h4)]
theorem com_le : ∀ (a b : Str), com a b ≤ b.length
  | [], b => by simp [com]
  | _ :: _, [] => by simp [com]
  | a :: x, b :: y => by
    have := com_le x y
    simp only [com, List.length_cons]
    split <;> omega
def cost (L : List Str) (i : Nat) : Nat := (at_ L i).length - com (at_ L (i - 1)) (at_ L i)
/-- The costs from i on, n of them. -/
def costs (L : List Str) (i : Nat) : Nat → Nat
  | 0 => 0
  | n + 1 => cost L i + costs L (i + 1) n
theorem costs_add (L : List Str) : ∀ (n i m : Nat), costs L i (n + m) = costs L i n + costs L (i + n) m
  | 0, i, m => by simp [costs]
  | n + 1, i, m => by
    rw [show n + 1 + m = (n + m) + 1 by omega]
    simp only [costs]
    rw [costs_add L n (i + 1) m, show i + 1 + n = i + (n + 1) by omega]
    omega
/-- How many nodes a span has below it, and itself. -/
def wt (L : List Str) (x : Span) : Nat := if x.f < x.t then 1 + ((at_ L x.f).length - x.d) + costs L (x.f + 1) (x.t - x.f - 1) else 1
theorem wt_pos (L : List Str) (x : Span) : 1 ≤ wt L x := by unfold wt; split <;> omega
def wts (L : List Str) (xs : List Span) : Nat := (xs.map (wt L)).sum
theorem chain_wt {L : List Str} (hg : Good L) {x : Span} (h : Ok L x) : ∀ {xs : List Span} {i : Nat}, start L x ≤ i → i < x.t → Chain L x.d x.t i x.t xs → wts L xs = ((at_ L i).length - x.d) + costs L (i + 1) (x.t - i - 1)
  | [], i, _, h1, hc => by have : i = x.t := hc; omega
  | s :: xs, i, h0, h1, hc => by
    obtain ⟨rfl, hs, hc⟩ := hc
    have hlt := hs.lt
    have hle := hs.le
    have hlen := h.longer' hg h0 h1
    have hst := start_ge L x
    have e1 : wt L s = ((at_ L s.f).length - x.d) + costs L (s.f + 1) (s.t - s.f - 1) := by
      unfold wt
      rw [if_pos hlt, hs.dep]
      omega
    have e2 : wts L (s :: xs) = wt L s + wts L xs := by simp [wts]
    rw [e2, e1]
    rcases Nat.eq_or_lt_of_le hle with e | e
    · have : xs = [] := by
        cases xs with
        | nil => rfl
        | cons y ys => have := Chain.le hc; simp at this; omega
      subst this
      rw [e]
      simp [wts]
    · rw [chain_wt hg h (by omega) e hc]
      have hb := hs.stop e
      have hc1 : com (at_ L (s.t - 1)) (at_ L s.t) = x.d := by
        refine com_eq x.d _ _ ?_ ?_ ?_ (.inr ?_) (h.longer' hg (by omega) e)
        · rw [(h.pre (s.t - 1) (by omega) (by omega)).2, (h.pre s.t (by omega) e).2]
        · exact (h.pre (s.t - 1) (by omega) (by omega)).1
        · exact (h.pre s.t (by omega) e).1
        · have := hs.same (s.t - 1) (by omega) (by omega)
          unfold byte at this hb
          rw [this]
          exact fun e => hb e.symm
      have e3 : x.t - s.f - 1 = (s.t - s.f - 1) + ((x.t - s.t - 1) + 1) := by omega
      rw [e3, costs_add, show s.f + 1 + (s.t - s.f - 1) = s.t by omega]
      simp only [costs, cost]
      rw [hc1]
      omega
theorem kids_wt {L : List Str} (hg : Good L) {x : Span} (h : Ok L x) {xs : List Span} (hk : IsKids L x xs) : wt L x = 1 + wts L xs := by
  by_cases hne : x.f < x.t
  · have hwx : wt L x = 1 + ((at_ L x.f).length - x.d) + costs L (x.f + 1) (x.t - x.f - 1) := by unfold wt; rw [if_pos hne]
    rw [hwx]
    cases hi : isAt L x with
    | true =>
      have hs : start L x = x.f + 1 := by unfold start; rw [hi, if_pos rfl]
      have hl : (at_ L x.f).length = x.d := by simp only [isAt, Bool.and_eq_true, decide_eq_true_eq] at hi; exact hi.2
      by_cases h1 : x.f + 1 < x.t
      · rw [chain_wt hg h (by omega) (by omega : start L x < x.t) hk, hs]
        have hc1 : com (at_ L x.f) (at_ L (x.f + 1)) = x.d := by
          refine com_eq x.d _ _ ?_ (by omega) ?_ (.inl hl) (h.longer' hg (by omega) h1)
          · rw [(h.pre x.f (Nat.le_refl _) hne).2, (h.pre (x.f + 1) (by omega) h1).2]
          · exact (h.pre (x.f + 1) (by omega) h1).1
        rw [show x.t - x.f - 1 = (x.t - (x.f + 1) - 1) + 1 by omega]
        simp only [costs, cost, Nat.add_sub_cancel]
        rw [hc1]
        omega
      · have hx : xs = [] := by
          cases xs with
          | nil => rfl
          | cons y ys => have := Chain.le hk; simp at this; omega
        subst hx
        rw [show x.t - x.f - 1 = 0 by omega]
        simp [wts, costs]
        omega
    | false =>
      have hs : start L x = x.f := by unfold start; rw [hi]; simp
      rw [chain_wt hg h (by omega) (by omega : start L x < x.t) hk, hs]
      omega
  · have hx : xs = [] := by
      cases xs with
      | nil => rfl
      | cons y ys => have h1 := Chain.le hk; have h2 := start_ge L x; simp at h1; omega
    subst hx
    unfold wt
    rw [if_neg hne]
    rfl
end Go.Proofs.Ytpnkjfjkeoleaaa.LD

/-! Plain mathematics of tries: nodes level by level. Nothing of the program. No conditions beyond those each theorem names. -/
set_option linter.unusedVariables false
namespace Go.Proofs.Ytpnkjfjkeoleaaa.LD

def allOf (L : List Str) (ks : List (List Span)) : List Span := root L :: ks.flatten
theorem allOf_snoc (L : List Str) (ks : List (List Span)) (xs : List Span) : allOf L (ks ++ [xs]) = allOf L ks ++ xs := by simp [allOf]
inductive Bfs (L : List Str) : List (List Span) → Prop
  | nil : Bfs L []
  | snoc {ks : List (List Span)} {x : Span} {xs : List Span} : Bfs L ks → (allOf L ks)[ks.length]? = some x → IsKids L x xs → Bfs L (ks ++ [xs])
theorem Bfs.ok {L : List Str} (hg : Good L) {ks : List (List Span)} (h : Bfs L ks) : ∀ x ∈ allOf L ks, Ok L x := by
  induction h with
  | nil =>
    intro x hx
    simp only [allOf, List.flatten_nil, List.mem_cons, List.not_mem_nil, or_false] at hx
    rw [hx]; exact root_ok L
  | snoc h hx hk ih =>
    intro y hy
    rw [allOf_snoc] at hy
    rcases List.mem_append.1 hy with hy | hy
    · exact ih y hy
    · exact (kid_ok hg (ih _ (List.mem_of_getElem? hx)) hk hy).1
theorem Bfs.len {L : List Str} {ks : List (List Span)} (h : Bfs L ks) : ks.length ≤ (allOf L ks).length := by
  induction h with
  | nil => simp [allOf]
  | snoc h hx hk ih =>
    have := (List.getElem?_eq_some_iff.1 hx).1
    rw [allOf_snoc]; simp; omega
theorem wts_append (L : List Str) (xs ys : List Span) : wts L (xs ++ ys) = wts L xs + wts L ys := by simp [wts]
theorem Bfs.wt {L : List Str} (hg : Good L) {ks : List (List Span)} (h : Bfs L ks) : ks.length + wts L ((allOf L ks).drop ks.length) = wt L (root L) := by
  induction h with
  | nil => simp [allOf, wts]
  | @snoc ks x xs h hx hk ih =>
    have hlt := (List.getElem?_eq_some_iff.1 hx).1
    have hxe := (List.getElem?_eq_some_iff.1 hx).2
    rw [allOf_snoc, List.length_append, List.length_cons, List.length_nil, Nat.zero_add, List.drop_append_of_le_length (by omega), wts_append]
    rw [List.drop_eq_getElem_cons hlt, hxe] at ih
    have e := kids_wt hg (h.ok hg x (List.mem_of_getElem? hx)) hk
    have e2 : wts L (x :: (allOf L ks).drop (ks.length + 1)) = LD.wt L x + wts L ((allOf L ks).drop (ks.length + 1)) := by simp [wts]
    omega
theorem wts_ge (L : List Str) : ∀ xs : List Span, xs.length ≤ wts L xs
  | [] => by simp [wts]
  | x :: xs => by
    have h1 := wts_ge L xs
    have h2 := wt_pos L x
    have e2 : wts L (x :: xs) = wt L x + wts L xs := by simp [wts]
    rw [e2, List.length_cons]; omega
/-- No more nodes than there are at the end. -/
theorem Bfs.few {L : List Str} (hg : Good L) {ks : List (List Span)} (h : Bfs L ks) : (allOf L ks).length ≤ LD.wt L (root L) := by
  have h1 := h.wt hg
  have h2 := wts_ge L ((allOf L ks).drop ks.length)
  have h3 := h.len
  rw [List.length_drop] at h2
  omega
theorem Bfs.full {L : List Str} (hg : Good L) {ks : List (List Span)} (h : Bfs L ks) (hl : ks.length = (allOf L ks).length) : (allOf L ks).length = LD.wt L (root L) := by
  have h1 := h.wt hg
  rw [List.drop_of_length_le (by omega)] at h1
  simp only [wts, List.map_nil, List.sum_nil] at h1
  omega
theorem costs_le (L : List Str) (hg : Good L) : ∀ (n i : Nat), i + n ≤ L.length → costs L i n ≤ 256 * n
  | 0, _, _ => by simp [costs]
  | n + 1, i, h => by
    have h1 := costs_le L hg n (i + 1) (by omega)
    have h2 := (hg.lenAt (by omega : i < L.length)).2
    simp only [costs, cost]
    omega
theorem wt_root_le {L : List Str} (hg : Good L) : wt L (root L) ≤ 5120001 := by
  unfold wt root
  have := hg.few
  split
  · rename_i h
    have h1 := costs_le L hg (L.length - 0 - 1) (0 + 1) (by simp only at h; omega)
    have h2 := (hg.lenAt (by simpa using h : 0 < L.length)).2
    simp only at h h1 ⊢
    omega
  · omega
end Go.Proofs.Ytpnkjfjkeoleaaa.LD
