/- Plain mathematics of grow: what a code's parts say of its trie. Nothing of the program. No conditions beyond those each theorem names. -/
import Derived.Test.YtpnkjfjkeoleaaaLgPlain
import Derived.Test.YtpnkjfjkeoleaaaGLdW
set_option linter.unusedVariables false
set_option maxRecDepth 100000
namespace Go.Proofs.Ytpnkjfjkeoleaaa.LD
open HK
open B (rk rk_zero rk_at getB)

theorem Tr.dep_le {ps ds : List Nat} (h : Tr ps ds) : ∀ (n c d : Nat), c < n → ds[c]? = some d → d ≤ c
  | 0, _, _, hn, _ => by omega
  | n + 1, c, d, hn, hc => by
    rcases Nat.eq_zero_or_pos c with h0 | h0
    · subst h0
      rw [h.zero] at hc; injection hc with hc; omega
    · have hl := (List.getElem?_eq_some_iff.1 hc).1
      obtain ⟨p, hp⟩ : ∃ p, ps[c]? = some p := ⟨_, List.getElem?_eq_getElem (by have := h.len; omega)⟩
      obtain ⟨h1, d', h2, h3⟩ := h.up c p h0 hp
      rw [h3] at hc; injection hc with hc
      have := Tr.dep_le h n p d' (by omega) h2
      omega
/-- The parts of a code, as they have been read. -/
structure CodeOf (n1 N1 n2 N2 : Nat) (lab lst : List Nat) (L : List Str) (ks : List (List Span)) : Prop where
  full : Full L ks
  s1 : n1 = (shapeOf ks).length
  s2 : N1 = bitsN (shapeOf ks)
  i1 : n2 = ks.length
  i2 : N2 = bitsN ((allOf L ks).map (isAt L))
  lb : lab = labsC L ks
  id : lst = idsOf L (allOf L ks)
theorem count_filter {α : Type} (f : α → Bool) : ∀ l : List α, (l.filter f).length = (l.map f).count true
  | [] => rfl
  | x :: l => by
    rw [List.map_cons, List.count_cons, ← count_filter f l]
    cases h : f x with
    | true => rw [List.filter_cons_of_pos (by simp [h])]; simp
    | false => rw [List.filter_cons_of_neg (by simp [h])]; simp
/-- Every string of the set has its number once. -/
theorem Full.ids_total {L : List Str} {ks : List (List Span)} (F : Full L ks) : (idsOf L (allOf L ks)).length = L.length := by
  have hnd : (idsOf L (allOf L ks)).Nodup := by
    unfold idsOf
    rw [List.nodup_iff_pairwise_ne, List.pairwise_map]
    have hp : (allOf L ks).Pairwise (fun a b => isAt L a = true → isAt L b = true → a.f ≠ b.f) := by
      refine pairwise_at (fun i j x y hij hx hy ha hb e => ?_)
      have := F.same (p := at_ L x.f) ⟨x, hx, (isAt_str ha).2.symm⟩ ⟨y, hy, by rw [e]; exact (isAt_str hb).2.symm⟩
      omega
    refine (hp.filter (isAt L)).imp_of_mem (fun {a b} ha hb h => h (List.mem_filter.1 ha).2 (List.mem_filter.1 hb).2)
  have hm : ∀ k, k ∈ idsOf L (allOf L ks) ↔ k ∈ List.range L.length := by
    intro k
    unfold idsOf
    rw [List.mem_map, List.mem_range]
    constructor
    · rintro ⟨x, hx, rfl⟩
      obtain ⟨h1, h2⟩ := List.mem_filter.1 hx
      obtain ⟨i, hi⟩ := List.getElem?_of_mem h1
      have := (isAt_str h2).1
      have := (F.ok hi).le
      omega
    · intro hk
      obtain ⟨i, hi⟩ := F.reaches hk _ (Nat.le_refl _)
      rw [List.take_length] at hi
      obtain ⟨x, hx, e⟩ := hi
      obtain ⟨h1, h2⟩ := (F.ok hx).isAt_of F.good hk e.symm
      exact ⟨x, List.mem_filter.2 ⟨List.mem_of_getElem? hx, h1⟩, h2⟩
  have hperm := (List.perm_ext_iff_of_nodup hnd List.nodup_range).2 hm
  rw [hperm.length_eq, List.length_range]
section
variable {n1 N1 n2 N2 : Nat} {lab lst : List Nat} {L : List Str} {ks : List (List Span)} (h : CodeOf n1 N1 n2 N2 lab lst L ks)
include h
theorem CodeOf.len : lst.length = L.length := by rw [h.id, h.full.ids_total]
theorem CodeOf.get (i : Nat) (v : Bool) (hi : (shapeOf ks)[i]? = some v) : getB N1 n1 (i : Nat) = v := by
  have hl := (List.getElem?_eq_some_iff.1 hi).1
  unfold getB
  rw [h.s1, h.s2, Int.toNat_natCast, B.bit_at _ _ _ hi]
  simp [hl]
theorem CodeOf.mark {i : Nat} {x : Span} (hx : (allOf L ks)[i]? = some x) : getB N2 n2 (i : Nat) = isAt L x := by
  have hl := h.full.lt hx
  unfold getB
  rw [h.i1, h.i2, Int.toNat_natCast, is_at hx]
  simp [hl]
theorem CodeOf.rank : rk N2 true n2 = lst.length := by
  rw [h.i2, h.i1, h.id]
  have hl : ((allOf L ks).map (isAt L)).length = ks.length := by rw [List.length_map, h.full.len]
  rw [rk_take _ _ _ (by rw [hl]; exact Nat.le_refl _), List.take_of_length_le (by rw [hl]; exact Nat.le_refl _)]
  unfold idsOf
  rw [List.length_map, count_filter]
end
theorem shape_pos (ks : List (List Span)) : (shapeOf ks)[0]? = some true ∧ (shapeOf ks)[1]? = some false := by
  unfold shapeOf
  exact ⟨rfl, rfl⟩
/-- What grow tests first. -/
def Checks (n1 N1 n2 N2 nl nk : Nat) : Prop := n2 ≤ 524287 ∧ n1 = 2 * n2 + 1 ∧ nl + 1 = n2 ∧ rk N2 true n2 = nk ∧ nk ≤ 20000 ∧ getB N1 n1 0 = true ∧ getB N1 n1 1 = false
theorem CodeOf.checks {n1 N1 n2 N2 : Nat} {lab lst : List Nat} {L : List Str} {ks : List (List Span)} (h : CodeOf n1 N1 n2 N2 lab lst L ks) : Checks n1 N1 n2 N2 lab.length lst.length := by
  have h1 := shape_len' h.full
  refine ⟨by rw [h.i1]; exact h.full.few, by rw [h.s1, h.i1]; omega, ?_, h.rank, by rw [h.len]; exact h.full.good.few, h.get 0 true (shape_pos ks).1, h.get 1 false (shape_pos ks).2⟩
  rw [h.lb, h.i1]
  unfold labsC
  rw [List.length_map]
  exact h.full.flat
/-- The bits behind node i: as many true ones as it has children, then a false one. -/
theorem CodeOf.bit {n1 N1 n2 N2 : Nat} {lab lst : List Nat} {L : List Str} {ks : List (List Span)} (h : CodeOf n1 N1 n2 N2 lab lst L ks) {i j : Nat} {xs : List Span} (hi : ks[i]? = some xs) (hj : j ≤ xs.length) :
    getB N1 n1 (pl ks i + 1 + j : Nat) = decide (j < xs.length) := by
  rcases Nat.lt_or_ge j xs.length with h1 | h1
  · rw [h.get _ _ (shape_kid hi h1).2]; simp [h1]
  · have hlt := (List.getElem?_eq_some_iff.1 hi).1
    have e : pl ks i + 1 + j = pl ks (i + 1) := by
      have := off_succ hi
      unfold pl; omega
    rw [e, h.get _ _ (shape_false (show i + 1 ≤ ks.length from hlt))]
    simp; omega
/-- The marks before a marked node are fewer than all. -/
theorem rk_below {N n i : Nat} (hi : i < n) (hb : N.testBit i = true) : rk N true i < rk N true n := by
  have h1 : rk N true (i + 1) = rk N true i + 1 := by rw [B.rk_step, hb]; simp
  have h2 : ∀ m, i + 1 ≤ m → rk N true (i + 1) ≤ rk N true m := by
    intro m hm
    induction m with
    | zero => omega
    | succ m ih =>
      rcases Nat.eq_or_lt_of_le hm with e | e
      · rw [e]; exact Nat.le_refl _
      · have := ih (by omega)
        have := B.rk_step N true m
        omega
  have := h2 n hi
  omega
end Go.Proofs.Ytpnkjfjkeoleaaa.LD
