/- louds, plain laws of the reference's grow and Decode: what the nodes of a shape say of the trie whose code is read. Nothing of the program. No conditions beyond those each theorem names. -/
import Derived.Test.YtpnkjfjkeoleaaaLgGrowP
import Derived.Test.YtpnkjfjkeoleaaaLcPlain
set_option linter.unusedVariables false
set_option maxRecDepth 100000
namespace Go.Proofs.Ytpnkjfjkeoleaaa.LD
open HK
open B (rk bytesOf bytesOf_len)

/-- The reference's nodes of a shape, i of them seen. -/
structure RG (sh : List Bool) (lab : List Nat) (i p : Nat) (nl : List ByteArray) : Prop where
  pos : 1 ≤ nl.length
  len : nl.length ≤ lab.length + 1
  sz : ∀ s ∈ nl, s.size ≤ 256
  code : ∀ L ks, Full L ks → sh = shapeOf ks → lab = labsC L ks → i ≤ ks.length ∧ p = pl ks i + 1 ∧ nl.map bytesOf = ((allOf L ks).take (1 + off ks i)).map (str L)
/-- .. and while the children of node i are added. -/
structure RJ (sh : List Bool) (lab : List Nat) (i p : Nat) (nl : List ByteArray) : Prop where
  pos : i < nl.length
  len : nl.length ≤ lab.length + 1
  sz : ∀ s ∈ nl, s.size ≤ 256
  code : ∀ L ks, Full L ks → sh = shapeOf ks → lab = labsC L ks → ∃ xs j, ks[i]? = some xs ∧ j ≤ xs.length ∧ p = pl ks i + 1 + j ∧ nl.map bytesOf = ((allOf L ks).take (1 + off ks i + j)).map (str L)
theorem labs_one {L : List Str} {ks : List (List Span)} (F : Full L ks) : (labsC L ks).length + 1 = ks.length := by
  unfold labsC
  rw [List.length_map]; exact F.flat
theorem RG.start (sh : List Bool) (lab : List Nat) : RG sh lab 0 2 [⟨#[]⟩] where
  pos := Nat.le_refl _
  len := by simp
  sz := fun s hs => by rw [List.mem_singleton] at hs; rw [hs]; exact Nat.zero_le _
  code := fun L ks F _ _ => ⟨Nat.zero_le _, by unfold pl; rw [off_zero], by
    rw [off_zero]
    show [bytesOf ⟨#[]⟩] = _
    unfold allOf
    simp [str, LD.root]
    rfl⟩
section
variable {sh : List Bool} {lab : List Nat} {i p : Nat} {nl : List ByteArray}
theorem nodes_len {L : List Str} {ks : List (List Span)} {m : Nat} (F : Full L ks) (h : nl.map bytesOf = ((allOf L ks).take m).map (str L)) (hm : m ≤ ks.length) : nl.length = m := by
  have h1 := congrArg List.length h
  rw [List.length_map, List.length_map, List.length_take, F.len, Nat.min_eq_left hm] at h1
  exact h1
theorem RG.inner (h : RG sh lab i p nl) (hi : i < nl.length) : RJ sh lab i p nl where
  pos := hi
  len := h.len
  sz := h.sz
  code := fun L ks F e1 e2 => by
    obtain ⟨h1, h2, h3⟩ := h.code L ks F e1 e2
    have hik : i < ks.length := by
      have h4 := h.len
      have h5 := labs_one F
      rw [e2] at h4
      omega
    exact ⟨_, 0, List.getElem?_eq_getElem hik, Nat.zero_le _, h2, h3⟩
theorem RJ.bit {L : List Str} {ks : List (List Span)} {xs : List Span} {j : Nat} (hx : ks[i]? = some xs) (hj : j ≤ xs.length) : (shapeOf ks)[pl ks i + 1 + j]? = some (decide (j < xs.length)) := by
  rcases Nat.lt_or_ge j xs.length with h1 | h1
  · rw [(shape_kid hx h1).2]; simp [h1]
  · have hlt := (List.getElem?_eq_some_iff.1 hx).1
    have e : pl ks i + 1 + j = pl ks (i + 1) := by
      have := off_succ hx
      unfold pl; omega
    rw [e, shape_false (show i + 1 ≤ ks.length from hlt)]
    simp; omega
/-- Node i and its next child. -/
theorem RJ.kid (h : RJ sh lab i p nl) (hb : sh[p]? = some true) {s : ByteArray} (hs : nl[i]? = some s) : ∀ L ks, Full L ks → sh = shapeOf ks → lab = labsC L ks → nl.length ≤ lab.length ∧ s.size < 256 ∧ ∃ xs j y v, ks[i]? = some xs ∧ j < xs.length ∧ p = pl ks i + 1 + j ∧ nl.length = 1 + off ks i + j ∧ (allOf L ks)[nl.length]? = some y ∧ lab[nl.length - 1]? = some v ∧ str L y = bytesOf s ++ [v] ∧ nl.map bytesOf = ((allOf L ks).take (1 + off ks i + j)).map (str L) := by
  intro L ks F e1 e2
  obtain ⟨xs, j, hx, hj, hp, hn⟩ := h.code L ks F e1 e2
  rw [e1, hp, RJ.bit (L := L) hx hj] at hb
  have hjl : j < xs.length := by simpa using hb
  have hik := (List.getElem?_eq_some_iff.1 hx).1
  obtain ⟨x, xs', g1, g2, g3, g4, g5, g6, g7, g8⟩ := F.node hik
  rw [hx] at g2; injection g2 with g2; subst g2
  have hlen := nodes_len F hn (by omega)
  have hy := g8 j hjl
  obtain ⟨y, hyx⟩ : ∃ y, xs[j]? = some y := ⟨_, List.getElem?_eq_getElem hjl⟩
  rw [hyx] at hy
  have hil : i < 1 + off ks i + j := by omega
  have hsx : bytesOf s = str L x := by
    have h1 := congrArg (fun l => l[i]?) hn
    simp only [List.getElem?_map] at h1
    rw [hs, List.getElem?_take, if_pos hil, g1] at h1
    simpa using h1
  have hkl := kid_label F.good g4 g3 (List.mem_of_getElem? hyx)
  have hll := labs_one F
  have hyl := F.reach_len (p := str L y) ⟨y, hy, rfl⟩
  have hlab : (labsC L ks)[off ks i + j]? = some (labelOf L y) := by
    unfold labsC
    rw [List.getElem?_map, flat_at hx hjl, hyx]; rfl
  refine ⟨by rw [hlen, e2]; omega, ?_, xs, j, y, labelOf L y, hx, hjl, hp, hlen, by rw [hlen]; exact hy, ?_, by rw [hsx]; exact hkl, hn⟩
  · rw [hkl, List.length_append, ← hsx, bytesOf_len] at hyl
    simp at hyl; omega
  · rw [hlen, e2, show 1 + off ks i + j - 1 = off ks i + j by omega]; exact hlab
theorem RJ.step (h : RJ sh lab i p nl) (hb : sh[p]? = some true) {s t : ByteArray} {v : Nat} (hs : nl[i]? = some s) (hv : lab[nl.length - 1]? = some v) (hl : nl.length ≤ lab.length) (hz : s.size < 256) (ht : bytesOf t = bytesOf s ++ [v]) : RJ sh lab i (p + 1) (nl ++ [t]) where
  pos := by have := h.pos; rw [List.length_append]; simp; omega
  len := by rw [List.length_append]; simp; omega
  sz := fun u hu => by
    rcases List.mem_append.1 hu with h1 | h1
    · exact h.sz u h1
    · rw [List.mem_singleton] at h1; subst h1
      rw [← bytesOf_len, ht, List.length_append, bytesOf_len]; simp; omega
  code := fun L ks F e1 e2 => by
    obtain ⟨_, _, xs, j, y, v', hx, hj, hp, hlen, hy, hv', hst, hn⟩ := h.kid hb hs L ks F e1 e2
    rw [hv] at hv'; injection hv' with hv'; subst hv'
    refine ⟨xs, j + 1, hx, hj, by omega, ?_⟩
    rw [List.map_append, hn, ← Nat.add_assoc, List.take_add_one, ← hlen, hy, List.map_append]
    simp [ht, hst]
theorem RJ.off_end (h : RJ sh lab i p nl) (hb : sh.length ≤ p) : ∀ L ks, Full L ks → sh = shapeOf ks → lab = labsC L ks → False := by
  intro L ks F e1 e2
  obtain ⟨xs, j, hx, hj, hp, hn⟩ := h.code L ks F e1 e2
  have h1 := RJ.bit (L := L) hx hj
  have := (List.getElem?_eq_some_iff.1 h1).1
  rw [← e1] at this
  omega
theorem RJ.done (h : RJ sh lab i p nl) (hb : sh[p]? = some false) : RG sh lab (i + 1) (p + 1) nl where
  pos := by have := h.pos; omega
  len := h.len
  sz := h.sz
  code := fun L ks F e1 e2 => by
    obtain ⟨xs, j, hx, hj, hp, hn⟩ := h.code L ks F e1 e2
    rw [e1, hp, RJ.bit (L := L) hx hj] at hb
    have hj : j = xs.length := by
      have : ¬ j < xs.length := by simpa using hb
      omega
    have hik := (List.getElem?_eq_some_iff.1 hx).1
    have := off_succ hx
    refine ⟨hik, ?_, ?_⟩
    · unfold pl at hp ⊢; omega
    · rw [hn, this]; congr 2; omega
theorem RG.end_ (h : RG sh lab nl.length p nl) : ∀ L ks, Full L ks → sh = shapeOf ks → lab = labsC L ks → p = sh.length ∧ lab.length + 1 = nl.length ∧ nl.map bytesOf = (allOf L ks).map (str L) := by
  intro L ks F e1 e2
  obtain ⟨h1, h2, h3⟩ := h.code L ks F e1 e2
  obtain ⟨n, hn⟩ : ∃ n, nl.length = n := ⟨_, rfl⟩
  rw [hn] at h1 h2 h3
  have hof := off_le (ks := ks) h1
  have hall := F.offAll
  have hlen := nodes_len F h3 (by omega)
  rw [hn] at hlen
  have hnk : n = ks.length := by
    rcases Nat.lt_or_ge n ks.length with h4 | h4
    · obtain ⟨x, xs, g1, g2, g3, g4, g5, g6, g7, g8⟩ := F.node h4
      omega
    · omega
  have hsl := shape_len' F
  have hll := labs_one F
  refine ⟨?_, by rw [e2]; omega, ?_⟩
  · rw [e1, hsl, h2, hnk]; unfold pl; omega
  · rw [h3, List.take_of_length_le (by rw [F.len]; omega)]
end
/-! The strings at their numbers. -/
structure RS (is : List Bool) (nums : List Nat) (nl : List ByteArray) (i n : Nat) (ls : List ByteArray) : Prop where
  le : n ≤ i
  llen : ls.length = nums.length
  sz : ∀ s ∈ ls, s.size ≤ 256
  code : ∀ L ks, Full L ks → is = (allOf L ks).map (isAt L) → nums = idsOf L (allOf L ks) → nl.map bytesOf = (allOf L ks).map (str L) →
    n = (idsOf L ((allOf L ks).take i)).length ∧ ∀ j x, j < i → (allOf L ks)[j]? = some x → isAt L x = true → ∃ s, ls[x.f]? = some s ∧ bytesOf s = at_ L x.f
theorem RS.start (is : List Bool) (nums : List Nat) (nl : List ByteArray) : RS is nums nl 0 0 (List.replicate nums.length ⟨#[]⟩) where
  le := Nat.le_refl _
  llen := by simp
  sz := fun s hs => by rw [(List.mem_replicate.1 hs).2]; exact Nat.zero_le _
  code := fun L ks F _ _ _ => ⟨rfl, fun j x hj => by omega⟩
theorem ids_snoc' {L : List Str} {ks : List (List Span)} {i : Nat} {x : Span} (hx : (allOf L ks)[i]? = some x) : idsOf L ((allOf L ks).take (i + 1)) = idsOf L ((allOf L ks).take i) ++ if isAt L x then [x.f] else [] := by
  rw [List.take_add_one, hx]
  unfold idsOf
  rw [List.filter_append, List.map_append]
  cases h : isAt L x <;> simp [h]
theorem ids_at' {L : List Str} {ks : List (List Span)} {i : Nat} {x : Span} (hx : (allOf L ks)[i]? = some x) (ha : isAt L x = true) : (idsOf L (allOf L ks))[(idsOf L ((allOf L ks).take i)).length]? = some x.f := by
  have h1 : allOf L ks = (allOf L ks).take (i + 1) ++ (allOf L ks).drop (i + 1) := (List.take_append_drop _ _).symm
  have h2 : idsOf L (allOf L ks) = idsOf L ((allOf L ks).take (i + 1)) ++ idsOf L ((allOf L ks).drop (i + 1)) := by
    conv => lhs; rw [h1]
    unfold idsOf
    rw [List.filter_append, List.map_append]
  rw [h2, ids_snoc' hx, ha, List.append_assoc, List.getElem?_append_right (Nat.le_refl _), Nat.sub_self]
  rfl
section
variable {is : List Bool} {nums : List Nat} {nl : List ByteArray} {i n : Nat} {ls : List ByteArray}
theorem RS.skip (h : RS is nums nl i n ls) (hb : is[i]? = some false) : RS is nums nl (i + 1) n ls where
  le := by have := h.le; omega
  llen := h.llen
  sz := h.sz
  code := fun L ks F e1 e2 e3 => by
    obtain ⟨h1, h2⟩ := h.code L ks F e1 e2 e3
    rw [e1, List.getElem?_map] at hb
    cases hx : (allOf L ks)[i]? with
    | none => rw [hx] at hb; cases hb
    | some x =>
      rw [hx] at hb
      have hb : isAt L x = false := by simpa using hb
      refine ⟨?_, fun j y hj hy ha => ?_⟩
      · rw [ids_snoc' hx, hb, h1]; simp
      · rcases Nat.eq_or_lt_of_le (show j ≤ i by omega) with e | e
        · subst e
          rw [hx] at hy; injection hy with hy
          rw [hy, ha] at hb; cases hb
        · exact h2 j y e hy ha
theorem RS.num (h : RS is nums nl i n ls) (hb : is[i]? = some true) : ∀ L ks, Full L ks → is = (allOf L ks).map (isAt L) → nums = idsOf L (allOf L ks) → nl.map bytesOf = (allOf L ks).map (str L) → ∃ x, (allOf L ks)[i]? = some x ∧ isAt L x = true ∧ nums[n]? = some x.f ∧ x.f < nums.length := by
  intro L ks F e1 e2 e3
  obtain ⟨h1, h2⟩ := h.code L ks F e1 e2 e3
  rw [e1, List.getElem?_map] at hb
  cases hx : (allOf L ks)[i]? with
  | none => rw [hx] at hb; cases hb
  | some x =>
    rw [hx] at hb
    have hb : isAt L x = true := by simpa using hb
    refine ⟨x, rfl, hb, by rw [e2, h1]; exact ids_at' hx hb, ?_⟩
    have h3 := (isAt_str hb).1
    have h4 := (F.ok hx).le
    rw [e2, F.ids_total]; omega
theorem RS.mark (h : RS is nums nl i n ls) (hb : is[i]? = some true) {id : Nat} {s : ByteArray} (hid : nums[n]? = some id) (hil : id < nums.length) (hs : nl[i]? = some s) (hz : s.size ≤ 256) : RS is nums nl (i + 1) (n + 1) (ls.set id s) where
  le := by have := h.le; omega
  llen := by rw [List.length_set]; exact h.llen
  sz := fun t ht => by
    rcases List.mem_or_eq_of_mem_set ht with h1 | h1
    · exact h.sz t h1
    · rw [h1]; exact hz
  code := fun L ks F e1 e2 e3 => by
    obtain ⟨x, hx, ha, hn, hxl⟩ := h.num hb L ks F e1 e2 e3
    obtain ⟨h1, h2⟩ := h.code L ks F e1 e2 e3
    rw [hid] at hn; injection hn with hn
    have hsx : bytesOf s = str L x := by
      have h5 := congrArg (fun l => l[i]?) e3
      simp only [List.getElem?_map] at h5
      rw [hs, hx] at h5
      simpa using h5
    refine ⟨by rw [ids_snoc' hx, ha, List.length_append, h1]; simp, fun j y hj hy hat => ?_⟩
    rcases Nat.eq_or_lt_of_le (show j ≤ i by omega) with e | e
    · subst e
      rw [hx] at hy; injection hy with hy; subst hy
      refine ⟨s, ?_, ?_⟩
      · rw [← hn, List.getElem?_set_self (by rw [h.llen]; exact hil)]
      · rw [hsx]; exact (isAt_str ha).2.symm
    · obtain ⟨t, t1, t2⟩ := h2 j y e hy hat
      have hne : id ≠ y.f := by
        intro e2
        have h5 := F.same (p := at_ L y.f) ⟨y, hy, (isAt_str hat).2.symm⟩ ⟨x, hx, by rw [← e2, hn]; exact (isAt_str ha).2.symm⟩
        omega
      exact ⟨t, by rw [List.getElem?_set_ne hne]; exact t1, t2⟩
theorem RS.end_ (h : RS is nums nl nl.length n ls) : ∀ L ks, Full L ks → is = (allOf L ks).map (isAt L) → nums = idsOf L (allOf L ks) → nl.map bytesOf = (allOf L ks).map (str L) → n = nums.length ∧ ls.map bytesOf = L := by
  intro L ks F e1 e2 e3
  obtain ⟨h1, h2⟩ := h.code L ks F e1 e2 e3
  have hl : nl.length = (allOf L ks).length := by
    have := congrArg List.length e3
    simpa using this
  rw [hl] at h1 h2
  rw [List.take_of_length_le (Nat.le_refl _), ← e2] at h1
  refine ⟨h1, ?_⟩
  have hL : ls.length = L.length := by rw [h.llen, e2, F.ids_total]
  apply List.ext_getElem?
  intro k
  rw [List.getElem?_map]
  by_cases hk : k < L.length
  · obtain ⟨j, hj⟩ := F.reaches hk _ (Nat.le_refl _)
    rw [List.take_length] at hj
    obtain ⟨x, hx, e⟩ := hj
    obtain ⟨g1, g2⟩ := (F.ok hx).isAt_of F.good hk e.symm
    obtain ⟨s, s1, s2⟩ := h2 j x (List.getElem?_eq_some_iff.1 hx).1 hx g1
    rw [g2] at s1 s2
    rw [s1, List.getElem?_eq_getElem hk]
    simp only [Option.map_some]
    rw [s2]
    unfold at_
    rw [List.getD_eq_getElem?_getD, List.getElem?_eq_getElem hk]; rfl
  · rw [List.getElem?_eq_none (by omega), List.getElem?_eq_none (by omega)]; rfl
end
/-! Every good list of strings has a trie. -/
theorem seg_ex (L : List Str) (d T i : Nat) : ∀ (n t : Nat), T - t = n → i < t → t ≤ T → (∀ j, i ≤ j → j < t → byte L j d = byte L i d) → ∃ t', Seg L d T ⟨i, t', d + 1⟩
  | 0, t, hn, h1, h2, h3 => ⟨t, rfl, h1, h2, h3, fun h => by have h : t < T := h; omega⟩
  | n + 1, t, hn, h1, h2, h3 => by
    by_cases hb : byte L t d = byte L i d
    · exact seg_ex L d T i n (t + 1) (by omega) (by omega) (by omega) (fun j hj1 hj2 => by
        rcases Nat.eq_or_lt_of_le (show j ≤ t by omega) with e | e
        · rw [e]; exact hb
        · exact h3 j hj1 e)
    · exact ⟨t, rfl, h1, h2, h3, fun _ => hb⟩
theorem chain_ex (L : List Str) (d T : Nat) : ∀ (n i : Nat), T - i ≤ n → i ≤ T → ∃ xs, Chain L d T i T xs
  | n, i, hn, hi => by
    by_cases h : i = T
    · exact ⟨[], h⟩
    · obtain ⟨t, ht⟩ := seg_ex L d T i _ (i + 1) rfl (by omega) (by omega) (fun j h1 h2 => by rw [show j = i by omega])
      have h1 : i < t := ht.lt
      have h2 : t ≤ T := ht.le
      cases n with
      | zero => omega
      | succ n =>
        obtain ⟨xs, hx⟩ := chain_ex L d T n t (by omega) h2
        exact ⟨⟨i, t, d + 1⟩ :: xs, rfl, ht, hx⟩
theorem bfs_ex {L : List Str} (hg : Good L) : ∀ (n : Nat) (ks : List (List Span)), Bfs L ks → wt L (root L) - ks.length ≤ n → ∃ ks', Bfs L ks' ∧ ks'.length = (allOf L ks').length
  | n, ks, hb, hn => by
    have hlen := hb.len
    have hfew := hb.few hg
    by_cases h : ks.length = (allOf L ks).length
    · exact ⟨ks, hb, h⟩
    · have hx := List.getElem?_eq_getElem (show ks.length < (allOf L ks).length by omega)
      have hok := hb.ok hg _ (List.mem_of_getElem? hx)
      obtain ⟨xs, hk⟩ := chain_ex L _ _ _ _ (Nat.le_refl _) (start_le hok)
      have hb2 := Bfs.snoc hb hx hk
      cases n with
      | zero => omega
      | succ n => exact bfs_ex hg n _ hb2 (by rw [List.length_append, List.length_cons, List.length_nil]; omega)
theorem full_ex {L : List Str} (hg : Good L) (hw : wt L (root L) ≤ 524287) : ∃ ks, Full L ks := by
  obtain ⟨ks, hb, hl⟩ := bfs_ex hg _ [] .nil (Nat.le_refl _)
  have h1 := hb.full hg hl
  exact ⟨ks, hg, hb, hl.symm, by omega⟩
end Go.Proofs.Ytpnkjfjkeoleaaa.LD
