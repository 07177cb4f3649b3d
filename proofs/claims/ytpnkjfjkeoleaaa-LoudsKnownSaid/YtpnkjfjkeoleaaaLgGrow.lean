/- louds: grow. -/
import Derived.Test.YtpnkjfjkeoleaaaLgGrowA
import Derived.Test.YtpnkjfjkeoleaaaLwSet
import Derived.Deep.Cut
import Derived.Deep.DeepCutAuto
set_option linter.unusedVariables false
set_option maxRecDepth 100000
namespace Go.Proofs.Ytpnkjfjkeoleaaa.LD
open Go.RowKit HK
open Go.Proofs.Ytpnkjfjkeoleaaa.B (bytesOf bytesOf_len bytesOf_lt num4b rk getB Bv bget_any brank_any blen_any clamp clamp_nat wf_i64)

/-- What grow says. -/
def GrowPost (w : World) (n1 N1 n2 N2 : Nat) (lab lst : List Nat) (e : Ending) (w' : World) : Prop :=
  Below w.heap.size w w' ∧ ∃ A m c ok, e = .returned (.tuple #[.slice A m c, .bool ok]) ∧
    (ok = true → ∃ ss : List ByteArray, m ≤ 20000 ∧ Sl w' w'.heap.size A m (ss.map Value.string) ∧ (∀ s ∈ ss, s.size ≤ 256) ∧ ∀ L ks, CodeOf n1 N1 n2 N2 lab lst L ks → ss.map bytesOf = L) ∧
    ∀ L ks, CodeOf n1 N1 n2 N2 lab lst L ks → ok = true
theorem run_make_cap (n : Nat) (h1 : 1 ≤ n) (hn : n ≤ 1048576) (W : World) : Sem.run Try.prog (Instr.makeSlice 31 (.int .i64 1) (.int .i64 (n : Nat))) W = .ok (.slice (some ⟨W.heap.size, 0, none⟩) 1 n) (W.alloc (.cells (madeCells #[.int .i64 0] n) 3)) := by
  obtain ⟨i0, hi, hz0, hz1, hz2⟩ := info_parts B.infoInt
  have h := run_make (P := Try.prog) W 31 3 i0 (.int .i64 0) Try.underlying31 hi hz0 .i64 .i64 1 (n : Nat) (by omega) (by omega) (by rw [hz2]; omega) (by omega)
  rw [hz1] at h
  simpa [Value.cells] using h
theorem own_made {W : World} {B g n : Nat} (h1 : 1 ≤ n) (hn : n ≤ 1048576) (hr : Row W g 3 (madeCells #[.int .i64 0] n)) (hb : B ≤ g) : W.ownsRow B 3 1 (.slice (some ⟨g, 0, none⟩) 1 n) 1 ([0].map intV) := by
  refine ⟨rfl, .inr ⟨g, n, _, rfl, hb, hr, h1, by unfold maxLen; omega, by rw [size_madeCells, Nat.mul_one], ?_⟩⟩
  rw [toList_madeCells_one, Nat.mul_one, List.take_replicate, Nat.min_eq_left h1]
  rfl
theorem grow_start (w : World) (Q n : Nat) (h1 : 1 ≤ n) (hn : n ≤ 1048576) :
    let W := ((w.drewN Q).alloc (.cells (madeCells #[.int .i64 0] n) 3)).alloc (.cells (madeCells #[.int .i64 0] n) 3)
    W.ownsRow w.heap.size 3 1 (.slice (some ⟨w.heap.size, 0, none⟩) 1 n) 1 ([0].map intV) ∧ W.ownsRow w.heap.size 3 1 (.slice (some ⟨w.heap.size + 1, 0, none⟩) 1 n) 1 ([0].map intV) ∧ Below w.heap.size w W := by
  refine ⟨own_made h1 hn ((Row.new _ _ _).alloc _) (Nat.le_refl _), own_made h1 hn (Row.new2 (w.drewN Q) _ _ _) (by omega), ?_⟩
  exact ((bel_drewN (Below.refl _ _) Q).alloc (Nat.le_refl _) _).alloc (by simp) _
theorem sep_two {a b n n' c c' : Nat} (h : a ≠ b) : ∀ k, (Value.slice (some ⟨a, 0, none⟩) n c).ownBlock = some k → (Value.slice (some ⟨b, 0, none⟩) n' c').ownBlock ≠ some k :=
  fun k hk e => h (Option.some.inj (hk.trans e.symm))
theorem run_make_strs (n : Nat) (hn : n ≤ 1048576) (W : World) : Sem.run Try.prog (Instr.makeSlice 22 (.int .i64 (n : Nat)) (.int .i64 (n : Nat))) W = .ok (.slice (some ⟨W.heap.size, 0, none⟩) n n) (W.alloc (.cells (madeCells #[.string ⟨#[]⟩] n) 9)) := by
  obtain ⟨i0, hi, hz0, hz1, hz2⟩ := info_parts infoStr
  have h := run_make (P := Try.prog) W 22 9 i0 (.string ⟨#[]⟩) Try.underlying22 hi hz0 .i64 .i64 (n : Nat) (n : Nat) (by omega) (by omega) (by rw [hz2]; omega) (by omega)
  rw [hz1] at h
  simpa [Value.cells] using h
theorem made_strs (n : Nat) : (madeCells #[Value.string ⟨#[]⟩] n) = ((List.replicate n (⟨#[]⟩ : ByteArray)).map Value.string).toArray := by
  apply Array.ext'
  rw [toList_madeCells_one]
  simp
/-- What is known at the head of a round. -/
structure GI (n1 N1 n2 N2 : Nat) (lab lst : List Nat) (i a k M : Nat) (ps ds : List Nat) (ls : List ByteArray) : Prop where
  tr : Tr ps ds
  plen : ps.length = M
  llen : ls.length = lst.length
  sz : ∀ s ∈ ls, s.size ≤ 256
  rk : k = B.rk N2 true i
  code : ∀ L ks, CodeOf n1 N1 n2 N2 lab lst L ks → a = pl ks i + 1 ∧ M = 1 + off ks i ∧ Known L ks ps ds ∧ ∀ j x, j < i → (allOf L ks)[j]? = some x → isAt L x = true → ∃ s, ls[x.f]? = some s ∧ bytesOf s = at_ L x.f
/-- .. and while the children of node i are found. -/
structure GJ (n1 N1 n2 N2 : Nat) (lab lst : List Nat) (i a M : Nat) (ps ds : List Nat) : Prop where
  tr : Tr ps ds
  plen : ps.length = M
  code : ∀ L ks, CodeOf n1 N1 n2 N2 lab lst L ks → ∃ xs j, ks[i]? = some xs ∧ j ≤ xs.length ∧ a = pl ks i + 1 + j ∧ M = 1 + off ks i + j ∧ Known L ks ps ds
theorem GI.start (n1 N1 n2 N2 : Nat) (lab lst : List Nat) : GI n1 N1 n2 N2 lab lst 0 2 0 1 [0] [0] (List.replicate lst.length ⟨#[]⟩) where
  tr := Tr.start
  plen := rfl
  llen := by simp
  sz := fun s hs => by rw [(List.mem_replicate.1 hs).2]; exact Nat.zero_le _
  rk := by rw [B.rk_zero]
  code := fun L ks h => ⟨by unfold pl; rw [off_zero], by rw [off_zero], Known.start h.full, fun j x hj => by omega⟩
section
variable {n1 N1 n2 N2 : Nat} {lab lst : List Nat} {i a k M : Nat} {ps ds : List Nat} {ls : List ByteArray}
theorem GI.inner (h : GI n1 N1 n2 N2 lab lst i a k M ps ds ls) (hi : i < n2) : GJ n1 N1 n2 N2 lab lst i a M ps ds where
  tr := h.tr
  plen := h.plen
  code := fun L ks hc => by
    obtain ⟨h1, h2, h3, _⟩ := h.code L ks hc
    have hik : i < ks.length := by rw [← hc.i1]; exact hi
    exact ⟨_, 0, List.getElem?_eq_getElem hik, Nat.zero_le _, h1, h2, h3⟩
/-- A node without parents is none of a trie. -/
theorem GI.has (h : GI n1 N1 n2 N2 lab lst i a k M ps ds ls) (hi : i < n2) (hM : M ≤ i) : ∀ L ks, ¬ CodeOf n1 N1 n2 N2 lab lst L ks := by
  intro L ks hc
  obtain ⟨h1, h2, h3, _⟩ := h.code L ks hc
  obtain ⟨x, xs, g1, g2, g3, g4, g5, _⟩ := hc.full.node (show i < ks.length by rw [← hc.i1]; exact hi)
  omega
theorem GJ.step (h : GJ n1 N1 n2 N2 lab lst i a M ps ds) (hb : getB N1 n1 (a : Nat) = true) {d : Nat} (hd : ds[i]? = some d) : GJ n1 N1 n2 N2 lab lst i (a + 1) (M + 1) (ps ++ [i]) (ds ++ [d + 1]) where
  tr := h.tr.snoc hd
  plen := by rw [List.length_append, h.plen]; rfl
  code := fun L ks hc => by
    obtain ⟨xs, j, h1, h2, h3, h4, h5⟩ := h.code L ks hc
    rw [h3, hc.bit h1 h2] at hb
    have hj : j < xs.length := by simpa using hb
    exact ⟨xs, j + 1, h1, hj, by omega, by omega, Known.snoc hc.full h5 h.tr.len h1 hj (by rw [h.plen]; exact h4) hd⟩
theorem GJ.done (h : GJ n1 N1 n2 N2 lab lst i a M ps ds) (hb : getB N1 n1 (a : Nat) = false) : ∀ L ks, CodeOf n1 N1 n2 N2 lab lst L ks → a + 1 = pl ks (i + 1) + 1 ∧ M = 1 + off ks (i + 1) ∧ Known L ks ps ds := by
  intro L ks hc
  obtain ⟨xs, j, h1, h2, h3, h4, h5⟩ := h.code L ks hc
  rw [h3, hc.bit h1 h2] at hb
  have hj : j = xs.length := by
    have : ¬ j < xs.length := by simpa using hb
    omega
  have := off_succ h1
  refine ⟨?_, by omega, h5⟩
  unfold pl at h3 ⊢
  omega
theorem GI.skip (h : GI n1 N1 n2 N2 lab lst i a k M ps ds ls) {a' M' : Nat} {ps' ds' : List Nat} (g : GJ n1 N1 n2 N2 lab lst i a' M' ps' ds') (hb : getB N1 n1 (a' : Nat) = false) (hi : i < n2) (hm : getB N2 n2 (i : Nat) = false) :
    GI n1 N1 n2 N2 lab lst (i + 1) (a' + 1) k M' ps' ds' ls where
  tr := g.tr
  plen := g.plen
  llen := h.llen
  sz := h.sz
  rk := by
    have hbit : N2.testBit i = false := by unfold getB at hm; simpa [hi] using hm
    rw [B.rk_step, hbit, h.rk]; simp
  code := fun L ks hc => by
    obtain ⟨h1, h2, h3⟩ := g.done hb L ks hc
    refine ⟨h1, h2, h3, fun j x hj hx hat => ?_⟩
    rcases Nat.eq_or_lt_of_le (show j ≤ i by omega) with e | e
    · subst e
      rw [hc.mark hx, hat] at hm; cases hm
    · exact (h.code L ks hc).2.2.2 j x e hx hat
/-- The number of a marked node. -/
theorem GI.num (h : GI n1 N1 n2 N2 lab lst i a k M ps ds ls) (hi : i < n2) (hm : getB N2 n2 (i : Nat) = true) (hr : B.rk N2 true n2 = lst.length) : ∃ x, lst[k]? = some x := by
  have hbit : N2.testBit i = true := by unfold getB at hm; simpa [hi] using hm
  have := rk_below hi hbit
  rw [hr, ← h.rk] at this
  exact ⟨_, List.getElem?_eq_getElem this⟩
theorem GI.mark (h : GI n1 N1 n2 N2 lab lst i a k M ps ds ls) {a' M' : Nat} {ps' ds' : List Nat} (g : GJ n1 N1 n2 N2 lab lst i a' M' ps' ds') (hb : getB N1 n1 (a' : Nat) = false) (hi : i < n2) (hm : getB N2 n2 (i : Nat) = true)
    {id : Nat} {s : ByteArray} (hid : lst[k]? = some id) (hil : id < lst.length) (hs : s.size ≤ 256) (hst : ∀ L ks x, CodeOf n1 N1 n2 N2 lab lst L ks → (allOf L ks)[i]? = some x → bytesOf s = str L x) :
    GI n1 N1 n2 N2 lab lst (i + 1) (a' + 1) (k + 1) M' ps' ds' (ls.set id s) where
  tr := g.tr
  plen := g.plen
  llen := by rw [List.length_set]; exact h.llen
  sz := fun t ht => by
    rcases List.mem_or_eq_of_mem_set ht with h1 | h1
    · exact h.sz t h1
    · rw [h1]; exact hs
  rk := by
    have hbit : N2.testBit i = true := by unfold getB at hm; simpa [hi] using hm
    rw [B.rk_step, hbit, h.rk]; simp
  code := fun L ks hc => by
    obtain ⟨h1, h2, h3⟩ := g.done hb L ks hc
    have hik : i < ks.length := by rw [← hc.i1]; exact hi
    obtain ⟨x0, xs, g1, _⟩ := hc.full.node hik
    have hat0 : isAt L x0 = true := by rw [← hc.mark g1]; exact hm
    have hidx := ids_at g1 hat0
    rw [← hc.i2, ← h.rk, ← hc.id, hid] at hidx
    injection hidx with hidx
    refine ⟨h1, h2, h3, fun j x hj hx hat => ?_⟩
    rcases Nat.eq_or_lt_of_le (show j ≤ i by omega) with e | e
    · subst e
      rw [g1] at hx; injection hx with hx; subst hx
      refine ⟨s, ?_, ?_⟩
      · rw [← hidx, List.getElem?_set_self (by rw [h.llen]; exact hil)]
      · rw [hst L ks x0 hc g1]; exact (isAt_str hat0).2.symm
    · obtain ⟨t, t1, t2⟩ := (h.code L ks hc).2.2.2 j x e hx hat
      have hne : id ≠ x.f := by
        intro e2
        have h5 := hc.full.same (p := at_ L x.f) ⟨x, hx, (isAt_str hat).2.symm⟩ ⟨x0, g1, by rw [← e2, hidx]; exact (isAt_str hat0).2.symm⟩
        omega
      exact ⟨t, by rw [List.getElem?_set_ne hne]; exact t1, t2⟩
theorem GI.id_ok (h : GI n1 N1 n2 N2 lab lst i a k M ps ds ls) (hi : i < n2) (hm : getB N2 n2 (i : Nat) = true) {id : Nat} (hid : lst[k]? = some id) : ∀ L ks, CodeOf n1 N1 n2 N2 lab lst L ks → id < lst.length := by
  intro L ks hc
  have hik : i < ks.length := by rw [← hc.i1]; exact hi
  obtain ⟨x0, xs, g1, _⟩ := hc.full.node hik
  have hat0 : isAt L x0 = true := by rw [← hc.mark g1]; exact hm
  have hidx := ids_at g1 hat0
  rw [← hc.i2, ← h.rk, ← hc.id, hid] at hidx
  injection hidx with hidx
  have h1 := (isAt_str hat0).1
  have h2 := (hc.full.ok g1).le
  rw [hc.len, hidx]
  omega
theorem GJ.dep_ok (g : GJ n1 N1 n2 N2 lab lst i a M ps ds) (hb : getB N1 n1 (a : Nat) = false) {d : Nat} (hd : ds[i]? = some d) : ∀ L ks, CodeOf n1 N1 n2 N2 lab lst L ks → d ≤ 256 ∧ ∀ x, (allOf L ks)[i]? = some x → x.d = d := by
  intro L ks hc
  obtain ⟨_, _, h3⟩ := g.done hb L ks hc
  obtain ⟨x, hx, e⟩ := h3.1 i d hd
  have h1 := hc.full.reach_len (p := str L x) ⟨x, hx, rfl⟩
  rw [(hc.full.ok hx).strlen] at h1
  exact ⟨by omega, fun y hy => by rw [hx] at hy; injection hy with hy; rw [← hy, e]⟩
/-- While the bytes of a string are written, from behind. -/
def Fill (n1 N1 n2 N2 : Nat) (lab lst : List Nat) (i x dx : Nat) (l : List Nat) : Prop :=
  ∀ L ks y, CodeOf n1 N1 n2 N2 lab lst L ks → (allOf L ks)[i]? = some y → Reach L ks ((str L y).take dx) x ∧ l.drop dx = (str L y).drop dx
theorem Fill.start (g : GJ n1 N1 n2 N2 lab lst i a M ps ds) (hb : getB N1 n1 (a : Nat) = false) {d : Nat} (hd : ds[i]? = some d) {l : List Nat} (hl : l.length = d) : Fill n1 N1 n2 N2 lab lst i i d l := by
  intro L ks y hc hy
  have h1 := (g.dep_ok hb hd L ks hc).2 y hy
  have h2 := (hc.full.ok hy).strlen
  rw [List.take_of_length_le (by omega), List.drop_of_length_le (by omega), List.drop_of_length_le (by omega)]
  exact ⟨⟨y, hy, rfl⟩, rfl⟩
theorem Fill.step (g : GJ n1 N1 n2 N2 lab lst i a M ps ds) (hb : getB N1 n1 (a : Nat) = false) {x px d' v : Nat} {l : List Nat} (h : Fill n1 N1 n2 N2 lab lst i x (d' + 1) l) (hx : 1 ≤ x) (hp : ps[x]? = some px) (hv : lab[x - 1]? = some v) (hl : d' < l.length) (hlen : ∀ L ks y, CodeOf n1 N1 n2 N2 lab lst L ks → (allOf L ks)[i]? = some y → (str L y).length = l.length) :
    Fill n1 N1 n2 N2 lab lst i px d' (l.set d' v) := by
  intro L ks y hc hy
  obtain ⟨h1, h2⟩ := h L ks y hc hy
  obtain ⟨_, _, h3⟩ := g.done hb L ks hc
  have hdl : d' < (str L y).length := by rw [hlen L ks y hc hy]; exact hl
  obtain ⟨h4, h5⟩ := hc.full.step_up h3 hdl h1 hx hp
  have hxl := hc.full.reach_lt h1
  have h6 := hc.full.lab_at (c := x - 1) (by omega)
  rw [show x - 1 + 1 = x by omega] at h6
  have h7 : lab[x - 1]? = some (LD.lab L ks x) := by rw [hc.lb]; exact h6
  rw [hv] at h7
  injection h7 with h7
  refine ⟨h4, ?_⟩
  rw [set_drop hl h2, drop_cons _ _ hdl, ← h5, h7]
theorem Fill.done {x dx nl : Nat} {l : List Nat} (h : Fill n1 N1 n2 N2 lab lst i x dx l) (hx : x = 0 ∨ nl < x) (hnl : nl + 1 = n2) (hlen : ∀ L ks y, CodeOf n1 N1 n2 N2 lab lst L ks → (allOf L ks)[i]? = some y → (str L y).length = l.length) : ∀ L ks y, CodeOf n1 N1 n2 N2 lab lst L ks → (allOf L ks)[i]? = some y → l = str L y := by
  intro L ks y hc hy
  obtain ⟨h1, h2⟩ := h L ks y hc hy
  have hxl := hc.full.reach_lt h1
  rw [← hc.i1] at hxl
  have h0 : x = 0 := by omega
  subst h0
  have h3 := congrArg List.length (reach_zero hc.full h1)
  rw [List.length_take] at h3
  simp only [List.length_nil] at h3
  rcases Nat.eq_zero_or_pos dx with h4 | h4
  · subst h4; simpa using h2
  · have h5 : (str L y).length = 0 := by omega
    have h6 : str L y = [] := List.eq_nil_of_length_eq_zero h5
    rw [h6]
    exact List.eq_nil_of_length_eq_zero (by rw [← hlen L ks y hc hy]; exact h5)
/-- At the end the list is the set's. -/
theorem GI.end_ (h : GI n1 N1 n2 N2 lab lst n2 a k M ps ds ls) : ∀ L ks, CodeOf n1 N1 n2 N2 lab lst L ks → ls.map bytesOf = L := by
  intro L ks hc
  have hl : ls.length = L.length := by rw [h.llen, hc.len]
  apply List.ext_getElem?
  intro q
  rcases Nat.lt_or_ge q L.length with hq | hq
  · obtain ⟨i, hi⟩ := hc.full.reaches hq _ (Nat.le_refl _)
    rw [List.take_length] at hi
    obtain ⟨x, hx, e⟩ := hi
    obtain ⟨h1, h2⟩ := (hc.full.ok hx).isAt_of hc.full.good hq e.symm
    obtain ⟨t, t1, t2⟩ := (h.code L ks hc).2.2.2 i x (by rw [hc.i1]; exact hc.full.lt hx) hx h1
    rw [h2] at t1 t2
    rw [List.getElem?_map, t1, at_get hq, ← t2]
    rfl
  · rw [List.getElem?_eq_none (by rw [List.length_map, hl]; exact hq), List.getElem?_eq_none hq]
end
theorem ne_own {g n c b : Nat} (h : g ≠ b) : some b ≠ (Value.slice (some ⟨g, 0, none⟩) n c).ownBlock := fun e => h (Option.some.inj (show some b = some g from e)).symm
theorem row_one {W : World} {b : Nat} {t : TypeId} {v : Value} (h : Row W b t #[v]) (j : Nat) (u : Value) (hu : [v][j]? = some u) : W.cell? ((⟨b, 0, none⟩ : Addr).add j) = some u := by
  have hadd : (⟨b, 0, none⟩ : Addr).add j = ⟨b, j, none⟩ := by unfold Addr.add; split <;> simp_all
  rw [hadd, h.cell]
  simpa using hu
theorem PD.cell2 {w W : World} {Bl : Nat} {v1 : Value} {n1 n2 gd c2 k d : Nat} {ps ds : List Nat} {ls : List ByteArray} (h : PD w W Bl v1 (.slice (some ⟨gd, 0, none⟩) n2 c2) n1 n2 ps ds ls) (hd : ds[k]? = some d) : W.cell? ⟨gd, k, none⟩ = some (.int .i64 (d : Nat)) := by
  obtain ⟨g, e, h1, _⟩ := int_cell h.own2 hd
  injection e with e
  injection e with e1
  subst e1
  exact h1
theorem PD.putU8 {w W : World} {Bl Bb j : Nat} {v1 v2 u : Value} {n1 n2 : Nat} {ps ds : List Nat} {ls : List ByteArray} {cs : Array Value} (h : PD w W Bl v1 v2 n1 n2 ps ds ls) (hr : Row W Bb 5 cs) (hb : w.heap.size ≤ Bb) : PD w (W.setCell ⟨Bb, j, none⟩ u) Bl v1 v2 n1 n2 ps ds ls :=
  ⟨own_at h.own1 (fun k hk => Below.heap_setCell W _ _ k (fun e => own_row h.own1 hr (by decide) (by rw [hk, e]))), own_at h.own2 (fun k hk => Below.heap_setCell W _ _ k (fun e => own_row h.own2 hr (by decide) (by rw [hk, e]))), h.sep, h.row.far (fun e => (h.row.apart hr (by decide)) e) _, h.lo, h.bel.setCell (p := ⟨Bb, j, none⟩) hb _⟩
theorem PD.putStr {w W : World} {Bl id : Nat} {v1 v2 : Value} {n1 n2 : Nat} {ps ds : List Nat} {ls : List ByteArray} {s : ByteArray} (h : PD w W Bl v1 v2 n1 n2 ps ds ls) : PD w (W.setCell ⟨Bl, id, none⟩ (.string s)) Bl v1 v2 n1 n2 ps ds (ls.set id s) :=
  ⟨own_at h.own1 (fun k hk => Below.heap_setCell W _ _ k (fun e => h.ne1 (by rw [hk, e]))), own_at h.own2 (fun k hk => Below.heap_setCell W _ _ k (fun e => h.ne2 (by rw [hk, e]))), h.sep, by
    have h1 := h.row.put id (.string s)
    rw [List.setIfInBounds_toArray] at h1
    rw [List.map_set]
    exact h1, h.lo, h.bel.setCell (p := ⟨Bl, id, none⟩) h.lo _⟩
theorem PD.cell1 {w W : World} {Bl : Nat} {v2 : Value} {n1 n2 gp c1 k x : Nat} {ps ds : List Nat} {ls : List ByteArray} (h : PD w W Bl (.slice (some ⟨gp, 0, none⟩) n1 c1) v2 n1 n2 ps ds ls) (hd : ps[k]? = some x) : W.cell? ⟨gp, k, none⟩ = some (.int .i64 (x : Nat)) := by
  obtain ⟨g, e, h1, _⟩ := int_cell h.own1 hd
  injection e with e
  injection e with e1
  subst e1
  exact h1
theorem run_make_u8s (n : Nat) (hn : n ≤ 1048576) (W : World) : Sem.run Try.prog (Instr.makeSlice 26 (.int .i64 (n : Nat)) (.int .i64 (n : Nat))) W = .ok (.slice (some ⟨W.heap.size, 0, none⟩) n n) (W.alloc (.cells ((List.replicate n 0).map B.u8v).toArray 5)) := by
  obtain ⟨i0, hi, hz0, hz1, hz2⟩ := info_parts B.infoU8
  have h := run_make (P := Try.prog) W 26 5 i0 (.int .u8 0) Try.underlying26 hi hz0 .i64 .i64 (n : Nat) (n : Nat) (by omega) (by omega) (by rw [hz2]; omega) (by omega)
  rw [hz1] at h
  have e : madeCells #[Value.int .u8 0] n = ((List.replicate n 0).map B.u8v).toArray := by
    apply Array.ext'
    rw [toList_madeCells_one]
    simp [B.u8v]
  rw [← e]
  simpa [Value.cells] using h
set_option maxHeartbeats 16000000 in
theorem lgrow_good (w : World) (S1 E1 S2 E2 bS bI p g n1 N1 n2 N2 nl cl : Nat) (lab lst : List Nat) (AL : Option Addr) (hS : Bv w S1 E1 bS n1 N1) (hI : Bv w S2 E2 bI n2 N2) (hE1 : E1 ≤ w.heap.size) (hE2 : E2 ≤ w.heap.size)
    (hP : PR w p g lst.length (widthL lst) (packN (widthL lst) lst)) (h64 : ∀ v ∈ lst, v < 2 ^ 64) (hL : Sl w w.heap.size AL nl (lab.map B.u8v)) (hl8 : ∀ v ∈ lab, v < 256) (hC : Checks n1 N1 n2 N2 nl lst.length) :
    Calls Try.prog 44 #[.pointer (some ⟨bS, 0, none⟩), .pointer (some ⟨bI, 0, none⟩), .slice AL nl cl, .pointer (some ⟨p, 0, none⟩)] w (GrowPost w n1 N1 n2 N2 lab lst) := by
  obtain ⟨h1, h2, h3, h4, h5, h6, h7⟩ := hC
  have hcS := hS.len; have hcI := hI.len
  have hcP : w.cell? ⟨p, 0, none⟩ = some (.int .i64 lst.length) := hP.1.cell 0
  have HLI : Hid (∀ W : World, Below w.heap.size w W → Calls Try.prog 71 #[.pointer (some ⟨bI, 0, none⟩)] W fun e w' => e = .returned (.int .i64 (n2 : Nat)) ∧ ∃ q, w' = W.drewN q) := Lib.hid (fun W hW =>
    (blen_any W bI n2 ((hW.cell (p := ⟨bI, 0, none⟩) (cell_lt hcI)).trans hcI)).mono (fun e w' h => ⟨h.1, 0, h.2⟩))
  have HLS : Hid (∀ W : World, Below w.heap.size w W → Calls Try.prog 71 #[.pointer (some ⟨bS, 0, none⟩)] W fun e w' => e = .returned (.int .i64 (n1 : Nat)) ∧ ∃ q, w' = W.drewN q) := Lib.hid (fun W hW =>
    (blen_any W bS n1 ((hW.cell (p := ⟨bS, 0, none⟩) (cell_lt hcS)).trans hcS)).mono (fun e w' h => ⟨h.1, 0, h.2⟩))
  obtain ⟨nk, hnk⟩ : ∃ nk, lst.length = nk := ⟨_, rfl⟩
  have HPL : Hid (∀ W : World, Below w.heap.size w W → Calls Try.prog 72 #[.pointer (some ⟨p, 0, none⟩)] W fun e w' => e = .returned (.int .i64 (nk : Nat)) ∧ ∃ q, w' = W.drewN q) := Lib.hid (fun W hW => by
    rw [← hnk]
    exact (plen_any p lst.length W ((hW.cell (p := ⟨p, 0, none⟩) (cell_lt hcP)).trans hcP)).mono (fun e w' h => ⟨h.1, 0, h.2.symm⟩))
  have HRK : Hid (∀ W : World, Below w.heap.size w W → Calls Try.prog 56 #[.pointer (some ⟨bI, 0, none⟩), .bool true, .int .i64 (n2 : Nat)] W fun e w' => e = .returned (.int .i64 (nk : Nat)) ∧ ∃ q, w' = W.drewN q) := Lib.hid (fun W hW => by
    have h := brank_any W S2 E2 bI n2 N2 (hI.agree (Agree.of_below hW hE2)) true (n2 : Nat) (wf_i64 _ (by omega))
    rw [clamp_nat _ _ (Nat.le_refl _), h4, hnk] at h
    exact h)
  have HGS : Hid (∀ W : World, Below w.heap.size w W → ∀ k : Nat, k ≤ 4000000 → Calls Try.prog 46 #[.pointer (some ⟨bS, 0, none⟩), .int .i64 (k : Nat)] W fun e w' => e = .returned (.bool (getB N1 n1 (k : Nat))) ∧ ∃ q, w' = W.drewN q) := Lib.hid (fun W hW k hk =>
    bget_any W S1 E1 bS n1 N1 (hS.agree (Agree.of_below hW hE1)) (k : Nat) (wf_i64 _ (by omega)))
  have HGI : Hid (∀ W : World, Below w.heap.size w W → ∀ k : Nat, k ≤ 4000000 → Calls Try.prog 46 #[.pointer (some ⟨bI, 0, none⟩), .int .i64 (k : Nat)] W fun e w' => e = .returned (.bool (getB N2 n2 (k : Nat))) ∧ ∃ q, w' = W.drewN q) := Lib.hid (fun W hW k hk =>
    bget_any W S2 E2 bI n2 N2 (hI.agree (Agree.of_below hW hE2)) (k : Nat) (wf_i64 _ (by omega)))
  have HGP : Hid (∀ W : World, Below w.heap.size w W → ∀ k x : Nat, lst[k]? = some x → Calls Try.prog 73 #[.pointer (some ⟨p, 0, none⟩), .int .i64 (k : Nat)] W fun e w' => e = .returned (.tuple #[.int .u64 (x : Nat), .bool true]) ∧ ∃ q, w' = W.drewN q) := Lib.hid (fun W hW k x hx => by
    have hk := (List.getElem?_eq_some_iff.1 hx).1
    have h := pget2_in p g lst.length (widthL lst) k (packN (widthL lst) lst) W (by omega) (widthL_le_64 _ h64) hk ⟨(hW.block p hP.1.lt).trans hP.1, (hW.block g hP.2.lt).trans hP.2⟩
    have e : packN (widthL lst) lst / 2 ^ (k * widthL lst) % 2 ^ widthL lst = x := by
      rw [Nat.mul_comm, packN_digit _ _ _ ((widthL_le_iff _ _).1 (Nat.le_refl _)) hk]
      exact (List.getElem?_eq_some_iff.1 hx).2
    rw [e] at h
    exact h)
  have HG0 := Lib.hid (fun W hW => HGS.out W hW 0 (by omega))
  have HG1 := Lib.hid (fun W hW => HGS.out W hW 1 (by omega))
  have e0 : getB N1 n1 ((0 : Nat) : Int) = true := h6
  have e1 : getB N1 n1 ((1 : Nat) : Int) = false := h7
  rw [e0] at HG0
  rw [e1] at HG1
  rw [hnk] at h5
  have HNK := Lib.hid hnk; have HRKP := Lib.hid h4
  have HLB := Lib.hid hL; have HL8 := Lib.hid hl8; have H64 := Lib.hid h64
  have g1 : decide ((524287 : Int) < (n2 : Int)) = false := by simp; omega
  have g2 : ((n1 : Int) == 2 * (n2 : Int) + 1) = true := by rw [beq_iff_eq]; omega
  have g2' : ((n1 : Int) != 2 * (n2 : Int) + 1) = false := by rw [bne, g2]; rfl
  have g3 : ((nl : Int) == (n2 : Int) - 1) = true := by rw [beq_iff_eq]; omega
  have g3' : ((nl : Int) != (n2 : Int) - 1) = false := by rw [bne, g3]; rfl
  have g4 : ((nk : Int) == (nk : Int)) = true := by simp
  have g4' : ((nk : Int) != (nk : Int)) = false := by simp
  have g5 : decide ((20000 : Int) < (nk : Int)) = false := by simp; omega
  have hn2 : 1 ≤ n2 := by omega
  have HN1 := Lib.hid h2; have HN2 := Lib.hid h3
  clear h2 h3 h4 h6 h7 e0 e1 hnk hcS hcI hcP hS hI hP hL hl8 h64
  go_enter Try.func44, Try.ntmps44
  go_wp2_with fail
  refine (HLI.out _ (Below.refl _ _)).mono ?_
  rintro e w1 ⟨rfl, q1, rfl⟩
  go_wp2_with fail
  refine (HLS.out _ (bel_drewN (Below.refl _ _) _)).mono ?_
  rintro e w2 ⟨rfl, q2, rfl⟩
  go_wp2_with fail
  refine (HRK.out _ (bel_drewN (Below.refl _ _) _)).mono ?_
  rintro e w3 ⟨rfl, q3, rfl⟩
  go_wp2_with fail
  refine (HPL.out _ (bel_drewN (Below.refl _ _) _)).mono ?_
  rintro e w4 ⟨rfl, q4, rfl⟩
  go_wp2_with fail
  refine (HPL.out _ (bel_drewN (Below.refl _ _) _)).mono ?_
  rintro e w5 ⟨rfl, q5, rfl⟩
  go_wp2_with fail
  refine (HG0.out _ (bel_drewN (Below.refl _ _) _)).mono ?_
  rintro e w6 ⟨rfl, q6, rfl⟩
  go_wp2_with fail
  refine (HG1.out _ (bel_drewN (Below.refl _ _) _)).mono ?_
  rintro e w7 ⟨rfl, q7, rfl⟩
  clear g1 g2 g2' g3 g3' g4 g4' g5
  go_upto_region 4 with fail
  obtain ⟨Q, hQ⟩ : ∃ Q, q1 + q2 + q3 + q4 + q5 + q6 + q7 = Q := ⟨_, rfl⟩
  rw [hQ]
  clear hQ
  have hmk := run_make_cap n2 hn2 (by omega)
  go_cut [11, 12] (fun v1 v2 wx => wx.ownsRow w.heap.size 3 1 v1 1 ([0].map intV) ∧ wx.ownsRow w.heap.size 3 1 v2 1 ([0].map intV) ∧ (∀ k, v1.ownBlock = some k → v2.ownBlock ≠ some k) ∧ Below w.heap.size w wx)
  case first =>
    go_region
    all_goals
      go_wp2_with fail
      go_meet
      obtain ⟨s1, s2, s3⟩ := grow_start w (Q + 1) n2 hn2 (by omega)
      first
        | exact ⟨s1, s2, sep_two (by omega), s3⟩
        | exact ⟨s2, s1, sep_two (by omega), s3⟩
  case rest =>
    obtain ⟨ho1, ho2, hsep, hB⟩ := hcut
    have HO1 := Lib.hid ho1; have HO2 := Lib.hid ho2; have HSEP := Lib.hid hsep; have HB := Lib.hid hB
    obtain ⟨A1, c1, rfl, -, -⟩ := own_shape ho1
    obtain ⟨A2, c2, rfl, -, -⟩ := own_shape ho2
    clear ho1 ho2 hsep hB hmk
    have hmks := run_make_strs nk (by omega)
    go_wp2_with fail
    refine (HPL.out _ HB.out).mono ?_
    rintro e w8 ⟨rfl, q8, rfl⟩
    go_wp2
    clear hmks
    have HPD0 : Hid (PD w ((wc.drewN q8).alloc (.cells (madeCells #[.string ⟨#[]⟩] nk) 9)) wc.heap.size (.slice A1 1 c1) (.slice A2 1 c2) 1 1 [0] [0] (List.replicate nk ⟨#[]⟩)) := Lib.hid ⟨(own_drewN HO1.out q8).alloc _, (own_drewN HO2.out q8).alloc _, HSEP.out, by rw [← made_strs]; exact Row.new _ _ _, HB.out.size, (bel_drewN HB.out q8).alloc HB.out.size _⟩
    have hBl := HB.out.size
    obtain ⟨Bl, hBl2⟩ : ∃ Bl, wc.heap.size = Bl := ⟨_, rfl⟩
    rw [hBl2] at HPD0 hBl ⊢
    clear hBl2
    go_loopw [11, 12, 13, 14, 70] (fun v1 v2 x13 x14 x70 wr => ∃ (i a k M : Nat) (ps ds : List Nat) (ls : List ByteArray), x13 = .int .i64 a ∧ x14 = .int .i64 k ∧ x70 = .int .i64 i ∧ i ≤ n2 ∧ k ≤ i ∧ a ≤ 1048577 + i ∧ M ≤ a ∧ Hid (GI n1 N1 n2 N2 lab lst i a k M ps ds ls) ∧ Hid (PD w wr Bl v1 v2 M M ps ds ls)) (fun _ _ _ _ x _ => n2 - (intOf x).toNat)
    case atStart => exact ⟨0, 2, 0, 1, [0], [0], _, rfl, rfl, rfl, Nat.zero_le _, Nat.le_refl _, by omega, by omega, Lib.hid (by have h := GI.start n1 N1 n2 N2 lab lst; rw [HNK.out] at h; exact h), HPD0⟩
    case round =>
      obtain ⟨i, a, k, M, ps, ds, ls, rfl, rfl, rfl, hi, hki, hai, hMa, HGI0, HPD⟩ := hrel
      obtain ⟨A1, c1, rfl, hc1, -⟩ := HPD.out.slice1
      obtain ⟨A2, c2, rfl, hc2, -⟩ := HPD.out.slice2
      have hsz := HPD.out.bel.size
      by_cases hlt : i < n2
      case neg =>
        obtain rfl : i = n2 := by omega
        have hb0 : decide ((i : Int) < (i : Int)) = false := by simp
        go_wp2
        go_ret2
        refine ⟨HPD.out.bel, _, _, _, true, rfl, fun _ => ⟨ls, h5, ?_, HGI0.out.sz, HGI0.out.end_⟩, fun _ _ _ => rfl⟩
        have h := Sl.of_row HPD.out.row nk (by rw [List.size_toArray, List.length_map, HGI0.out.llen, HNK.out]; exact Nat.le_refl _)
        rw [List.take_of_length_le (by rw [List.length_map, HGI0.out.llen, HNK.out]; exact Nat.le_refl _)] at h
        exact h
      have hb0 : decide ((i : Int) < (n2 : Int)) = true := by simp; omega
      by_cases hMi : M ≤ i
      case pos =>
        have hb1 : decide ((M : Int) ≤ (i : Int)) = true := by simp; omega
        have HNO := Lib.hid (HGI0.out.has hlt hMi)
        go_wp2
        go_ret2
        exact ⟨HPD.out.bel, none, 0, 0, false, rfl, fun h => (by cases h), fun L ks hc => (HNO.out L ks hc).elim⟩
      have hb1 : decide ((M : Int) ≤ (i : Int)) = false := by simp; omega
      have HGJ0 := Lib.hid (HGI0.out.inner hlt)
      obtain ⟨wo, rfl⟩ : ∃ wo : World, wo = wr := ⟨_, rfl⟩
      go_wp2
      go_loopw [11, 12, 13] (fun v1 v2 x13 wr => ∃ (a' M' : Nat) (ps' ds' : List Nat), x13 = .int .i64 a' ∧ a' ≤ 1048577 + i ∧ M' ≤ a' ∧ i < M' ∧ Hid (GJ n1 N1 n2 N2 lab lst i a' M' ps' ds') ∧ Hid (PD w wr Bl v1 v2 M' M' ps' ds' ls)) (fun _ _ x _ => 1048577 - (intOf x).toNat)
      case atStart => exact ⟨a, M, ps, ds, rfl, by omega, hMa, by omega, HGJ0, HPD⟩
      case round =>
        clear hc1 hc2 hMi hb1 hMa hai
        obtain ⟨a', M', ps', ds', rfl, hai, hMa, hMi, HGJ, HPD2⟩ := hrel
        obtain ⟨d, hdi⟩ : ∃ d, ds'[i]? = some d := ⟨_, List.getElem?_eq_getElem (by rw [← HGJ.out.tr.len, HGJ.out.plen]; exact hMi)⟩
        have hdd := HGJ.out.tr.dep_le (i + 1) i d (by omega) hdi
        have hGET := HGS.out _ HPD2.out.bel a' (by omega)
        cases hgb : getB N1 n1 (a' : Nat) with
        | true =>
          rw [hgb] at hGET
          have HGET := Lib.hid hGET
          have HGJ2 := Lib.hid (HGJ.out.step hgb hdi)
          have han : a' < n1 := by
            unfold getB at hgb
            simp only [Bool.and_eq_true, decide_eq_true_eq] at hgb
            omega
          have han2 : a' < 1048576 := by have := HN1.out; omega
          obtain ⟨gd, c2, rfl, hc2, hc2m⟩ := own_some HPD2.out.own2 (by omega)
          obtain ⟨gp, c1, rfl, hc1, hc1m⟩ := own_some HPD2.out.own1 (by omega)
          have hgd := (HPD2.out.own2.lt gd rfl).2
          have hgp := (HPD2.out.own1.lt gp rfl).2
          clear hGET hgb
          go_wp2_with fail
          refine HGET.out.mono ?_
          rintro e w9 ⟨rfl, q9, rfl⟩
          have HPW := Lib.hid (HPD2.out.drewN q9)
          obtain ⟨W0, hW0⟩ : ∃ W0, wr.drewN q9 = W0 := ⟨_, rfl⟩
          have hgd : gd < W0.heap.size := by rw [← hW0]; exact hgd
          have hgp : gp < W0.heap.size := by rw [← hW0]; exact hgp
          rw [hW0] at HPW ⊢
          clear hW0
          obtain ⟨iu, hiu, hzu0, hzu1, hzu2⟩ := info_parts B.infoInt
          have i1 : (0 : Int) ≤ (i : Int) := by omega
          have i2 : (i : Int) < (M' : Int) := by omega
          go_wp2
          have hwd : IntKind.i64.wrap ((d : Int) + 1) = (d : Int) + 1 := IntWalk.i64_in _ (by omega)
          refine wp_region_held_drew (S := fun _ => True) (by kernel_rfl) trivial (fun hHeld => ?_)
          refine wpAnyH_take (i := 0) (oi := _) (v := ?_) rfl (by kernel_rfl) (by kernel_rfl) (by kernel_rfl) (fun _ _ _ h => h) (Or.inl ⟨by rfl, ?_⟩) hHeld ?_
          rotate_left
          · (intro w hSw; (try dsimp only at hSw); simp only [List.getElem_toArray, List.getElem_cons_zero]; go_simp; try with_reducible rfl)
          simp only [List.getElem_toArray, List.getElem_cons_zero, Act.put, List.setIfInBounds_toArray, List.set_cons_zero, List.set_cons_succ]
          refine wpAnyH_take (i := 1) (oi := _) (v := ?_) rfl (by kernel_rfl) (by kernel_rfl) (by kernel_rfl) (fun _ _ _ h => h) (Or.inl ⟨by rfl, ?_⟩) hHeld ?_
          rotate_left
          · (intro w hSw; (try dsimp only at hSw); simp only [List.getElem_toArray, List.getElem_cons_zero, List.getElem_cons_succ]; go_simp; try with_reducible rfl)
          simp only [List.getElem_toArray, List.getElem_cons_zero, List.getElem_cons_succ, Act.put, List.setIfInBounds_toArray, List.set_cons_zero, List.set_cons_succ]
          refine wpAnyH_take (i := 4) (oi := _) (v := ?_) rfl (by kernel_rfl) (by kernel_rfl) (by kernel_rfl) (fun _ _ _ h => h) (Or.inl ⟨by rfl, ?_⟩) hHeld ?_
          rotate_left
          · (intro w hSw; (try dsimp only at hSw); simp only [List.getElem_toArray, List.getElem_cons_zero, List.getElem_cons_succ]; go_simp; try with_reducible rfl)
          simp only [List.getElem_toArray, List.getElem_cons_zero, List.getElem_cons_succ, Act.put, List.setIfInBounds_toArray, List.set_cons_zero, List.set_cons_succ]
          refine wpAnyH_take (i := 5) (oi := _) (v := ?_) rfl (by kernel_rfl) (by kernel_rfl) (by kernel_rfl) (fun _ _ _ h => h) (Or.inl ⟨by rfl, ?_⟩) hHeld ?_
          rotate_left
          · (intro w hSw; (try dsimp only at hSw); simp only [List.getElem_toArray, List.getElem_cons_zero, List.getElem_cons_succ]; go_simp; try with_reducible rfl)
          simp only [List.getElem_toArray, List.getElem_cons_zero, List.getElem_cons_succ, Act.put, List.setIfInBounds_toArray, List.set_cons_zero, List.set_cons_succ]
          refine wpAnyH_take (i := 6) (oi := _) (v := ?_) rfl (by kernel_rfl) (by kernel_rfl) (by kernel_rfl) (fun _ _ _ h => h) (Or.inl ⟨by rfl, ?_⟩) hHeld ?_
          rotate_left
          · (intro w hSw; (try dsimp only at hSw); simp only [List.getElem_toArray, List.getElem_cons_zero, List.getElem_cons_succ]; go_simp; try with_reducible rfl)
          simp only [List.getElem_toArray, List.getElem_cons_zero, List.getElem_cons_succ, Act.put, List.setIfInBounds_toArray, List.set_cons_zero, List.set_cons_succ]
          refine wpAnyH_take (i := 7) (oi := _) (v := ?_) rfl (by kernel_rfl) (by kernel_rfl) (by kernel_rfl) (fun _ _ _ h => h) (Or.inl ⟨by rfl, ?_⟩) hHeld ?_
          rotate_left
          · (intro w hSw; (try dsimp only at hSw); simp only [List.getElem_toArray, List.getElem_cons_zero, List.getElem_cons_succ]; go_simp; try with_reducible rfl)
          simp only [List.getElem_toArray, List.getElem_cons_zero, List.getElem_cons_succ, Act.put, List.setIfInBounds_toArray, List.set_cons_zero, List.set_cons_succ]
          refine wpAnyH_ready (rs := [2, 8]) (by kernel_rfl) (by simp) ?_
          refine (AllReadyH.cons (o := _) rfl (fun K hK => ?_) (AllReadyH.cons (o := _) rfl (fun K hK => ?_) AllReadyH.nil))
          · go_simp
            refine hK.out _ _ trivial (fun hHeld => ?_)
            clear hK K
            try simp only [Act.put, List.setIfInBounds_toArray, List.set_cons_zero, List.set_cons_succ]
            have HP1 := Lib.hid (HPW.out.alloc (.cells #[.int .i64 (i : Nat)] 3)).drew
            have HR2 := Lib.hid (Row.new W0 3 #[.int .i64 (i : Nat)])
            refine wpAnyH_ready (rs := [3, 8]) (by kernel_rfl) (by simp) ?_
            refine (AllReadyH.cons (o := _) rfl (fun K hK => ?_) (AllReadyH.cons (o := _) rfl (fun K hK => ?_) AllReadyH.nil))
            · refine step_append_lies _ (by rfl) _ _ _ (by rfl) w.heap.size 3 iu (.int .i64 0) 1 8 Try.underlying31 hiu hzu0 hzu1 hzu2 rfl (by omega) (.slice (some ⟨gp, 0, none⟩) M' c1) M' (ps'.map intV) (by rfl) HP1.out.own1
                ⟨W0.heap.size, 0, none⟩ 1 1 [.int .i64 (i : Nat)] (by rfl) (by rfl) (row_one HR2.out.drew) one_oneCell (by omega) (by unfold maxLen; omega) (by omega) HP1.out.bel.size _ rfl ?_
              intro g6 cap7 W4 ho8 hg9 ha10 hl11
              have hs12 : W0.heap.size + 1 ≤ W4.heap.size := by have := hg9.size; (try simp at this); omega
              have HP5 := Lib.hid (HP1.out.push1 hg9 ho8 ha10 HP1.out.ne1)
              clear ho8 hg9 ha10 hl11
              refine hK.out _ _ trivial (fun hHeld => ?_)
              clear hK K
              try simp only [Act.put, List.setIfInBounds_toArray]
              refine wpAnyH_ready (rs := [8]) (by kernel_rfl) (by simp) ?_
              refine (AllReadyH.cons (o := _) rfl (fun K hK => ?_) AllReadyH.nil)
              have kx := PD.cell2 HP5.out hdi
              go_simp
              refine hK.out _ _ trivial (fun hHeld => ?_)
              clear hK K
              try simp only [Act.put, List.setIfInBounds_toArray, List.set_cons_zero, List.set_cons_succ]
              clear kx
              refine wpAnyH_take (i := 9) (oi := _) (v := ?_) rfl (by kernel_rfl) (by kernel_rfl) (by kernel_rfl) (fun _ _ _ h => h) (Or.inl ⟨by rfl, ?_⟩) hHeld ?_
              rotate_left
              · (intro w hSw; (try dsimp only at hSw); simp only [List.getElem_toArray, List.getElem_cons_zero, List.getElem_cons_succ]; go_simp; try with_reducible rfl)
              simp only [List.getElem_toArray, List.getElem_cons_zero, List.getElem_cons_succ, Act.put, List.setIfInBounds_toArray, List.set_cons_zero, List.set_cons_succ]
              refine wpAnyH_ready (rs := [10]) (by kernel_rfl) (by simp) ?_
              refine (AllReadyH.cons (o := _) rfl (fun K hK => ?_) AllReadyH.nil)
              go_simp
              refine hK.out _ _ trivial (fun hHeld => ?_)
              clear hK K
              try simp only [Act.put, List.setIfInBounds_toArray, List.set_cons_zero, List.set_cons_succ]
              have HP13 := Lib.hid (HP5.out.alloc (.cells #[.int .i64 ((d : Int) + 1)] 3))
              have HR14 := Lib.hid (Row.new W4 3 #[.int .i64 ((d : Int) + 1)])
              refine wpAnyH_ready (rs := [11]) (by kernel_rfl) (by simp) ?_
              refine (AllReadyH.cons (o := _) rfl (fun K hK => ?_) AllReadyH.nil)
              refine step_append_lies _ (by rfl) _ _ _ (by rfl) w.heap.size 3 iu (.int .i64 0) 1 8 Try.underlying31 hiu hzu0 hzu1 hzu2 rfl (by omega) (.slice (some ⟨gd, 0, none⟩) M' c2) M' (ds'.map intV) (by rfl) HP13.out.own2
                ⟨W4.heap.size, 0, none⟩ 1 1 [.int .i64 ((d : Int) + 1)] (by rfl) (by rfl) (row_one HR14.out) one_oneCell (by omega) (by unfold maxLen; omega) (by omega) HP13.out.bel.size _ rfl ?_
              intro g18 cap19 W16 ho20 hg21 ha22 hl23
              have hs24 : W4.heap.size + 1 ≤ W16.heap.size := by have := hg21.size; (try simp at this); omega
              have HP17 := Lib.hid (HP13.out.push2 hg21 ho20 ha22 HP13.out.ne2)
              clear ho20 hg21 ha22 hl23
              refine hK.out _ _ trivial (fun hHeld => ?_)
              clear hK K
              try simp only [Act.put, List.setIfInBounds_toArray]
              refine wpAnyH_take (i := 12) (oi := _) (v := ?_) rfl (by kernel_rfl) (by kernel_rfl) (by kernel_rfl) (fun _ _ _ h => h) (Or.inl ⟨by rfl, ?_⟩) hHeld ?_
              rotate_left
              · (intro w hSw; (try dsimp only at hSw); simp only [List.getElem_toArray, List.getElem_cons_zero, List.getElem_cons_succ]; go_simp; try with_reducible rfl)
              simp only [List.getElem_toArray, List.getElem_cons_zero, List.getElem_cons_succ, Act.put, List.setIfInBounds_toArray, List.set_cons_zero, List.set_cons_succ]
              refine wpAnyH_take (i := 13) (oi := _) (v := ?_) rfl (by kernel_rfl) (by kernel_rfl) (by kernel_rfl) (fun _ _ _ h => h) (Or.inl ⟨by rfl, ?_⟩) hHeld ?_
              rotate_left
              · (intro w hSw; (try dsimp only at hSw); simp only [List.getElem_toArray, List.getElem_cons_zero, List.getElem_cons_succ]; go_simp; try with_reducible rfl)
              simp only [List.getElem_toArray, List.getElem_cons_zero, List.getElem_cons_succ, Act.put, List.setIfInBounds_toArray, List.set_cons_zero, List.set_cons_succ]
              refine wpAnyH_done (by kernel_rfl) ?_ _
              clear hwd
              go_wp2
              go_roundw
              case rel => exact ⟨a' + 1, M' + 1, ps' ++ [i], ds' ++ [d + 1], by go_num, by omega, by omega, by omega, HGJ2, HP17⟩
              case measure => simp [intOf]; omega
            · have kx := PD.cell2 HP1.out hdi
              go_simp
              refine hK.out _ _ trivial (fun hHeld => ?_)
              clear hK K
              try simp only [Act.put, List.setIfInBounds_toArray, List.set_cons_zero, List.set_cons_succ]
              clear kx
              refine wpAnyH_take (i := 9) (oi := _) (v := ?_) rfl (by kernel_rfl) (by kernel_rfl) (by kernel_rfl) (fun _ _ _ h => h) (Or.inl ⟨by rfl, ?_⟩) hHeld ?_
              rotate_left
              · (intro w hSw; (try dsimp only at hSw); simp only [List.getElem_toArray, List.getElem_cons_zero, List.getElem_cons_succ]; go_simp; try with_reducible rfl)
              simp only [List.getElem_toArray, List.getElem_cons_zero, List.getElem_cons_succ, Act.put, List.setIfInBounds_toArray, List.set_cons_zero, List.set_cons_succ]
              refine wpAnyH_ready (rs := [3, 10]) (by kernel_rfl) (by simp) ?_
              refine (AllReadyH.cons (o := _) rfl (fun K hK => ?_) (AllReadyH.cons (o := _) rfl (fun K hK => ?_) AllReadyH.nil))
              · refine step_append_lies _ (by rfl) _ _ _ (by rfl) w.heap.size 3 iu (.int .i64 0) 1 8 Try.underlying31 hiu hzu0 hzu1 hzu2 rfl (by omega) (.slice (some ⟨gp, 0, none⟩) M' c1) M' (ps'.map intV) (by rfl) HP1.out.own1
                  ⟨W0.heap.size, 0, none⟩ 1 1 [.int .i64 (i : Nat)] (by rfl) (by rfl) (row_one HR2.out.drew) one_oneCell (by omega) (by unfold maxLen; omega) (by omega) HP1.out.bel.size _ rfl ?_
                intro g27 cap28 W25 ho29 hg30 ha31 hl32
                have hs33 : W0.heap.size + 1 ≤ W25.heap.size := by have := hg30.size; (try simp at this); omega
                have HP26 := Lib.hid (HP1.out.push1 hg30 ho29 ha31 HP1.out.ne1)
                clear ho29 hg30 ha31 hl32
                refine hK.out _ _ trivial (fun hHeld => ?_)
                clear hK K
                try simp only [Act.put, List.setIfInBounds_toArray]
                refine wpAnyH_ready (rs := [10]) (by kernel_rfl) (by simp) ?_
                refine (AllReadyH.cons (o := _) rfl (fun K hK => ?_) AllReadyH.nil)
                go_simp
                refine hK.out _ _ trivial (fun hHeld => ?_)
                clear hK K
                try simp only [Act.put, List.setIfInBounds_toArray, List.set_cons_zero, List.set_cons_succ]
                have HP34 := Lib.hid (HP26.out.alloc (.cells #[.int .i64 ((d : Int) + 1)] 3))
                have HR35 := Lib.hid (Row.new W25 3 #[.int .i64 ((d : Int) + 1)])
                refine wpAnyH_ready (rs := [11]) (by kernel_rfl) (by simp) ?_
                refine (AllReadyH.cons (o := _) rfl (fun K hK => ?_) AllReadyH.nil)
                refine step_append_lies _ (by rfl) _ _ _ (by rfl) w.heap.size 3 iu (.int .i64 0) 1 8 Try.underlying31 hiu hzu0 hzu1 hzu2 rfl (by omega) (.slice (some ⟨gd, 0, none⟩) M' c2) M' (ds'.map intV) (by rfl) HP34.out.own2
                  ⟨W25.heap.size, 0, none⟩ 1 1 [.int .i64 ((d : Int) + 1)] (by rfl) (by rfl) (row_one HR35.out) one_oneCell (by omega) (by unfold maxLen; omega) (by omega) HP34.out.bel.size _ rfl ?_
                intro g39 cap40 W37 ho41 hg42 ha43 hl44
                have hs45 : W25.heap.size + 1 ≤ W37.heap.size := by have := hg42.size; (try simp at this); omega
                have HP38 := Lib.hid (HP34.out.push2 hg42 ho41 ha43 HP34.out.ne2)
                clear ho41 hg42 ha43 hl44
                refine hK.out _ _ trivial (fun hHeld => ?_)
                clear hK K
                try simp only [Act.put, List.setIfInBounds_toArray]
                refine wpAnyH_take (i := 12) (oi := _) (v := ?_) rfl (by kernel_rfl) (by kernel_rfl) (by kernel_rfl) (fun _ _ _ h => h) (Or.inl ⟨by rfl, ?_⟩) hHeld ?_
                rotate_left
                · (intro w hSw; (try dsimp only at hSw); simp only [List.getElem_toArray, List.getElem_cons_zero, List.getElem_cons_succ]; go_simp; try with_reducible rfl)
                simp only [List.getElem_toArray, List.getElem_cons_zero, List.getElem_cons_succ, Act.put, List.setIfInBounds_toArray, List.set_cons_zero, List.set_cons_succ]
                refine wpAnyH_take (i := 13) (oi := _) (v := ?_) rfl (by kernel_rfl) (by kernel_rfl) (by kernel_rfl) (fun _ _ _ h => h) (Or.inl ⟨by rfl, ?_⟩) hHeld ?_
                rotate_left
                · (intro w hSw; (try dsimp only at hSw); simp only [List.getElem_toArray, List.getElem_cons_zero, List.getElem_cons_succ]; go_simp; try with_reducible rfl)
                simp only [List.getElem_toArray, List.getElem_cons_zero, List.getElem_cons_succ, Act.put, List.setIfInBounds_toArray, List.set_cons_zero, List.set_cons_succ]
                refine wpAnyH_done (by kernel_rfl) ?_ _
                clear hwd
                go_wp2
                go_roundw
                case rel => exact ⟨a' + 1, M' + 1, ps' ++ [i], ds' ++ [d + 1], by go_num, by omega, by omega, by omega, HGJ2, HP38⟩
                case measure => simp [intOf]; omega
              · go_simp
                refine hK.out _ _ trivial (fun hHeld => ?_)
                clear hK K
                try simp only [Act.put, List.setIfInBounds_toArray, List.set_cons_zero, List.set_cons_succ]
                have HP46 := Lib.hid ((HPW.out.alloc (.cells #[.int .i64 (i : Nat)] 3)).alloc (.cells #[.int .i64 ((d : Int) + 1)] 3)).drew
                have HR47 := Lib.hid (Row.new2 W0 (.cells #[.int .i64 (i : Nat)] 3) 3 #[.int .i64 ((d : Int) + 1)])
                have HR49 := Lib.hid (HR2.out.alloc (.cells #[.int .i64 ((d : Int) + 1)] 3))
                refine wpAnyH_ready (rs := [3]) (by kernel_rfl) (by simp) ?_
                refine (AllReadyH.cons (o := _) rfl (fun K hK => ?_) AllReadyH.nil)
                refine step_append_lies _ (by rfl) _ _ _ (by rfl) w.heap.size 3 iu (.int .i64 0) 1 8 Try.underlying31 hiu hzu0 hzu1 hzu2 rfl (by omega) (.slice (some ⟨gp, 0, none⟩) M' c1) M' (ps'.map intV) (by rfl) HP46.out.own1
                  ⟨W0.heap.size, 0, none⟩ 1 1 [.int .i64 (i : Nat)] (by rfl) (by rfl) (row_one HR49.out.drew) one_oneCell (by omega) (by unfold maxLen; omega) (by omega) HP46.out.bel.size _ rfl ?_
                intro g52 cap53 W50 ho54 hg55 ha56 hl57
                have hs58 : W0.heap.size + 2 ≤ W50.heap.size := by have := hg55.size; (try simp at this); omega
                have HP51 := Lib.hid (HP46.out.push1 hg55 ho54 ha56 HP46.out.ne1)
                have HR59 := Lib.hid (HR47.out.drew.grown hg55 (ne_own (by omega)))
                clear ho54 hg55 ha56 hl57
                refine hK.out _ _ trivial (fun hHeld => ?_)
                clear hK K
                try simp only [Act.put, List.setIfInBounds_toArray]
                refine wpAnyH_ready (rs := [11]) (by kernel_rfl) (by simp) ?_
                refine (AllReadyH.cons (o := _) rfl (fun K hK => ?_) AllReadyH.nil)
                refine step_append_lies _ (by rfl) _ _ _ (by rfl) w.heap.size 3 iu (.int .i64 0) 1 8 Try.underlying31 hiu hzu0 hzu1 hzu2 rfl (by omega) (.slice (some ⟨gd, 0, none⟩) M' c2) M' (ds'.map intV) (by rfl) HP51.out.own2
                  ⟨W0.heap.size + 1, 0, none⟩ 1 1 [.int .i64 ((d : Int) + 1)] (by rfl) (by rfl) (row_one HR59.out) one_oneCell (by omega) (by unfold maxLen; omega) (by omega) HP51.out.bel.size _ rfl ?_
                intro g62 cap63 W60 ho64 hg65 ha66 hl67
                have hs68 : W50.heap.size ≤ W60.heap.size := by have := hg65.size; (try simp at this); omega
                have HP61 := Lib.hid (HP51.out.push2 hg65 ho64 ha66 HP51.out.ne2)
                clear ho64 hg65 ha66 hl67
                refine hK.out _ _ trivial (fun hHeld => ?_)
                clear hK K
                try simp only [Act.put]
                refine wpAnyH_take (i := 12) (oi := _) (v := ?_) rfl (by kernel_rfl) (by kernel_rfl) (by kernel_rfl) (fun _ _ _ h => h) (Or.inl ⟨by rfl, ?_⟩) hHeld ?_
                rotate_left
                · (intro w hSw; (try dsimp only at hSw); simp only [List.getElem_toArray, List.getElem_cons_zero, List.getElem_cons_succ]; go_simp; try with_reducible rfl)
                simp only [List.getElem_toArray, List.getElem_cons_zero, List.getElem_cons_succ, Act.put, List.setIfInBounds_toArray, List.set_cons_zero, List.set_cons_succ]
                refine wpAnyH_take (i := 13) (oi := _) (v := ?_) rfl (by kernel_rfl) (by kernel_rfl) (by kernel_rfl) (fun _ _ _ h => h) (Or.inl ⟨by rfl, ?_⟩) hHeld ?_
                rotate_left
                · (intro w hSw; (try dsimp only at hSw); simp only [List.getElem_toArray, List.getElem_cons_zero, List.getElem_cons_succ]; go_simp; try with_reducible rfl)
                simp only [List.getElem_toArray, List.getElem_cons_zero, List.getElem_cons_succ, Act.put, List.setIfInBounds_toArray, List.set_cons_zero, List.set_cons_succ]
                refine wpAnyH_done (by kernel_rfl) ?_ _
                clear hwd
                go_wp2
                go_roundw
                case rel => exact ⟨a' + 1, M' + 1, ps' ++ [i], ds' ++ [d + 1], by go_num, by omega, by omega, by omega, HGJ2, HP61⟩
                case measure => simp [intOf]; omega
          · have kx := PD.cell2 HPW.out hdi
            go_simp
            refine hK.out _ _ trivial (fun hHeld => ?_)
            clear hK K
            try simp only [Act.put, List.setIfInBounds_toArray, List.set_cons_zero, List.set_cons_succ]
            clear kx
            refine wpAnyH_take (i := 9) (oi := _) (v := ?_) rfl (by kernel_rfl) (by kernel_rfl) (by kernel_rfl) (fun _ _ _ h => h) (Or.inl ⟨by rfl, ?_⟩) hHeld ?_
            rotate_left
            · (intro w hSw; (try dsimp only at hSw); simp only [List.getElem_toArray, List.getElem_cons_zero, List.getElem_cons_succ]; go_simp; try with_reducible rfl)
            simp only [List.getElem_toArray, List.getElem_cons_zero, List.getElem_cons_succ, Act.put, List.setIfInBounds_toArray, List.set_cons_zero, List.set_cons_succ]
            refine wpAnyH_ready (rs := [2, 10]) (by kernel_rfl) (by simp) ?_
            refine (AllReadyH.cons (o := _) rfl (fun K hK => ?_) (AllReadyH.cons (o := _) rfl (fun K hK => ?_) AllReadyH.nil))
            · go_simp
              refine hK.out _ _ trivial (fun hHeld => ?_)
              clear hK K
              try simp only [Act.put, List.setIfInBounds_toArray, List.set_cons_zero, List.set_cons_succ]
              have HP69 := Lib.hid (HPW.out.alloc (.cells #[.int .i64 (i : Nat)] 3)).drew
              have HR70 := Lib.hid (Row.new W0 3 #[.int .i64 (i : Nat)])
              refine wpAnyH_ready (rs := [3, 10]) (by kernel_rfl) (by simp) ?_
              refine (AllReadyH.cons (o := _) rfl (fun K hK => ?_) (AllReadyH.cons (o := _) rfl (fun K hK => ?_) AllReadyH.nil))
              · refine step_append_lies _ (by rfl) _ _ _ (by rfl) w.heap.size 3 iu (.int .i64 0) 1 8 Try.underlying31 hiu hzu0 hzu1 hzu2 rfl (by omega) (.slice (some ⟨gp, 0, none⟩) M' c1) M' (ps'.map intV) (by rfl) HP69.out.own1
                  ⟨W0.heap.size, 0, none⟩ 1 1 [.int .i64 (i : Nat)] (by rfl) (by rfl) (row_one HR70.out.drew) one_oneCell (by omega) (by unfold maxLen; omega) (by omega) HP69.out.bel.size _ rfl ?_
                intro g74 cap75 W72 ho76 hg77 ha78 hl79
                have hs80 : W0.heap.size + 1 ≤ W72.heap.size := by have := hg77.size; (try simp at this); omega
                have HP73 := Lib.hid (HP69.out.push1 hg77 ho76 ha78 HP69.out.ne1)
                clear ho76 hg77 ha78 hl79
                refine hK.out _ _ trivial (fun hHeld => ?_)
                clear hK K
                try simp only [Act.put, List.setIfInBounds_toArray]
                refine wpAnyH_ready (rs := [10]) (by kernel_rfl) (by simp) ?_
                refine (AllReadyH.cons (o := _) rfl (fun K hK => ?_) AllReadyH.nil)
                go_simp
                refine hK.out _ _ trivial (fun hHeld => ?_)
                clear hK K
                try simp only [Act.put, List.setIfInBounds_toArray, List.set_cons_zero, List.set_cons_succ]
                have HP81 := Lib.hid (HP73.out.alloc (.cells #[.int .i64 ((d : Int) + 1)] 3))
                have HR82 := Lib.hid (Row.new W72 3 #[.int .i64 ((d : Int) + 1)])
                refine wpAnyH_ready (rs := [11]) (by kernel_rfl) (by simp) ?_
                refine (AllReadyH.cons (o := _) rfl (fun K hK => ?_) AllReadyH.nil)
                refine step_append_lies _ (by rfl) _ _ _ (by rfl) w.heap.size 3 iu (.int .i64 0) 1 8 Try.underlying31 hiu hzu0 hzu1 hzu2 rfl (by omega) (.slice (some ⟨gd, 0, none⟩) M' c2) M' (ds'.map intV) (by rfl) HP81.out.own2
                  ⟨W72.heap.size, 0, none⟩ 1 1 [.int .i64 ((d : Int) + 1)] (by rfl) (by rfl) (row_one HR82.out) one_oneCell (by omega) (by unfold maxLen; omega) (by omega) HP81.out.bel.size _ rfl ?_
                intro g86 cap87 W84 ho88 hg89 ha90 hl91
                have hs92 : W72.heap.size + 1 ≤ W84.heap.size := by have := hg89.size; (try simp at this); omega
                have HP85 := Lib.hid (HP81.out.push2 hg89 ho88 ha90 HP81.out.ne2)
                clear ho88 hg89 ha90 hl91
                refine hK.out _ _ trivial (fun hHeld => ?_)
                clear hK K
                try simp only [Act.put, List.setIfInBounds_toArray]
                refine wpAnyH_take (i := 12) (oi := _) (v := ?_) rfl (by kernel_rfl) (by kernel_rfl) (by kernel_rfl) (fun _ _ _ h => h) (Or.inl ⟨by rfl, ?_⟩) hHeld ?_
                rotate_left
                · (intro w hSw; (try dsimp only at hSw); simp only [List.getElem_toArray, List.getElem_cons_zero, List.getElem_cons_succ]; go_simp; try with_reducible rfl)
                simp only [List.getElem_toArray, List.getElem_cons_zero, List.getElem_cons_succ, Act.put, List.setIfInBounds_toArray, List.set_cons_zero, List.set_cons_succ]
                refine wpAnyH_take (i := 13) (oi := _) (v := ?_) rfl (by kernel_rfl) (by kernel_rfl) (by kernel_rfl) (fun _ _ _ h => h) (Or.inl ⟨by rfl, ?_⟩) hHeld ?_
                rotate_left
                · (intro w hSw; (try dsimp only at hSw); simp only [List.getElem_toArray, List.getElem_cons_zero, List.getElem_cons_succ]; go_simp; try with_reducible rfl)
                simp only [List.getElem_toArray, List.getElem_cons_zero, List.getElem_cons_succ, Act.put, List.setIfInBounds_toArray, List.set_cons_zero, List.set_cons_succ]
                refine wpAnyH_done (by kernel_rfl) ?_ _
                clear hwd
                go_wp2
                go_roundw
                case rel => exact ⟨a' + 1, M' + 1, ps' ++ [i], ds' ++ [d + 1], by go_num, by omega, by omega, by omega, HGJ2, HP85⟩
                case measure => simp [intOf]; omega
              · go_simp
                refine hK.out _ _ trivial (fun hHeld => ?_)
                clear hK K
                try simp only [Act.put, List.setIfInBounds_toArray, List.set_cons_zero, List.set_cons_succ]
                have HP93 := Lib.hid ((HPW.out.alloc (.cells #[.int .i64 (i : Nat)] 3)).alloc (.cells #[.int .i64 ((d : Int) + 1)] 3)).drew
                have HR94 := Lib.hid (Row.new2 W0 (.cells #[.int .i64 (i : Nat)] 3) 3 #[.int .i64 ((d : Int) + 1)])
                have HR96 := Lib.hid (HR70.out.alloc (.cells #[.int .i64 ((d : Int) + 1)] 3))
                refine wpAnyH_ready (rs := [3]) (by kernel_rfl) (by simp) ?_
                refine (AllReadyH.cons (o := _) rfl (fun K hK => ?_) AllReadyH.nil)
                refine step_append_lies _ (by rfl) _ _ _ (by rfl) w.heap.size 3 iu (.int .i64 0) 1 8 Try.underlying31 hiu hzu0 hzu1 hzu2 rfl (by omega) (.slice (some ⟨gp, 0, none⟩) M' c1) M' (ps'.map intV) (by rfl) HP93.out.own1
                  ⟨W0.heap.size, 0, none⟩ 1 1 [.int .i64 (i : Nat)] (by rfl) (by rfl) (row_one HR96.out.drew) one_oneCell (by omega) (by unfold maxLen; omega) (by omega) HP93.out.bel.size _ rfl ?_
                intro g99 cap100 W97 ho101 hg102 ha103 hl104
                have hs105 : W0.heap.size + 2 ≤ W97.heap.size := by have := hg102.size; (try simp at this); omega
                have HP98 := Lib.hid (HP93.out.push1 hg102 ho101 ha103 HP93.out.ne1)
                have HR106 := Lib.hid (HR94.out.drew.grown hg102 (ne_own (by omega)))
                clear ho101 hg102 ha103 hl104
                refine hK.out _ _ trivial (fun hHeld => ?_)
                clear hK K
                try simp only [Act.put, List.setIfInBounds_toArray]
                refine wpAnyH_ready (rs := [11]) (by kernel_rfl) (by simp) ?_
                refine (AllReadyH.cons (o := _) rfl (fun K hK => ?_) AllReadyH.nil)
                refine step_append_lies _ (by rfl) _ _ _ (by rfl) w.heap.size 3 iu (.int .i64 0) 1 8 Try.underlying31 hiu hzu0 hzu1 hzu2 rfl (by omega) (.slice (some ⟨gd, 0, none⟩) M' c2) M' (ds'.map intV) (by rfl) HP98.out.own2
                  ⟨W0.heap.size + 1, 0, none⟩ 1 1 [.int .i64 ((d : Int) + 1)] (by rfl) (by rfl) (row_one HR106.out) one_oneCell (by omega) (by unfold maxLen; omega) (by omega) HP98.out.bel.size _ rfl ?_
                intro g109 cap110 W107 ho111 hg112 ha113 hl114
                have hs115 : W97.heap.size ≤ W107.heap.size := by have := hg112.size; (try simp at this); omega
                have HP108 := Lib.hid (HP98.out.push2 hg112 ho111 ha113 HP98.out.ne2)
                clear ho111 hg112 ha113 hl114
                refine hK.out _ _ trivial (fun hHeld => ?_)
                clear hK K
                try simp only [Act.put]
                refine wpAnyH_take (i := 12) (oi := _) (v := ?_) rfl (by kernel_rfl) (by kernel_rfl) (by kernel_rfl) (fun _ _ _ h => h) (Or.inl ⟨by rfl, ?_⟩) hHeld ?_
                rotate_left
                · (intro w hSw; (try dsimp only at hSw); simp only [List.getElem_toArray, List.getElem_cons_zero, List.getElem_cons_succ]; go_simp; try with_reducible rfl)
                simp only [List.getElem_toArray, List.getElem_cons_zero, List.getElem_cons_succ, Act.put, List.setIfInBounds_toArray, List.set_cons_zero, List.set_cons_succ]
                refine wpAnyH_take (i := 13) (oi := _) (v := ?_) rfl (by kernel_rfl) (by kernel_rfl) (by kernel_rfl) (fun _ _ _ h => h) (Or.inl ⟨by rfl, ?_⟩) hHeld ?_
                rotate_left
                · (intro w hSw; (try dsimp only at hSw); simp only [List.getElem_toArray, List.getElem_cons_zero, List.getElem_cons_succ]; go_simp; try with_reducible rfl)
                simp only [List.getElem_toArray, List.getElem_cons_zero, List.getElem_cons_succ, Act.put, List.setIfInBounds_toArray, List.set_cons_zero, List.set_cons_succ]
                refine wpAnyH_done (by kernel_rfl) ?_ _
                clear hwd
                go_wp2
                go_roundw
                case rel => exact ⟨a' + 1, M' + 1, ps' ++ [i], ds' ++ [d + 1], by go_num, by omega, by omega, by omega, HGJ2, HP108⟩
                case measure => simp [intOf]; omega
            · go_simp
              refine hK.out _ _ trivial (fun hHeld => ?_)
              clear hK K
              try simp only [Act.put, List.setIfInBounds_toArray, List.set_cons_zero, List.set_cons_succ]
              have HP116 := Lib.hid (HPW.out.alloc (.cells #[.int .i64 ((d : Int) + 1)] 3)).drew
              have HR117 := Lib.hid (Row.new W0 3 #[.int .i64 ((d : Int) + 1)])
              refine wpAnyH_ready (rs := [2]) (by kernel_rfl) (by simp) ?_
              refine (AllReadyH.cons (o := _) rfl (fun K hK => ?_) AllReadyH.nil)
              go_simp
              refine hK.out _ _ trivial (fun hHeld => ?_)
              clear hK K
              try simp only [Act.put, List.setIfInBounds_toArray, List.set_cons_zero, List.set_cons_succ]
              have HP119 := Lib.hid ((HPW.out.alloc (.cells #[.int .i64 ((d : Int) + 1)] 3)).alloc (.cells #[.int .i64 (i : Nat)] 3)).drew
              have HR120 := Lib.hid (Row.new2 W0 (.cells #[.int .i64 ((d : Int) + 1)] 3) 3 #[.int .i64 (i : Nat)])
              have HR122 := Lib.hid (HR117.out.alloc (.cells #[.int .i64 (i : Nat)] 3))
              refine wpAnyH_ready (rs := [3]) (by kernel_rfl) (by simp) ?_
              refine (AllReadyH.cons (o := _) rfl (fun K hK => ?_) AllReadyH.nil)
              refine step_append_lies _ (by rfl) _ _ _ (by rfl) w.heap.size 3 iu (.int .i64 0) 1 8 Try.underlying31 hiu hzu0 hzu1 hzu2 rfl (by omega) (.slice (some ⟨gp, 0, none⟩) M' c1) M' (ps'.map intV) (by rfl) HP119.out.own1
                ⟨W0.heap.size + 1, 0, none⟩ 1 1 [.int .i64 (i : Nat)] (by rfl) (by rfl) (row_one HR120.out.drew) one_oneCell (by omega) (by unfold maxLen; omega) (by omega) HP119.out.bel.size _ rfl ?_
              intro g125 cap126 W123 ho127 hg128 ha129 hl130
              have hs131 : W0.heap.size + 2 ≤ W123.heap.size := by have := hg128.size; (try simp at this); omega
              have HP124 := Lib.hid (HP119.out.push1 hg128 ho127 ha129 HP119.out.ne1)
              have HR132 := Lib.hid (HR122.out.drew.grown hg128 (ne_own (by omega)))
              clear ho127 hg128 ha129 hl130
              refine hK.out _ _ trivial (fun hHeld => ?_)
              clear hK K
              try simp only [Act.put, List.setIfInBounds_toArray]
              refine wpAnyH_ready (rs := [11]) (by kernel_rfl) (by simp) ?_
              refine (AllReadyH.cons (o := _) rfl (fun K hK => ?_) AllReadyH.nil)
              refine step_append_lies _ (by rfl) _ _ _ (by rfl) w.heap.size 3 iu (.int .i64 0) 1 8 Try.underlying31 hiu hzu0 hzu1 hzu2 rfl (by omega) (.slice (some ⟨gd, 0, none⟩) M' c2) M' (ds'.map intV) (by rfl) HP124.out.own2
                ⟨W0.heap.size, 0, none⟩ 1 1 [.int .i64 ((d : Int) + 1)] (by rfl) (by rfl) (row_one HR132.out) one_oneCell (by omega) (by unfold maxLen; omega) (by omega) HP124.out.bel.size _ rfl ?_
              intro g135 cap136 W133 ho137 hg138 ha139 hl140
              have hs141 : W123.heap.size ≤ W133.heap.size := by have := hg138.size; (try simp at this); omega
              have HP134 := Lib.hid (HP124.out.push2 hg138 ho137 ha139 HP124.out.ne2)
              clear ho137 hg138 ha139 hl140
              refine hK.out _ _ trivial (fun hHeld => ?_)
              clear hK K
              try simp only [Act.put]
              refine wpAnyH_take (i := 12) (oi := _) (v := ?_) rfl (by kernel_rfl) (by kernel_rfl) (by kernel_rfl) (fun _ _ _ h => h) (Or.inl ⟨by rfl, ?_⟩) hHeld ?_
              rotate_left
              · (intro w hSw; (try dsimp only at hSw); simp only [List.getElem_toArray, List.getElem_cons_zero, List.getElem_cons_succ]; go_simp; try with_reducible rfl)
              simp only [List.getElem_toArray, List.getElem_cons_zero, List.getElem_cons_succ, Act.put, List.setIfInBounds_toArray, List.set_cons_zero, List.set_cons_succ]
              refine wpAnyH_take (i := 13) (oi := _) (v := ?_) rfl (by kernel_rfl) (by kernel_rfl) (by kernel_rfl) (fun _ _ _ h => h) (Or.inl ⟨by rfl, ?_⟩) hHeld ?_
              rotate_left
              · (intro w hSw; (try dsimp only at hSw); simp only [List.getElem_toArray, List.getElem_cons_zero, List.getElem_cons_succ]; go_simp; try with_reducible rfl)
              simp only [List.getElem_toArray, List.getElem_cons_zero, List.getElem_cons_succ, Act.put, List.setIfInBounds_toArray, List.set_cons_zero, List.set_cons_succ]
              refine wpAnyH_done (by kernel_rfl) ?_ _
              clear hwd
              go_wp2
              go_roundw
              case rel => exact ⟨a' + 1, M' + 1, ps' ++ [i], ds' ++ [d + 1], by go_num, by omega, by omega, by omega, HGJ2, HP134⟩
              case measure => simp [intOf]; omega
        | false =>
          rw [hgb] at hGET
          have HGET := Lib.hid hGET
          have HGB := Lib.hid hgb
          obtain ⟨gd, c2, rfl, hc2, hc2m⟩ := own_some HPD2.out.own2 (by omega)
          obtain ⟨gp, c1, rfl, hc1, hc1m⟩ := own_some HPD2.out.own1 (by omega)
          have HDI := Lib.hid hdi
          clear hGET hgb hdi
          go_wp2_with fail
          refine HGET.out.mono ?_
          rintro e w9 ⟨rfl, q9, rfl⟩
          have HPW := Lib.hid (HPD2.out.drewN q9)
          obtain ⟨W0, hW0⟩ : ∃ W0, wr.drewN q9 = W0 := ⟨_, rfl⟩
          rw [hW0] at HPW ⊢
          clear hW0
          have hGI := HGI.out W0 HPW.out.bel i (by omega)
          cases hmb : getB N2 n2 (i : Nat) with
          | false =>
            rw [hmb] at hGI
            have HGI1 := Lib.hid hGI
            have HG2 := Lib.hid (HGI0.out.skip HGJ.out HGB.out hlt hmb)
            clear hGI hmb
            go_wp2_with fail
            refine HGI1.out.mono ?_
            rintro e w10 ⟨rfl, q10, rfl⟩
            go_wp2
            go_roundw
            case rel => exact ⟨i + 1, a' + 1, k, M', ps', ds', ls, by go_num, rfl, by go_num, by omega, by omega, by omega, by omega, HG2, Lib.hid (HPW.out.drewN q10)⟩
            case measure => simp [intOf]; omega
          | true =>
            rw [hmb] at hGI
            have HGI1 := Lib.hid hGI
            have HMB := Lib.hid hmb
            obtain ⟨id, hid⟩ := HGI0.out.num hlt hmb HRKP.out
            have hkn := (List.getElem?_eq_some_iff.1 hid).1
            rw [HNK.out] at hkn
            have hid64 : id < 2 ^ 64 := H64.out _ (List.mem_of_getElem? hid)
            have HID := Lib.hid hid
            clear hGI hmb hid
            go_wp2_with fail
            refine HGI1.out.mono ?_
            rintro e w10 ⟨rfl, q10, rfl⟩
            have HP1 := Lib.hid (HPW.out.drewN q10)
            go_wp2_with fail
            refine (HGP.out _ HP1.out.bel k id HID.out).mono ?_
            rintro e w11 ⟨rfl, q11, rfl⟩
            have HP2 := Lib.hid (HP1.out.drewN q11)
            obtain ⟨W1, hW1⟩ : ∃ W1, (W0.drewN q10).drewN q11 = W1 := ⟨_, rfl⟩
            rw [hW1] at HP2 ⊢
            clear hW1
            have kx := HP2.out.cell2 HDI.out
            have i1 : (0 : Int) ≤ (i : Int) := by omega
            have i2 : (i : Int) < (M' : Int) := by omega
            by_cases hidn : id < nk
            case neg =>
              have g1 : decide ((nk : Int) ≤ (id : Int)) = true := by simp; omega
              have HNO : Hid (∀ L ks, ¬ CodeOf n1 N1 n2 N2 lab lst L ks) := Lib.hid (fun L ks hc => by
                have h := HGI0.out.id_ok hlt HMB.out HID.out L ks hc
                rw [HNK.out] at h
                omega)
              go_wp2
              go_ret2
              exact ⟨HP2.out.bel, none, 0, 0, false, rfl, fun h => (by cases h), fun L ks hc => (HNO.out L ks hc).elim⟩
            have g1 : decide ((nk : Int) ≤ (id : Int)) = false := by simp; omega
            have g1' : decide (nk ≤ id) = false := by simp; omega
            by_cases hd256 : d ≤ 256
            case neg =>
              have g2 : decide ((256 : Int) < (d : Int)) = true := by simp; omega
              have HNO : Hid (∀ L ks, ¬ CodeOf n1 N1 n2 N2 lab lst L ks) := Lib.hid (fun L ks hc => by
                have h := (HGJ.out.dep_ok HGB.out HDI.out L ks hc).1
                omega)
              go_wp2
              go_ret2
              exact ⟨HP2.out.bel, none, 0, 0, false, rfl, fun h => (by cases h), fun L ks hc => (HNO.out L ks hc).elim⟩
            have g2 : decide ((256 : Int) < (d : Int)) = false := by simp; omega
            have hmku := run_make_u8s d (by omega)
            have HLEN : Hid (∀ L ks y, CodeOf n1 N1 n2 N2 lab lst L ks → (allOf L ks)[i]? = some y → (str L y).length = d) := Lib.hid (fun L ks y hc hy => by
              rw [(hc.full.ok hy).strlen]
              exact (HGJ.out.dep_ok HGB.out HDI.out L ks hc).2 y hy)
            obtain ⟨Z, hZ⟩ : ∃ Z, ((List.replicate d 0).map B.u8v).toArray = Z := ⟨_, rfl⟩
            rw [hZ] at hmku
            have HP3 := Lib.hid (HP2.out.alloc (.cells Z 5))
            have HRB : Hid (Row (W1.alloc (.cells Z 5)) W1.heap.size 5 ((List.replicate d 0).map B.u8v).toArray) := Lib.hid (by rw [hZ]; exact Row.new W1 5 Z)
            have hBb := HP2.out.bel.size
            clear hZ
            go_wp2
            clear hmku g1 g1' g2 kx
            obtain ⟨Bb, hBb2⟩ : ∃ Bb, W1.heap.size = Bb := ⟨_, rfl⟩
            rw [hBb2] at HRB hBb ⊢
            obtain ⟨W2, hW2⟩ : ∃ W2, W1.alloc (.cells Z 5) = W2 := ⟨_, rfl⟩
            rw [hW2] at HRB HP3 ⊢
            clear hBb2 hW2
            go_loopw [20] (fun x20 wr => ∃ (x dx : Nat) (l : List Nat), x20 = .int .i64 x ∧ x ≤ i ∧ dx ≤ d ∧ Hid (ds'[x]? = some dx) ∧ Hid (l.length = d ∧ ∀ v ∈ l, v < 256) ∧ Hid (Fill n1 N1 n2 N2 lab lst i x dx l) ∧ Hid (Row wr Bb 5 (l.map B.u8v).toArray) ∧ Hid (PD w wr Bl (.slice (some ⟨gp, 0, none⟩) M' c1) (.slice (some ⟨gd, 0, none⟩) M' c2) M' M' ps' ds' ls)) (fun x _ => (intOf x).toNat)
            case atStart => exact ⟨i, d, List.replicate d 0, rfl, Nat.le_refl _, Nat.le_refl _, HDI, Lib.hid ⟨by simp, fun v hv => by rw [(List.mem_replicate.1 hv).2]; decide⟩, Lib.hid (Fill.start HGJ.out HGB.out HDI.out (by simp)), HRB, HP3⟩
            case round =>
              obtain ⟨x, dx, l, rfl, hxi, hdx, HDX, HLL, HFI, HRW, HPX⟩ := hrel
              have HNL2 : Hid (nl + 1 = n2) := HN2
              by_cases hgo : 0 < x ∧ x ≤ nl
              case neg =>
                have HDONE := Lib.hid (HFI.out.done (nl := nl) (by omega) HN2.out (fun L ks y hc hy => by rw [HLL.out.1]; exact HLEN.out L ks y hc hy))
                have hsl : Sl wr wr.heap.size (some ⟨Bb, 0, none⟩) d (l.map fun v : Nat => Value.int .u8 (v : Int)) := by
                  have h := Sl.of_row HRW.out d (by rw [List.size_toArray, List.length_map, HLL.out.1]; exact Nat.le_refl _)
                  rw [List.take_of_length_le (by rw [List.length_map, HLL.out.1]; exact Nat.le_refl _)] at h
                  exact h
                have hconv := conv_sl (P := Try.prog) (w := wr) 26 5 9 Try.underlying26 Try.underlying5 Try.underlying9 hsl d
                have hrl := HPX.out.row
                obtain ⟨t, ht⟩ : ∃ t, ls[id]? = some t := ⟨_, List.getElem?_eq_getElem (by rw [HGI0.out.llen, HNK.out]; exact hidn)⟩
                have kt : wr.cell? ⟨Bl, id, none⟩ = some (.string t) := by rw [hrl.cell]; simp [ht]
                have ft := hrl.frozen id
                have HGN := Lib.hid (HGI0.out.mark HGJ.out HGB.out hlt HMB.out HID.out (s := bs l) (by rw [HNK.out]; exact hidn) (by rw [bs_size, HLL.out.1]; exact hd256) (fun L ks y hc hy => by
                  rw [Go.Proofs.Ytpnkjfjkeoleaaa.B.bytesOf_bs l HLL.out.2]
                  exact HDONE.out L ks y hc hy))
                have j1 : (0 : Int) ≤ (id : Int) := by omega
                have j2 : (id : Int) < (nk : Int) := by omega
                clear hsl hrl ht
                have hgo2 : x = 0 ∨ (0 < x ∧ nl < x) := by omega
                rcases hgo2 with rfl | ⟨hx0, hxn⟩
                case' inl => have g3 : decide ((0 : Int) < 0) = false := by simp
                case' inr =>
                  have g3 : decide ((0 : Int) < (x : Int)) = true := by simp; omega
                  have g3' : decide (0 < x) = true := by simp; omega
                  have g4 : decide ((x : Int) ≤ (nl : Int)) = false := by simp; omega
                  have g4' : decide (x ≤ nl) = false := by simp; omega
                all_goals
                  clear hgo
                  go_wp2
                  go_roundw
                  case rel => exact ⟨i + 1, a' + 1, k + 1, M', ps', ds', ls.set id (bs l), by go_num, by go_num, by go_num, by omega, by omega, by omega, by omega, HGN, Lib.hid HPX.out.putStr⟩
                  case measure => simp [intOf]; omega
              case pos =>
                obtain ⟨hx0, hxn⟩ := hgo
                have g3 : decide ((0 : Int) < (x : Int)) = true := by simp; omega
                have g3' : decide (0 < x) = true := by simp; omega
                have g4 : decide ((x : Int) ≤ (nl : Int)) = true := by simp; omega
                have g4' : decide (x ≤ nl) = true := by simp; omega
                obtain ⟨px, hpx⟩ : ∃ px, ps'[x]? = some px := ⟨_, List.getElem?_eq_getElem (by rw [HGJ.out.plen]; omega)⟩
                obtain ⟨hpl, d', hd1, hd2⟩ := HGJ.out.tr.up x px (by omega) hpx
                have hdx2 : dx = d' + 1 := by have h := HDX.out; rw [hd2] at h; injection h with h; exact h.symm
                subst hdx2
                have HD1 := Lib.hid hd1
                obtain ⟨bl, ol, u, rfl, hbl, hu, hcl⟩ := HLB.out.at_ (show x - 1 < nl by omega)
                rw [List.getElem?_map] at hu
                obtain ⟨v, hv, rfl⟩ := Option.map_eq_some_iff.1 hu
                have hv8 : v < 256 := HL8.out v (List.mem_of_getElem? hv)
                have kv : wr.cell? ⟨bl, ol + (x - 1), none⟩ = some (.int .u8 (v : Nat)) := (HPX.out.bel.cell (p := ⟨bl, ol + (x - 1), none⟩) hbl).trans hcl
                have kd : wr.cell? ⟨gd, x, none⟩ = some (.int .i64 ((d' : Int) + 1)) := HPX.out.cell2 HDX.out
                have hdl : d' < l.length := by rw [HLL.out.1]; omega
                obtain ⟨la, hla⟩ : ∃ la, l[d']? = some la := ⟨_, List.getElem?_eq_getElem hdl⟩
                have kb : wr.cell? ⟨Bb, d', none⟩ = some (.int .u8 (la : Nat)) := by rw [HRW.out.cell]; simp [hla, B.u8v]
                have fb := HRW.out.frozen d'
                have HPY := Lib.hid (HPX.out.putU8 (j := d') (u := .int .u8 (v : Nat)) HRW.out hBb)
                have kp := HPY.out.cell1 hpx
                have HF2 := Lib.hid (HFI.out.step HGJ.out HGB.out (by omega) hpx hv hdl (fun L ks y hc hy => by rw [HLL.out.1]; exact HLEN.out L ks y hc hy))
                have HR2 : Hid (Row (wr.setCell ⟨Bb, d', none⟩ (.int .u8 (v : Nat))) Bb 5 ((l.set d' v).map B.u8v).toArray) := Lib.hid (by
                  have h := HRW.out.put d' (.int .u8 (v : Nat))
                  rw [List.setIfInBounds_toArray] at h
                  rw [List.map_set]
                  exact h)
                have HL2 : Hid ((l.set d' v).length = d ∧ ∀ z ∈ l.set d' v, z < 256) := Lib.hid ⟨by rw [List.length_set]; exact HLL.out.1, fun z hz => by
                  rcases List.mem_or_eq_of_mem_set hz with h | h
                  · exact HLL.out.2 z h
                  · rw [h]; exact hv8⟩
                have j1 : (0 : Int) ≤ (x : Int) - 1 := by omega
                have j9 : (1 : Int) ≤ (x : Int) := by omega
                have j2 : (x : Int) - 1 < (nl : Int) := by omega
                have j3 : ((x : Int) - 1).toNat = x - 1 := by omega
                have j4 : (0 : Int) ≤ (x : Int) := by omega
                have j5 : (x : Int) < (M' : Int) := by omega
                have j6 : (0 : Int) ≤ (d' : Int) := by omega
                have j7 : (d' : Int) < (d : Int) := by omega
                have j8 : (d' : Int) + 1 - 1 = (d' : Int) := by omega
                clear hu hcl hv hla hpx hd1 hd2 hdl
                have kd2 : (wr.setCell ⟨Bb, d', none⟩ (.int .u8 (v : Nat))).cell? ⟨gd, x, none⟩ = some (.int .i64 ((d' : Int) + 1)) := HPY.out.cell2 HDX.out
                have kv2 : (wr.setCell ⟨Bb, d', none⟩ (.int .u8 (v : Nat))).cell? ⟨bl, ol + (x - 1), none⟩ = some (.int .u8 (v : Nat)) := (HPY.out.bel.cell (p := ⟨bl, ol + (x - 1), none⟩) hbl).trans ((HPX.out.bel.cell (p := ⟨bl, ol + (x - 1), none⟩) hbl).symm.trans kv)
                have KDV := Lib.hid (And.intro kd2 kv2)
                have KP := Lib.hid kp
                clear kd2 kv2 kp
                go_wp2
                have hwx : IntKind.i64.wrap ((x : Int) - 1) = (x : Int) - 1 := IntWalk.i64_in _ (by omega)
                have hwd : IntKind.i64.wrap (d' : Int) = (d' : Int) := IntWalk.i64_in _ (by omega)
                refine wp_region_held_drew (S := fun w' => w'.cell? ⟨gd, x, none⟩ = some (.int .i64 ((d' : Int) + 1)) ∧ w'.cell? ⟨bl, ol + (x - 1), none⟩ = some (.int .u8 (v : Nat))) (by kernel_rfl) ⟨kd, kv⟩ (fun hHeld => ?_)
                refine wpAnyH_take (i := 0) (oi := _) (v := ?_) rfl (by kernel_rfl) (by kernel_rfl) (by kernel_rfl) (fun _ _ _ h => h) (Or.inl ⟨by rfl, ?_⟩) hHeld ?_
                rotate_left
                · (intro w hSw; (try dsimp only at hSw); simp only [List.getElem_toArray, List.getElem_cons_zero]; go_simp; try with_reducible rfl)
                simp only [List.getElem_toArray, List.getElem_cons_zero, Act.put, List.setIfInBounds_toArray, List.set_cons_zero, List.set_cons_succ]
                refine wpAnyH_take (i := 1) (oi := _) (v := ?_) rfl (by kernel_rfl) (by kernel_rfl) (by kernel_rfl) (fun _ _ _ h => h) (Or.inl ⟨by rfl, ?_⟩) hHeld ?_
                rotate_left
                · (intro w hSw; (try dsimp only at hSw); simp only [List.getElem_toArray, List.getElem_cons_zero, List.getElem_cons_succ]; go_simp; try with_reducible rfl)
                simp only [List.getElem_toArray, List.getElem_cons_zero, List.getElem_cons_succ, Act.put, List.setIfInBounds_toArray, List.set_cons_zero, List.set_cons_succ]
                refine wpAnyH_take (i := 2) (oi := _) (v := ?_) rfl (by kernel_rfl) (by kernel_rfl) (by kernel_rfl) (fun _ _ _ h => h) (Or.inl ⟨by rfl, ?_⟩) hHeld ?_
                rotate_left
                · (intro w hSw; (try dsimp only at hSw); simp only [List.getElem_toArray, List.getElem_cons_zero, List.getElem_cons_succ]; go_simp; try with_reducible rfl)
                simp only [List.getElem_toArray, List.getElem_cons_zero, List.getElem_cons_succ, Act.put, List.setIfInBounds_toArray, List.set_cons_zero, List.set_cons_succ]
                refine wpAnyH_take (i := 3) (oi := _) (v := ?_) rfl (by kernel_rfl) (by kernel_rfl) (by kernel_rfl) (fun _ _ _ h => h) (Or.inl ⟨by rfl, ?_⟩) hHeld ?_
                rotate_left
                · (intro w hSw; (try dsimp only at hSw); simp only [List.getElem_toArray, List.getElem_cons_zero, List.getElem_cons_succ]; go_simp; try with_reducible rfl)
                simp only [List.getElem_toArray, List.getElem_cons_zero, List.getElem_cons_succ, Act.put, List.setIfInBounds_toArray, List.set_cons_zero, List.set_cons_succ]
                refine wpAnyH_take (i := 4) (oi := _) (v := ?_) rfl (by kernel_rfl) (by kernel_rfl) (by kernel_rfl) (fun _ _ _ h => h) (Or.inl ⟨by rfl, ?_⟩) hHeld ?_
                rotate_left
                · (intro w hSw; (try dsimp only at hSw); simp only [List.getElem_toArray, List.getElem_cons_zero, List.getElem_cons_succ]; go_simp; try with_reducible rfl)
                simp only [List.getElem_toArray, List.getElem_cons_zero, List.getElem_cons_succ, Act.put, List.setIfInBounds_toArray, List.set_cons_zero, List.set_cons_succ]
                refine wpAnyH_take (i := 5) (oi := _) (v := ?_) rfl (by kernel_rfl) (by kernel_rfl) (by kernel_rfl) (fun _ _ _ h => h) (Or.inl ⟨by rfl, ?_⟩) hHeld ?_
                rotate_left
                · (intro w hSw; (try dsimp only at hSw); simp only [List.getElem_toArray, List.getElem_cons_zero, List.getElem_cons_succ]; go_simp; try with_reducible rfl)
                simp only [List.getElem_toArray, List.getElem_cons_zero, List.getElem_cons_succ, Act.put, List.setIfInBounds_toArray, List.set_cons_zero, List.set_cons_succ]
                refine wpAnyH_take (i := 6) (oi := _) (v := ?_) rfl (by kernel_rfl) (by kernel_rfl) (by kernel_rfl) (fun _ _ _ h => h) (Or.inl ⟨by rfl, ?_⟩) hHeld ?_
                rotate_left
                · (intro w hSw; (try dsimp only at hSw); simp only [List.getElem_toArray, List.getElem_cons_zero, List.getElem_cons_succ]; go_simp; try with_reducible rfl)
                simp only [List.getElem_toArray, List.getElem_cons_zero, List.getElem_cons_succ, Act.put, List.setIfInBounds_toArray, List.set_cons_zero, List.set_cons_succ]
                refine wpAnyH_take (i := 7) (oi := _) (v := ?_) rfl (by kernel_rfl) (by kernel_rfl) (by kernel_rfl) (fun _ _ _ h => h) (Or.inl ⟨by rfl, ?_⟩) hHeld ?_
                rotate_left
                · (intro w hSw; (try dsimp only at hSw); simp only [List.getElem_toArray, List.getElem_cons_zero, List.getElem_cons_succ]; go_simp; try with_reducible rfl)
                simp only [List.getElem_toArray, List.getElem_cons_zero, List.getElem_cons_succ, Act.put, List.setIfInBounds_toArray, List.set_cons_zero, List.set_cons_succ]
                refine wpAnyH_take (i := 8) (oi := _) (v := ?_) rfl (by kernel_rfl) (by kernel_rfl) (by kernel_rfl) (fun _ _ _ h => h) (Or.inl ⟨by rfl, ?_⟩) hHeld ?_
                rotate_left
                · (intro w hSw; (try dsimp only at hSw); simp only [List.getElem_toArray, List.getElem_cons_zero, List.getElem_cons_succ]; go_simp; try with_reducible rfl)
                simp only [List.getElem_toArray, List.getElem_cons_zero, List.getElem_cons_succ, Act.put, List.setIfInBounds_toArray, List.set_cons_zero, List.set_cons_succ]
                refine wpAnyH_take (i := 9) (oi := _) (v := ?_) rfl (by kernel_rfl) (by kernel_rfl) (by kernel_rfl) (fun _ _ _ h => h) (Or.inl ⟨by rfl, ?_⟩) hHeld ?_
                rotate_left
                · (intro w hSw; (try dsimp only at hSw); simp only [List.getElem_toArray, List.getElem_cons_zero, List.getElem_cons_succ]; go_simp; try with_reducible rfl)
                simp only [List.getElem_toArray, List.getElem_cons_zero, List.getElem_cons_succ, Act.put, List.setIfInBounds_toArray, List.set_cons_zero, List.set_cons_succ]
                refine wpAnyH_take (i := 10) (oi := _) (v := ?_) rfl (by kernel_rfl) (by kernel_rfl) (by kernel_rfl) (fun _ _ _ h => h) (Or.inl ⟨by rfl, ?_⟩) hHeld ?_
                rotate_left
                · (intro w hSw; (try dsimp only at hSw); simp only [List.getElem_toArray, List.getElem_cons_zero, List.getElem_cons_succ]; go_simp; try with_reducible rfl)
                simp only [List.getElem_toArray, List.getElem_cons_zero, List.getElem_cons_succ, Act.put, List.setIfInBounds_toArray, List.set_cons_zero, List.set_cons_succ]
                refine wpAnyH_take (i := 11) (oi := _) (v := ?_) rfl (by kernel_rfl) (by kernel_rfl) (by kernel_rfl) (fun _ _ _ h => h) (Or.inl ⟨by rfl, ?_⟩) hHeld ?_
                rotate_left
                · (intro w hSw; (try dsimp only at hSw); simp only [List.getElem_toArray, List.getElem_cons_zero, List.getElem_cons_succ]; go_simp; try with_reducible rfl)
                simp only [List.getElem_toArray, List.getElem_cons_zero, List.getElem_cons_succ, Act.put, List.setIfInBounds_toArray, List.set_cons_zero, List.set_cons_succ]
                refine wpAnyH_ready (rs := [12]) (by kernel_rfl) (by simp) ?_
                refine AllReadyH.cons (o := _) rfl (fun K hK => ?_) AllReadyH.nil
                go_simp
                refine hK.out _ _ (KDV.out) (fun hHeld => ?_)
                clear hK K
                try simp only [Act.put, List.setIfInBounds_toArray, List.set_cons_zero, List.set_cons_succ]
                refine wpAnyH_done (by kernel_rfl) ?_ _
                clear hwx hwd
                obtain ⟨W5, hW5⟩ : ∃ W5, wr.setCell ⟨Bb, d', none⟩ (.int .u8 (v : Nat)) = W5 := ⟨_, rfl⟩
                rw [hW5] at HPY HR2 KP ⊢
                have kp := KP.out
                clear hW5 KDV kd kv kb fb
                go_wp2
                go_roundw
                case rel => exact ⟨px, d', l.set d' v, rfl, by omega, by omega, HD1, HL2, HF2, Lib.hid HR2.out.drew, Lib.hid HPY.out.drew⟩
                case measure => simp [intOf]; omega
end Go.Proofs.Ytpnkjfjkeoleaaa.LD
