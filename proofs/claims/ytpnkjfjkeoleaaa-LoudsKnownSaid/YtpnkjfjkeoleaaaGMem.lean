/- GMem: several texts in one: Words for memory: a block that is known whole, a slice that reads as a list. Conditions: those each theorem names. More words for memory: append from a slice that reads as a list; an argument's row as a list. Conditions: those each theorem names. A slice of the call's own whose elements are overwritten one after the other; everything else stays. Conditions: those each theorem names. Bytes as strings: string(b), and two strings that are equal. Conditions: those each theorem names. General words: worlds that agree on a range of blocks; slices that lie in such a range. Conditions: those each theorem names. A slice of the call's own whose elements are overwritten one after the other, whatever they are; the rest stays. Conditions: those each theorem names. Conditions: those each theorem names. -/
import Derived.WalkKit
import Derived.Below
import Derived.Laws.OwnMore
import Derived.Deep.Draws
import Derived.Laws.Rows
import Derived.Maps.AppendAt
import Derived.OwnWalk
import Derived.ProofKit
import Derived.Laws.BytesArg
import Derived.Lib.Hide
/-! Words for memory: a block that is known whole, a slice that reads as a list. Conditions: those each theorem names. -/
set_option linter.unusedVariables false
set_option maxRecDepth 100000
namespace Go.Proofs.Ytpnkjfjkeoleaaa
open Go.RowKit

/-- Block g consists of just these cells of type t, none frozen. -/
def Row (w : World) (g : Nat) (t : TypeId) (cs : Array Value) : Prop := w.heap[g]? = some (.cells cs t (0, 0))

section
variable {w w' : World} {g : Nat} {t : TypeId} {cs : Array Value}
theorem Row.lt (h : Row w g t cs) : g < w.heap.size := by
  unfold Row at h
  exact (Array.getElem?_eq_some_iff.1 h).1
theorem Row.cell (h : Row w g t cs) (i : Nat) : w.cell? ⟨g, i, none⟩ = cs[i]? := cell_of_row w g i cs t (0, 0) h
theorem Row.frozen (h : Row w g t cs) (i : Nat) : w.frozen? ⟨g, i, none⟩ = false := by
  unfold Row at h
  simp [World.frozen?, h]
theorem Row.new (w : World) (t : TypeId) (cs : Array Value) : Row (w.alloc (.cells cs t)) w.heap.size t cs := heap_alloc_new w _
theorem Row.new2 (w : World) (o : Obj) (t : TypeId) (cs : Array Value) : Row ((w.alloc o).alloc (.cells cs t)) (w.heap.size + 1) t cs := by
  have h := Row.new (w.alloc o) t cs
  rwa [World.size_alloc] at h
theorem Row.new3 (w : World) (o o2 : Obj) (t : TypeId) (cs : Array Value) : Row (((w.alloc o).alloc o2).alloc (.cells cs t)) (w.heap.size + 2) t cs := by
  have h := Row.new ((w.alloc o).alloc o2) t cs
  rwa [World.size_alloc, World.size_alloc] at h
theorem Row.drew (h : Row w g t cs) : Row w.drew g t cs := h
theorem Row.drewN (h : Row w g t cs) (n : Nat) : Row (w.drewN n) g t cs := h
theorem Row.alloc (h : Row w g t cs) (o : Obj) : Row (w.alloc o) g t cs := (Below.heap_alloc w o g h.lt).trans h
theorem Row.put (h : Row w g t cs) (i : Nat) (u : Value) : Row (w.setCell ⟨g, i, none⟩ u) g t (cs.setIfInBounds i u) := by
  unfold Row at h ⊢
  simp [World.setCell, Array.getElem?_modify, h]
theorem Row.far (h : Row w g t cs) {p : Addr} (hp : g ≠ p.block) (u : Value) : Row (w.setCell p u) g t cs := (Below.heap_setCell w p u g hp).trans h
theorem Row.below {B : Nat} (h : Row w g t cs) (hb : Below B w w') (hg : g < B) : Row w' g t cs := (hb.block g hg).trans h
theorem Row.grown {row : Option Nat} (h : Row w g t cs) (hb : w.grownBy w' row) (hg : some g ≠ row) : Row w' g t cs := (hb.block g h.lt hg).trans h
theorem Row.apart {g' : Nat} {t' : TypeId} {cs' : Array Value} (h : Row w g t cs) (h' : Row w g' t' cs') (hne : t ≠ t') : g ≠ g' := by
  rintro rfl
  unfold Row at h h'
  rw [h] at h'
  injection h' with h'
  injection h' with _ ht
  exact hne ht
end

/-- The slice value '.slice A n c' reads as the list xs (n of them), in blocks below B. -/
def Sl (w : World) (B : Nat) (A : Option Addr) (n : Nat) (xs : List Value) : Prop :=
  xs.length = n ∧ (0 < n → ∃ b off, A = some ⟨b, off, none⟩ ∧ b < B ∧ ∀ j u, xs[j]? = some u → w.cell? ⟨b, off + j, none⟩ = some u)

section
variable {w w' : World} {B B' n : Nat} {A : Option Addr} {xs : List Value}
theorem Sl.keep (h : Sl w B A n xs) (hk : ∀ b o, b < B → w'.cell? ⟨b, o, none⟩ = w.cell? ⟨b, o, none⟩) : Sl w' B A n xs :=
  ⟨h.1, fun hn => by
    obtain ⟨b, off, e, hb, hc⟩ := h.2 hn
    exact ⟨b, off, e, hb, fun j u hu => (hk _ _ hb).trans (hc j u hu)⟩⟩
theorem Sl.more (h : Sl w B A n xs) (hB : B ≤ B') : Sl w B' A n xs :=
  ⟨h.1, fun hn => by
    obtain ⟨b, off, e, hb, hc⟩ := h.2 hn
    exact ⟨b, off, e, by omega, hc⟩⟩
theorem Sl.below (h : Sl w B A n xs) (hb : Below B w w') : Sl w' B A n xs := h.keep fun b o hp => hb.cell (p := ⟨b, o, none⟩) hp
theorem Sl.drew (h : Sl w B A n xs) : Sl w.drew B A n xs := h
theorem Sl.drewN (h : Sl w B A n xs) (k : Nat) : Sl (w.drewN k) B A n xs := h
theorem Sl.alloc (h : Sl w B A n xs) (hB : B ≤ w.heap.size) (o : Obj) : Sl (w.alloc o) B A n xs := h.keep fun b o' hp => World.cell?_alloc_lt w o ⟨b, o', none⟩ (by show b < w.heap.size; omega)
theorem Sl.at_ {k : Nat} (h : Sl w B A n xs) (hk : k < n) : ∃ b off u, A = some ⟨b, off, none⟩ ∧ b < B ∧ xs[k]? = some u ∧ w.cell? ⟨b, off + k, none⟩ = some u := by
  obtain ⟨b, off, e, hb, hc⟩ := h.2 (by omega)
  have hl : k < xs.length := by have := h.1; omega
  exact ⟨b, off, xs[k], e, hb, List.getElem?_eq_getElem hl, hc k _ (List.getElem?_eq_getElem hl)⟩
end
theorem Sl.of_row {w : World} {g : Nat} {t : TypeId} {cs : Array Value} (h : Row w g t cs) (n : Nat) (hn : n ≤ cs.size) : Sl w w.heap.size (some ⟨g, 0, none⟩) n (cs.toList.take n) := by
  refine ⟨by simp; omega, fun _ => ⟨g, 0, rfl, h.lt, fun j u hu => ?_⟩⟩
  rw [Nat.zero_add, h.cell]
  have hj : j < n := by
    rcases Nat.lt_or_ge j n with h1 | h1
    · exact h1
    · rw [List.getElem?_eq_none (by simp; omega)] at hu; cases hu
  rw [List.getElem?_take_of_lt hj] at hu
  simpa using hu

theorem Sl.of_own {w : World} {base : Nat} {e : TypeId} {A : Option Addr} {n c : Nat} {xs : List Value} (h : w.ownsRow base e 1 (.slice A n c) n xs) : Sl w w.heap.size A n xs := by
  refine ⟨by have := h.1; omega, fun hn => ?_⟩
  rcases h.2 with ⟨hv, h0⟩ | ⟨g, cap, cur, hv, hb, hh, hnc, hm, hs, ht⟩
  · omega
  · injection hv with h1 h2 h3
    refine ⟨g, 0, h1, (Array.getElem?_eq_some_iff.1 hh).1, fun j u hu => ?_⟩
    have hj : j < xs.length := by
      rcases Nat.lt_or_ge j xs.length with h4 | h4
      · exact h4
      · rw [List.getElem?_eq_none h4] at hu; cases hu
    rw [Nat.zero_add, cell_of_row w g j cur e (0, 0) hh]
    have hx : xs.length = n := by have := h.1; omega
    rw [← ht, List.getElem?_take_of_lt (by omega)] at hu
    simpa using hu
/-- An owned slice: its shape. -/
theorem own_shape {w : World} {base : Nat} {e : TypeId} {v : Value} {n : Nat} {xs : List Value} (h : w.ownsRow base e 1 v n xs) : ∃ A c, v = .slice A n c ∧ n ≤ c ∧ c ≤ maxLen := by
  rcases h.2 with ⟨hv, h0⟩ | ⟨g, cap, cur, hv, hb, hh, hnc, hm, hs, ht⟩
  · subst h0; exact ⟨none, 0, hv, Nat.le_refl _, Nat.zero_le _⟩
  · exact ⟨_, _, hv, hnc, hm⟩
theorem own_len {w : World} {base : Nat} {e : TypeId} {v : Value} {n : Nat} {xs : List Value} (h : w.ownsRow base e 1 v n xs) : xs.length = n := by have := h.1; omega
theorem own_below {w w' : World} {base B : Nat} {e : TypeId} {v : Value} {n : Nat} {xs : List Value} (h : w.ownsRow base e 1 v n xs) (hb : Below B w w') (hlt : ∀ k, v.ownBlock = some k → k < B) : w'.ownsRow base e 1 v n xs := by
  refine ⟨h.1, ?_⟩
  rcases h.2 with h0 | ⟨g, cap, cur, hv, hbg, hh, hr⟩
  · exact .inl h0
  · refine .inr ⟨g, cap, cur, hv, hbg, ?_, hr⟩
    rw [hb.block g (hlt g (by rw [hv]; rfl))]
    exact hh
theorem own_base {w : World} {base base' : Nat} {e : TypeId} {v : Value} {n : Nat} {xs : List Value} (h : w.ownsRow base e 1 v n xs) (hb : base' ≤ base) : w.ownsRow base' e 1 v n xs := by
  refine ⟨h.1, ?_⟩
  rcases h.2 with h0 | ⟨g, cap, cur, hv, hbg, hr⟩
  · exact .inl h0
  · exact .inr ⟨g, cap, cur, hv, by omega, hr⟩
theorem one_oneCell {k : IntKind} {v : Int} : ∀ u ∈ [Value.int k v], u.oneCell' = true := by
  intro u hu
  simp at hu
  subst hu
  rfl
theorem bel_drewN {B : Nat} {a w : World} (h : Below B a w) (n : Nat) : Below B a (w.drewN n) := ⟨h.os, h.tape, h.output, h.size, h.block⟩
theorem own_drewN {w : World} {base : Nat} {e : TypeId} {v : Value} {n : Nat} {xs : List Value} (h : w.ownsRow base e 1 v n xs) (k : Nat) : (w.drewN k).ownsRow base e 1 v n xs := h
/-- A round that appends one element: the old blocks stay. -/
theorem bel_app {B : Nat} {w wr w1 : World} {e : TypeId} {v : Value} {n : Nat} {xs : List Value} {o : Obj} (hB : Below B w wr) (hw : B ≤ w.heap.size) (hown : wr.ownsRow B e 1 v n xs) (hg : (wr.alloc o).grownBy w1 v.ownBlock) : Below B w w1 :=
  (hB.alloc (Nat.le_trans hw hB.size) o).grown hg (by have := hB.size; simp; omega) (fun q e => (hown.lt q e).1)
end Go.Proofs.Ytpnkjfjkeoleaaa

/-! More words for memory: append from a slice that reads as a list; an argument's row as a list. Conditions: those each theorem names. -/
set_option linter.unusedVariables false
namespace Go.Proofs.Ytpnkjfjkeoleaaa
open Go.RowKit
section
variable {P : Program} (w : World)
theorem run_append_nil_src (base : Nat) (t ty e : TypeId) (i : TypeInfo) (size : Nat) (ht : P.underlying t = some (.slice e)) (hi : P.info? e = some i)
    (v : Value) (n : Nat) (xs : List Value) (hown : w.ownsRow base e size v n xs) (c : Nat) : (Builtin.append_ #[t, t] ty #[v, .slice none 0 c]).run P w = .ok v w := by
  rcases hown.2 with ⟨rfl, rfl⟩ | ⟨g, cap, cur, rfl, _, _, hnc, _⟩
  · simp [Builtin.append_, run_underlying ht, sizeOf, typeInfo, hi, Builtin.lenOf, Builtin.firstCells]
  · simp [Builtin.append_, run_underlying ht, sizeOf, typeInfo, hi, Builtin.lenOf, Builtin.firstCells, hnc, storeCells]
theorem run_append_sl (base : Nat) (t ty e : TypeId) (i : TypeInfo) (z : Value) (bytes : Nat) (ht : P.underlying t = some (.slice e)) (hi : P.info? e = some i) (hz : i.zero = some z)
    (hsize : i.size = 1) (hby : i.bytes = bytes) (hzs : z.cells.size = 1)
    (v : Value) (n : Nat) (xs : List Value) (hown : w.ownsRow base e 1 v n xs)
    (B : Nat) (A : Option Addr) (m c : Nat) (news : List Value) (hr : Sl w B A m news) (h1 : ∀ u ∈ news, u.oneCell' = true)
    (h63 : n + m ≤ maxLen) (hbytes : (n + m) * bytes ≤ 140737488355328) (hbase : base ≤ w.heap.size) :
    ∃ v' w', (Builtin.append_ #[t, t] ty #[v, .slice A m c]).run P w = .ok v' w' ∧ w'.ownsRow base e 1 v' (n + m) (xs ++ news) ∧ w.grownBy w' v.ownBlock ∧
      (v'.ownBlock = v.ownBlock ∨ v'.ownBlock = some w.heap.size) := by
  have hnil : m = 0 → news = [] := fun h0 => List.eq_nil_of_length_eq_zero (by rw [hr.1, h0])
  rcases A with _ | ad
  · have hm : m = 0 := by
      rcases Nat.eq_zero_or_pos m with h0 | h0
      · exact h0
      · obtain ⟨b, off, h, _⟩ := hr.2 h0
        cases h
    obtain rfl := hnil hm
    subst hm
    exact ⟨v, w, run_append_nil_src w base t ty e i 1 ht hi v n xs hown c, by simpa using hown, World.grownBy.refl w _, .inl rfl⟩
  · have hcells : ∀ j u, news[j]? = some u → w.cell? (ad.add j) = some u := by
      intro j u hu
      rcases Nat.eq_zero_or_pos m with h0 | h0
      · rw [hnil h0] at hu
        simp at hu
      · obtain ⟨b, off, h, _, hc⟩ := hr.2 h0
        injection h with h
        subst h
        have := hc j u hu
        unfold Addr.add
        by_cases hj : j = 0
        · subst hj; simpa using this
        · simpa [hj] using this
    obtain ⟨v', w', hrun, h2, h3, _, h5⟩ := run_append_own_at (P := P) w base t ty e i z 1 bytes ht hi hz hsize hby hzs (by decide) v n xs hown ad m c news (by rw [hr.1]; omega) hcells h1 h63 hbytes hbase
    exact ⟨v', w', hrun, h2, h3, h5⟩
theorem wpList_append_sl {ops : Array Oper} {rest : List Oper} {o : Oper} {a : Act} {Q : Exit → Act → World → Prop} (hgd : o.guard = none) (s x : Operand) (t : TypeId)
    (ho : o.op = .call { callee := .builtin .append, args := #[s, x], argTypes := #[t, t] })
    (base : Nat) (e : TypeId) (i : TypeInfo) (z : Value) (bytes : Nat) (ht : P.underlying t = some (.slice e)) (hi : P.info? e = some i) (hz : i.zero = some z)
    (hsize : i.size = 1) (hby : i.bytes = bytes) (hzs : z.cells.size = 1)
    (v : Value) (n : Nat) (xs : List Value) (hs : a.eval s = v) (hown : w.ownsRow base e 1 v n xs)
    (B : Nat) (A : Option Addr) (m c : Nat) (news : List Value) (hx : a.eval x = .slice A m c) (hr : Sl w B A m news) (h1 : ∀ u ∈ news, u.oneCell' = true)
    (h63 : n + m ≤ maxLen) (hbytes : (n + m) * bytes ≤ 140737488355328) (hbase : base ≤ w.heap.size)
    (h : ∀ v' w', w'.ownsRow base e 1 v' (n + m) (xs ++ news) → w.grownBy w' v.ownBlock → (v'.ownBlock = v.ownBlock ∨ v'.ownBlock = some w.heap.size) → wpList P ops Q rest (a.put o.dst v') w') : wpList P ops Q (o :: rest) a w :=
  wpList_plain hgd fun _ hK => by
    obtain ⟨v', w', hrun, h2, h3, h4⟩ := run_append_sl (P := P) w base t o.type e i z bytes ht hi hz hsize hby hzs v n xs hown B A m c news hr h1 h63 hbytes hbase
    unfold Oper.wp execOp
    simp only [ho, resolve, invoke, builtin, Sem.run_bind, Sem.run_pure, Result.andThen_ok, List.map_toArray, List.map_cons, List.map_nil, hs, hx, hrun]
    exact hK _ _ (h v' w' h2 h3 h4)
end

/-- An argument that is a slice of integers, as the row hands it over. -/
def ArgRow (k : IntKind) (w : World) (a : Option Addr) (len cap : Nat) (zs : List Int) : Prop :=
  (a = none ∧ len = 0 ∧ cap = 0 ∧ zs = []) ∨
  ∃ x, a = some x ∧ len ≤ cap ∧ cap ≤ maxLen ∧ zs.length = cap ∧ (∀ i, i < zs.length → w.cell? (x.add i) = some (.int k (zs.getD i 0))) ∧ ∀ n ∈ zs, (Lit.int k n).wf = true

theorem cell_lt {w : World} {p : Addr} {u : Value} (h : w.cell? p = some u) : p.block < w.heap.size := by
  rcases Nat.lt_or_ge p.block w.heap.size with h1 | h1
  · exact h1
  · unfold World.cell? at h
    rw [Array.getElem?_eq_none h1] at h
    simp at h

theorem arg_sl {k : IntKind} {w : World} {a : Option Addr} {len cap : Nat} {zs : List Int} (h : ArgRow k w a len cap zs) (hk : ∀ n : Int, (Lit.int k n).wf = true → 0 ≤ n) :
    ∃ l : List Nat, l.length = len ∧ len ≤ cap ∧ cap ≤ maxLen ∧ (∀ v ∈ l, (Lit.int k (v : Int)).wf = true) ∧ Sl w w.heap.size a len (l.map fun v : Nat => Value.int k (v : Int)) := by
  rcases h with ⟨rfl, rfl, rfl, rfl⟩ | ⟨x, rfl, h1, h2, h3, h4, h5⟩
  · exact ⟨[], rfl, Nat.le_refl _, Nat.zero_le _, by simp, ⟨rfl, fun h => by omega⟩⟩
  · refine ⟨(zs.take len).map Int.toNat, by simp; omega, h1, h2, ?_, ?_⟩
    · intro v hv
      obtain ⟨z, hz, rfl⟩ := List.mem_map.1 hv
      have hz' := h5 z (List.mem_of_mem_take hz)
      rw [Int.toNat_of_nonneg (hk z hz')]
      exact hz'
    · refine ⟨by simp; omega, fun h0 => ?_⟩
      obtain ⟨b, off, spot⟩ := x
      have hc := h4 0 (by omega)
      have hspot : spot = none := by simpa [Addr.add] using World.cell?_spot hc
      subst hspot
      have hlt := cell_lt hc
      refine ⟨b, off, rfl, by simpa [Addr.add] using hlt, fun j u hu => ?_⟩
      rw [List.map_map, List.getElem?_map] at hu
      obtain ⟨z, hz, rfl⟩ := Option.map_eq_some_iff.1 hu
      have hj : j < len := by
        rcases Nat.lt_or_ge j len with h6 | h6
        · exact h6
        · rw [List.getElem?_eq_none (by simp; omega)] at hz; cases hz
      rw [List.getElem?_take_of_lt hj] at hz
      have hc := h4 j (by omega)
      have hzj : zs.getD j 0 = z := by rw [List.getD_eq_getElem?_getD, hz]; rfl
      rw [hzj] at hc
      have hzw := hk z (h5 z (List.mem_of_getElem? hz))
      simp only [Function.comp_apply, Int.toNat_of_nonneg hzw]
      rw [← hc]
      unfold Addr.add
      by_cases hj0 : j = 0
      · subst hj0; simp
      · simp [hj0]
theorem nn_u64 (n : Int) (h : (Lit.int .u64 n).wf = true) : 0 ≤ n := by
  simp only [Lit.wf, Bool.and_eq_true, decide_eq_true_eq] at h; exact h.1
theorem nn_u32 (n : Int) (h : (Lit.int .u32 n).wf = true) : 0 ≤ n := by
  simp only [Lit.wf, Bool.and_eq_true, decide_eq_true_eq] at h; exact h.1
theorem nn_u8 (n : Int) (h : (Lit.int .u8 n).wf = true) : 0 ≤ n := by
  simp only [Lit.wf, Bool.and_eq_true, decide_eq_true_eq] at h; exact h.1
theorem lt_u64 (n : Nat) (h : (Lit.int .u64 (n : Int)).wf = true) : n < 2 ^ 64 := by
  simp only [Lit.wf, Bool.and_eq_true, decide_eq_true_eq] at h
  have h2 : (n : Int) ≤ 18446744073709551615 := h.2
  omega
theorem lt_u32 (n : Nat) (h : (Lit.int .u32 (n : Int)).wf = true) : n < 2 ^ 32 := by
  simp only [Lit.wf, Bool.and_eq_true, decide_eq_true_eq] at h
  have h2 : (n : Int) ≤ 4294967295 := h.2
  omega
theorem lt_u8 (n : Nat) (h : (Lit.int .u8 (n : Int)).wf = true) : n < 256 := by
  simp only [Lit.wf, Bool.and_eq_true, decide_eq_true_eq] at h
  have h2 : (n : Int) ≤ 255 := h.2
  omega
theorem rg_i64 (n : Int) (h : (Lit.int .i64 n).wf = true) : -9223372036854775808 ≤ n ∧ n ≤ 9223372036854775807 := by
  simp only [Lit.wf, Bool.and_eq_true, decide_eq_true_eq] at h
  exact ⟨h.1, h.2⟩
end Go.Proofs.Ytpnkjfjkeoleaaa

/-! A slice of the call's own whose elements are overwritten one after the other; everything else stays. Conditions: those each theorem names. -/
set_option linter.unusedVariables false
namespace Go.Proofs.Ytpnkjfjkeoleaaa
open Go.RowKit

def Bump (t : TypeId) (k : IntKind) (W wr : World) (base : Nat) (v : Value) (n : Nat) : Prop :=
  (∃ ys : List Nat, ys.length = n ∧ wr.ownsRow base t 1 v n (ys.map fun y : Nat => Value.int k (y : Int))) ∧ W.grownBy wr v.ownBlock
theorem Bump.start {t : TypeId} {k : IntKind} {W : World} {base : Nat} {v : Value} {n : Nat} {ys : List Nat} (h : W.ownsRow base t 1 v n (ys.map fun y : Nat => Value.int k (y : Int))) : Bump t k W W base v n :=
  ⟨⟨ys, by have := own_len h; simpa using this, h⟩, World.grownBy.refl _ _⟩
theorem Bump.at_ {t : TypeId} {k : IntKind} {W wr : World} {base : Nat} {A : Option Addr} {n c j : Nat} (h : Bump t k W wr base (.slice A n c) n) (hj : j < n) :
    ∃ gm y, A = some ⟨gm, 0, none⟩ ∧ wr.cell? ⟨gm, j, none⟩ = some (.int k (y : Nat)) ∧ wr.frozen? ⟨gm, j, none⟩ = false ∧
      ∀ z : Nat, Bump t k W (wr.setCell ⟨gm, j, none⟩ (.int k (z : Int))) base (.slice A n c) n := by
  obtain ⟨⟨ys, hy, hown⟩, hg⟩ := h
  rcases hown.2 with ⟨_, h0⟩ | ⟨gm, cap, cur, hv, hbg, hr⟩
  · omega
  · injection hv with hA _ hc
    subst hA hc
    refine ⟨gm, ys[j], rfl, ?_, hown.frozenAt j, fun z => ?_⟩
    · rw [hown.cellAt j (by omega), List.getElem?_map, List.getElem?_eq_getElem (by omega)]; rfl
    · have hs := hown.stored j (.int k (z : Int))
      refine ⟨⟨ys.set j z, by simp [hy], ?_⟩, hg.trans hs.2⟩
      rw [List.map_set]
      exact hs.1
theorem Bump.below {t : TypeId} {k : IntKind} {W wr : World} {base B : Nat} {v : Value} {n : Nat} (h : Bump t k W wr base v n) (hb : B ≤ base) (hW : B ≤ W.heap.size) : Below B W wr := by
  obtain ⟨⟨ys, hy, hown⟩, hg⟩ := h
  exact (Below.refl _ _).grown hg hW (fun q e => by have := (hown.lt q e).1; omega)
theorem Bump.row {t t' : TypeId} {k : IntKind} {W wr : World} {base : Nat} {v : Value} {n g : Nat} {cs : Array Value} (h : Bump t k W wr base v n) (hr : Row W g t' cs) (hne : v.ownBlock ≠ some g) : Row wr g t' cs :=
  hr.grown h.2 (fun e => hne e.symm)
theorem Sl.grown {w w' : World} {B : Nat} {A : Option Addr} {n : Nat} {xs : List Value} {row : Option Nat} (h : Sl w B A n xs) (hg : w.grownBy w' row) (hB : B ≤ w.heap.size) (hr : ∀ q, row = some q → B ≤ q) : Sl w' B A n xs :=
  h.keep fun b o hp => World.cell?_of_block (a := ⟨b, o, none⟩) (hg.block b (by omega) (fun e => by have := hr b e.symm; omega))
end Go.Proofs.Ytpnkjfjkeoleaaa

/-! Bytes as strings: string(b), and two strings that are equal. Conditions: those each theorem names. -/
set_option linter.unusedVariables false
namespace Go.Proofs.Ytpnkjfjkeoleaaa
open Go.RowKit

/-- The string of bytes that are given as numbers. -/
def bs (l : List Nat) : ByteArray := strOfNums (l.map fun v : Nat => (v : Int))
theorem bs_size (l : List Nat) : (bs l).size = l.length := by unfold bs; rw [strOfNums_size, List.length_map]
theorem bs_data (l : List Nat) : (bs l).data.toList = l.map UInt8.ofNat := by
  unfold bs
  rw [strOfNums_data, List.map_map]
  apply List.map_congr_left
  intro v _
  simp
theorem bs_toList (l : List Nat) : (bs l).toList = l.map UInt8.ofNat := by
  rw [← bs_data]
  exact ByteArray.toList_eq (bs l)
theorem map_ofNat_inj : ∀ (l m : List Nat), (∀ v ∈ l, v < 256) → (∀ v ∈ m, v < 256) → l.map UInt8.ofNat = m.map UInt8.ofNat → l = m
  | [], [], _, _, _ => rfl
  | [], _ :: _, _, _, h => by simp at h
  | _ :: _, [], _, _, h => by simp at h
  | a :: l, b :: m, hl, hm, h => by
    simp only [List.map_cons, List.cons.injEq] at h
    have h1 := hl a (by simp)
    have h2 := hm b (by simp)
    have e : a = b := by
      have := congrArg UInt8.toNat h.1
      simp only [UInt8.toNat_ofNat'] at this
      omega
    rw [e, map_ofNat_inj l m (fun v hv => hl v (by simp [hv])) (fun v hv => hm v (by simp [hv])) h.2]
theorem bs_beq (l m : List Nat) (hl : ∀ v ∈ l, v < 256) (hm : ∀ v ∈ m, v < 256) : ((bs l).toList == (bs m).toList) = decide (l = m) := by
  rw [bs_toList, bs_toList]
  by_cases h : l = m
  · subst h; simp
  · have : ¬ l.map UInt8.ofNat = m.map UInt8.ofNat := fun e => h (map_ofNat_inj l m hl hm e)
    simp [h, this]
theorem conv_sl {P : Program} {w : World} {B : Nat} {A : Option Addr} {n : Nat} {l : List Nat} (src e dst : TypeId) (hs : P.underlying src = some (.slice e)) (he : P.underlying e = some (.int .u8)) (hd : P.underlying dst = some .string)
    (h : Sl w B A n (l.map fun v : Nat => Value.int .u8 (v : Int))) (c : Nat) : (convert src dst (.slice A n c)).run P w = .ok (.string (bs l)) w := by
  have hl : l.length = n := by have := h.1; simpa using this
  rcases Nat.eq_zero_or_pos n with h0 | h0
  · subst h0
    obtain rfl : l = [] := List.eq_nil_of_length_eq_zero hl
    rw [run_convert_bytes_string w src dst e A 0 c hs he hd]
    rcases A with _ | ad
    · simp [Conv.bytesToString]; rfl
    · rw [run_bytesToString w ad 0 c [] rfl]; rfl
  · obtain ⟨b, off, rfl, hb, hc⟩ := h.2 h0
    refine run_convert_bytes_arg (P := P) w src e hs he b off n c (l.map fun v : Nat => (v : Int)) (by simpa using hl) (fun i hi => ?_) dst hd
    refine hc i _ ?_
    rw [List.getElem?_map, List.getElem?_eq_getElem (by omega)]
    simp [List.getElem?_eq_getElem (show i < l.length by omega)]
end Go.Proofs.Ytpnkjfjkeoleaaa

/-! General words: worlds that agree on a range of blocks; slices that lie in such a range. Conditions: those each theorem names. -/
set_option linter.unusedVariables false
namespace Go.Proofs.Ytpnkjfjkeoleaaa
open Go.RowKit

/-- The blocks from S to E are as they were. -/
def Agree (S E : Nat) (w w' : World) : Prop := ∀ k, S ≤ k → k < E → w'.heap[k]? = w.heap[k]?
theorem Agree.refl (S E : Nat) (w : World) : Agree S E w w := fun _ _ _ => rfl
theorem Agree.trans {S E : Nat} {a b c : World} (h : Agree S E a b) (k : Agree S E b c) : Agree S E a c := fun i h1 h2 => (k i h1 h2).trans (h i h1 h2)
theorem Agree.of_below {S E B : Nat} {w w' : World} (h : Below B w w') (hB : E ≤ B) : Agree S E w w' := fun k _ h2 => h.block k (by omega)
theorem Agree.of_grown {S E : Nat} {w w' : World} {row : Option Nat} (h : w.grownBy w' row) (hE : E ≤ w.heap.size) (hr : ∀ q, row = some q → q < S ∨ E ≤ q) : Agree S E w w' :=
  fun k h1 h2 => h.block k (by omega) (fun e => by rcases hr k e.symm with h3 | h3 <;> omega)
theorem Agree.mono {S S' E E' : Nat} {w w' : World} (h : Agree S E w w') (hS : S ≤ S') (hE : E' ≤ E) : Agree S' E' w w' := fun k h1 h2 => h k (by omega) (by omega)
theorem Row.agree {w w' : World} {g S E : Nat} {t : TypeId} {cs : Array Value} (h : Row w g t cs) (ha : Agree S E w w') (h1 : S ≤ g) (h2 : g < E) : Row w' g t cs := (ha g h1 h2).trans h

/-- A slice that reads as the list xs, in a block from S on and below E. -/
def SlR (w : World) (S E : Nat) (A : Option Addr) (n : Nat) (xs : List Value) : Prop :=
  xs.length = n ∧ (0 < n → ∃ b off, A = some ⟨b, off, none⟩ ∧ S ≤ b ∧ b < E ∧ ∀ j u, xs[j]? = some u → w.cell? ⟨b, off + j, none⟩ = some u)
theorem SlR.sl {w : World} {S E : Nat} {A : Option Addr} {n : Nat} {xs : List Value} (h : SlR w S E A n xs) : Sl w E A n xs :=
  ⟨h.1, fun hn => by obtain ⟨b, off, e, _, h2, hc⟩ := h.2 hn; exact ⟨b, off, e, h2, hc⟩⟩
theorem SlR.agree {w w' : World} {S E : Nat} {A : Option Addr} {n : Nat} {xs : List Value} (h : SlR w S E A n xs) (ha : Agree S E w w') : SlR w' S E A n xs :=
  ⟨h.1, fun hn => by
    obtain ⟨b, off, e, h1, h2, hc⟩ := h.2 hn
    exact ⟨b, off, e, h1, h2, fun j u hu => (World.cell?_of_block (a := ⟨b, off + j, none⟩) (ha b h1 h2)).trans (hc j u hu)⟩⟩
theorem SlR.mono {w : World} {S S' E E' : Nat} {A : Option Addr} {n : Nat} {xs : List Value} (h : SlR w S E A n xs) (hS : S' ≤ S) (hE : E ≤ E') : SlR w S' E' A n xs :=
  ⟨h.1, fun hn => by
    obtain ⟨b, off, e, h1, h2, hc⟩ := h.2 hn
    exact ⟨b, off, e, by omega, by omega, hc⟩⟩
theorem SlR.of_own {w : World} {base : Nat} {e : TypeId} {A : Option Addr} {n c : Nat} {xs : List Value} (h : w.ownsRow base e 1 (.slice A n c) n xs) : SlR w base w.heap.size A n xs := by
  refine ⟨own_len h, fun hn => ?_⟩
  obtain ⟨b, off, hA, hlt, hc⟩ := (Sl.of_own h).2 hn
  have := h.lt b (by rw [hA]; rfl)
  exact ⟨b, off, hA, this.1, hlt, hc⟩
theorem SlR.of_row {w : World} {g : Nat} {t : TypeId} {cs : Array Value} (h : Row w g t cs) (xs : List Value) (hx : cs.toList = xs) (n : Nat) (hn : cs.size = n) : SlR w g (g + 1) (some ⟨g, 0, none⟩) n xs := by
  subst hx hn
  refine ⟨by simp, fun _ => ⟨g, 0, rfl, Nat.le_refl _, Nat.lt_succ_self _, fun j u hu => ?_⟩⟩
  rw [Nat.zero_add, h.cell]
  simpa using hu

theorem qbel {w w' : World} (B : Nat) (h : ∃ k, w' = w.drewN k) : Below B w w' := by
  obtain ⟨k, rfl⟩ := h
  exact bel_drewN (Below.refl _ _) k
theorem qsize {w w' : World} (h : ∃ k, w' = w.drewN k) : w'.heap.size = w.heap.size := by
  obtain ⟨k, rfl⟩ := h
  rfl
theorem lit_sl {w : World} {t : TypeId} {cs : Array Value} {xs : List Value} (hx : cs.toList = xs) : Sl (w.alloc (.cells cs t)) (w.heap.size + 1) (some ⟨w.heap.size, 0, none⟩) cs.size xs := by
  have h := Sl.of_row (Row.new w t cs) cs.size (Nat.le_refl _)
  rw [World.size_alloc] at h
  rw [List.take_of_length_le (by simp), hx] at h
  exact h
theorem own_of_row {w : World} {base g : Nat} {t : TypeId} {cs : Array Value} {xs : List Value} (h : Row w g t cs) (hx : cs.toList = xs) (n : Nat) (hn : cs.size = n) (hm : n ≤ maxLen) (hb : base ≤ g) : w.ownsRow base t 1 (.slice (some ⟨g, 0, none⟩) n n) n xs := by
  subst hx hn
  exact ⟨by simp, .inr ⟨g, cs.size, cs, rfl, hb, h, Nat.le_refl _, hm, by simp, List.take_of_length_le (by simp)⟩⟩
end Go.Proofs.Ytpnkjfjkeoleaaa

/-! A slice of the call's own whose elements are overwritten one after the other, whatever they are; the rest stays. Conditions: those each theorem names. -/
set_option linter.unusedVariables false
namespace Go.Proofs.Ytpnkjfjkeoleaaa
open Go.RowKit

def BumpV (P : Value → Prop) (t : TypeId) (W wr : World) (base : Nat) (v : Value) (n : Nat) : Prop :=
  (∃ ys : List Value, (∀ y ∈ ys, P y) ∧ ys.length = n ∧ wr.ownsRow base t 1 v n ys) ∧ W.grownBy wr v.ownBlock
theorem BumpV.start {P : Value → Prop} {t : TypeId} {W : World} {base : Nat} {v : Value} {n : Nat} {ys : List Value} (hP : ∀ y ∈ ys, P y) (h : W.ownsRow base t 1 v n ys) : BumpV P t W W base v n :=
  ⟨⟨ys, hP, own_len h, h⟩, World.grownBy.refl _ _⟩
theorem BumpV.at_ {P : Value → Prop} {t : TypeId} {W wr : World} {base : Nat} {A : Option Addr} {n c j : Nat} (h : BumpV P t W wr base (.slice A n c) n) (hj : j < n) :
    ∃ gm y, P y ∧ A = some ⟨gm, 0, none⟩ ∧ wr.cell? ⟨gm, j, none⟩ = some y ∧ wr.frozen? ⟨gm, j, none⟩ = false ∧
      ∀ z, P z → BumpV P t W (wr.setCell ⟨gm, j, none⟩ z) base (.slice A n c) n := by
  obtain ⟨⟨ys, hP, hy, hown⟩, hg⟩ := h
  rcases hown.2 with ⟨_, h0⟩ | ⟨gm, cap, cur, hv, hbg, hr⟩
  · omega
  · injection hv with hA _ hc
    subst hA hc
    refine ⟨gm, ys[j], hP _ (List.getElem_mem _), rfl, ?_, hown.frozenAt j, fun z hz => ?_⟩
    · rw [hown.cellAt j (by omega), List.getElem?_eq_getElem (by omega)]
    · have hs := hown.stored j z
      refine ⟨⟨ys.set j z, fun y hy' => ?_, by simp [hy], hs.1⟩, hg.trans hs.2⟩
      rcases List.mem_or_eq_of_mem_set hy' with h1 | h1
      · exact hP y h1
      · rw [h1]; exact hz
theorem BumpV.below {P : Value → Prop} {t : TypeId} {W wr : World} {base B : Nat} {v : Value} {n : Nat} (h : BumpV P t W wr base v n) (hb : B ≤ base) (hW : B ≤ W.heap.size) : Below B W wr := by
  obtain ⟨⟨ys, hP, hy, hown⟩, hg⟩ := h
  exact (Below.refl _ _).grown hg hW (fun q e => by have := (hown.lt q e).1; omega)
/-- What lies in blocks from S on and below E stays, if the slice's own block lies outside. -/
theorem BumpV.agree {P : Value → Prop} {t : TypeId} {W wr : World} {base S E : Nat} {v : Value} {n : Nat} (h : BumpV P t W wr base v n) (hE : E ≤ W.heap.size) (hr : ∀ q, v.ownBlock = some q → q < S ∨ E ≤ q) : Agree S E W wr :=
  Agree.of_grown h.2 hE hr
end Go.Proofs.Ytpnkjfjkeoleaaa
