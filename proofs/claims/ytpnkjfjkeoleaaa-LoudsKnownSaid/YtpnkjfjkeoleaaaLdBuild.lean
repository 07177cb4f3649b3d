/- louds: Build. -/
import Derived.Test.YtpnkjfjkeoleaaaGLdB
import Derived.Test.YtpnkjfjkeoleaaaGBvB
import Derived.Deep.Cut
import Derived.BigQuiet
import Derived.Deep.RegionHeld3
import Derived.Deep.AppendLies
import Derived.Maps.AppendAt
import Derived.OwnWalkIn
set_option linter.unusedVariables false
set_option maxRecDepth 100000
namespace Go.Proofs.Ytpnkjfjkeoleaaa.LD
open Go.RowKit
open Go.Proofs.Ytpnkjfjkeoleaaa.B (bytesOf bytesOf_len bytesOf_lt)
attribute [local go_sem] Oper.semAt_some

def shapeOf (ks : List (List Span)) : List Bool := [true, false] ++ ks.flatMap fun xs => xs.map (fun _ => true) ++ [false]
def labelOf (L : List Str) (s : Span) : Nat := byte L s.f (s.d - 1)
def seen (L : List Str) (ks : List (List Span)) : List Span := (allOf L ks).take ks.length
def nodStep (L : List Str) (a : Array Value) (p : Span × Nat) : Array Value := if isAt L p.1 then a.setIfInBounds p.1.f (.int .i64 (p.2 : Nat)) else a
def nodA (L : List Str) (n : Nat) (xs : List Span) : Array Value := xs.zipIdx.foldl (nodStep L) (madeCells #[.int .i64 0] n)
def idsOf (L : List Str) (xs : List Span) : List Nat := (xs.filter (isAt L)).map (·.f)

def mark (D : Nat) : Deferred := { target := .collected D, args := #[] }
def Marks (w W : World) (Ds : List Nat) : Prop := Ds.Nodup ∧ ∀ D ∈ Ds, w.heap.size ≤ D ∧ W.heap[D]? = some (.deferred (some []))
/-- Where Build stands when the nodes of ks have been seen. -/
def BRel (w W : World) (A : Option Addr) (n c : Nat) (L : List Str) (Bl Bt Bb Bsh Bal nB : Nat) (ks : List (List Span)) (isv idv : Value) (Ds : List Nat) : Prop :=
  Bfs L ks ∧ (allOf L ks).length ≤ 524287 ∧ Marks w W Ds ∧ BSt w W A n c Bl Bt Bb Bsh Bal nB (shapeOf ks) (allOf L ks) (ks.flatten.map (labelOf L)) (nodA L n (seen L ks)) ((seen L ks).map (isAt L)) (idsOf L (seen L ks)) isv idv
def BInv (w : World) (A : Option Addr) (n c : Nat) (L : List Str) (Bl Bt Bb Bsh Bal nB : Nat) (a : Act) (W : World) : Prop :=
  ∃ (ks : List (List Span)) (Ds : List Nat) (isv idv u10 : Value) (u4 u11 u12 u13 u14 u15 u16 u17 u18 u19 u20 u21 u22 u23 u24 u25 u26 u27 u28 u29 u30 u31 u32 u33 u34 u35 u36 u37 u38 u39 u40 u41 u42 u43 u44 u45 u46 u47 u48 u49 u50 u51 u52 u53 u54 u55 u56 u57 u58 u59 u60 u61 u62 u63 u64 u65 u66 u67 u68 u69 u70 u71 u72 u73 u74 u75 u76 u77 u78 u79 u80 u81 u82 u83 u84 u85 u86 u87 u88 u89 u90 u91 u92 u93 u94 u95 u96 u97 u98 u99 u100 u101 u102 u103 u104 u105 u106 u107 u108 u109 u110 u111 u112 u113 u114 u115 u116 u117 u118 u119 u120 u121 u122 u123 u124 u125 u126 u127 u128 u129 u130 u131 u132 : Value), BRel w W A n c L Bl Bt Bb Bsh Bal nB ks isv idv Ds ∧ u10 = .int .i64 (ks.length : Nat) ∧
    a = { tmps := #[.slice A n c, .pointer (some ⟨Bl, 0, none⟩), .pointer none, .int .i64 0, u4, .pointer (some ⟨Bb, 0, none⟩), .pointer (some ⟨Bsh, 0, none⟩), isv, idv, .pointer (some ⟨Bal, 0, none⟩), u10, u11, u12, u13, u14, u15, u16, u17, u18, u19, u20, u21, u22, u23, u24, u25, u26, u27, u28, u29, u30, u31, u32, u33, u34, u35, u36, u37, u38, u39, u40, u41, u42, u43, u44, u45, u46, u47, u48, u49, u50, u51, u52, u53, u54, u55, u56, u57, u58, u59, u60, u61, u62, u63, u64, u65, u66, u67, u68, u69, u70, u71, u72, u73, u74, u75, u76, u77, u78, u79, u80, u81, u82, u83, u84, u85, u86, u87, u88, u89, u90, u91, u92, u93, u94, u95, u96, u97, u98, u99, u100, u101, u102, u103, u104, u105, u106, u107, u108, u109, u110, u111, u112, u113, u114, u115, u116, u117, u118, u119, u120, u121, u122, u123, u124, u125, u126, u127, u128, u129, u130, u131, u132], defers := Ds.map mark }
theorem row_at (W : World) {k : Nat} (t : TypeId) (cs : Array Value) (h : W.heap.size = k) : Row (W.alloc (.cells cs t)) k t cs := by
  rw [← h]; exact Row.new W t cs
theorem brel_start (w : World) (A : Option Addr) (n c : Nat) (L : List Str) (hn : L.length = n) (hm : n ≤ 20000) :
    BRel w ((((((((w.alloc (Obj.cells #[Value.slice A n c] 22)).alloc (Obj.cells (madeCells #[.int .i64 0] n) 3)).alloc (Obj.cells #[Value.pointer none, Value.pointer none, Value.slice none 0 0, Value.pointer none, Value.slice (some ⟨w.heap.size + 1, 0, none⟩) n n] 66)).alloc (Obj.cells #[Value.pointer (some ⟨w.heap.size + 1 + 1, 0, none⟩)] 24)).alloc (Obj.cells #[Value.bool true, Value.bool false] 4)).alloc (Obj.cells #[Value.slice (some ⟨w.heap.size + 1 + 1 + 1 + 1, 0, none⟩) 2 2] 79)).alloc
      (Obj.cells #[Value.int .i64 0, Value.int .i64 (n : Nat), Value.int .i64 0] 82)).alloc (Obj.cells #[Value.slice (some ⟨w.heap.size + 1 + 1 + 1 + 1 + 1 + 1, 0, none⟩) 1 1] 83)) A n c L w.heap.size (w.heap.size + 1 + 1) (w.heap.size + 1 + 1 + 1) (w.heap.size + 1 + 1 + 1 + 1 + 1) (w.heap.size + 1 + 1 + 1 + 1 + 1 + 1 + 1) (w.heap.size + 1) [] (.slice none 0 0) (.slice none 0 0) [] := by
  have z : ∀ (W : World) (o : Obj), (W.alloc o).heap.size = W.heap.size + 1 := fun W o => World.size_alloc W o
  refine ⟨Bfs.nil, by simp [allOf], ⟨List.nodup_nil, fun D h => by cases h⟩, ?_⟩
  refine ⟨?_, ?_, ⟨.slice none 0 0, ?_, ?_⟩, ⟨.slice (some ⟨w.heap.size + 1 + 1 + 1 + 1, 0, none⟩) 2 2, ?_, ?_, fun g _ h => (by cases h)⟩, ⟨.slice (some ⟨w.heap.size + 1 + 1 + 1 + 1 + 1 + 1, 0, none⟩) 1 1, ?_, ?_⟩, ?_, ?_, ?_, ?_, by omega⟩
  · exact (((((((row_at w _ _ rfl).alloc _).alloc _).alloc _).alloc _).alloc _).alloc _).alloc _
  · exact ((((row_at _ _ _ (by simp only [z])).alloc _).alloc _).alloc _).alloc _
  · exact (((((row_at _ _ _ (by simp only [z])).alloc _).alloc _).alloc _).alloc _).alloc _
  · exact ⟨rfl, .inl ⟨rfl, rfl⟩⟩
  · exact ((row_at _ _ _ (by simp only [z])).alloc _).alloc _
  · exact ⟨rfl, .inr ⟨_, 2, _, rfl, by omega, (((row_at _ _ _ (by simp only [z])).alloc _).alloc _).alloc _, Nat.le_refl _, by decide, rfl, rfl⟩⟩
  · exact row_at _ _ _ (by simp only [z])
  · exact ⟨rfl, .inr ⟨_, 1, _, rfl, by omega, (row_at _ _ _ (by simp only [z])).alloc _, Nat.le_refl _, by decide, rfl, by simp [allOf, root, spansC, spanC, hn]⟩⟩
  · exact ((((((row_at _ _ _ (by simp only [z])).alloc _).alloc _).alloc _).alloc _).alloc _).alloc _
  · exact ⟨rfl, .inl ⟨rfl, rfl⟩⟩
  · exact ⟨rfl, .inl ⟨rfl, rfl⟩⟩
  · exact ((((((((Below.refl _ _).alloc (Nat.le_refl _) _).alloc (by simp only [z]; omega) _).alloc (by simp only [z]; omega) _).alloc (by simp only [z]; omega) _).alloc (by simp only [z]; omega) _).alloc (by simp only [z]; omega) _).alloc (by simp only [z]; omega) _).alloc (by simp only [z]; omega) _

theorem spans_at {al : List Span} {i : Nat} {x : Span} (h : al[i]? = some x) (r : Nat) (hr : r < 3) : (spansC al)[i * 3 + r]? = (spanC x)[r]? := by
  induction al generalizing i with
  | nil => simp at h
  | cons a l ih =>
    cases i with
    | zero =>
      simp only [List.getElem?_cons_zero, Option.some.injEq] at h
      subst h
      simp only [spansC, List.flatMap_cons, Nat.zero_mul, Nat.zero_add]
      rw [List.getElem?_append_left (by simp [spanC]; omega)]
    | succ i =>
      simp only [List.getElem?_cons_succ] at h
      have e : (i + 1) * 3 + r = 3 + (i * 3 + r) := by omega
      simp only [spansC, List.flatMap_cons]
      rw [e, List.getElem?_append_right (by simp [spanC])]
      have := ih h
      simpa [spansC, spanC] using this
theorem shapeOf_len (L : List Str) (ks : List (List Span)) : (shapeOf ks).length = 1 + (allOf L ks).length + ks.length := by
  have : ∀ ks : List (List Span), (ks.flatMap fun xs => xs.map (fun _ => true) ++ [false]).length = ks.flatten.length + ks.length := by
    intro ks
    induction ks with
    | nil => rfl
    | cons a l ih => simp only [List.flatMap_cons, List.length_append, List.length_map, List.length_cons, List.length_nil, List.flatten_cons, ih]; omega
  simp only [shapeOf, List.length_append, this, allOf, List.length_cons, List.length_nil]
  omega
theorem one_boolv {v : Bool} : ∀ u ∈ [Value.bool v], u.oneCell' = true := by
  intro u hu
  simp at hu
  subst hu
  rfl
/-- Where a round of the loop over a node's children stands. -/
def RoundI (w : World) (A : Option Addr) (n c : Nat) (L : List Str) (Bl Bt Bb Bsh Bal nB : Nat) (ks : List (List Span)) (isv idv : Value) (Ds : List Nat) (x : Span) (X0 Bx B2 : Nat) (pre : List (Kid L x)) (W : World) : Prop :=
  BSt w W A n c Bl Bt Bb Bsh Bal nB (shapeOf ks ++ pre.map (fun _ => true)) (allOf L ks ++ pre.map (·.1)) (ks.flatten.map (labelOf L) ++ pre.map (fun s => labelOf L s.1)) (nodA L n (seen L ks)) ((seen L ks).map (isAt L)) (idsOf L (seen L ks)) isv idv ∧
    Row W X0 82 (spanA x) ∧ Row W Bx 82 (spanA x) ∧ Row W B2 22 #[.slice A n c] ∧ (∀ av, Row W Bal 83 #[av] → ∀ k, av.ownBlock = some k → k ≠ X0 ∧ k ≠ Bx) ∧ Marks w W Ds
theorem Marks.lt {w W : World} {Ds : List Nat} (h : Marks w W Ds) : ∀ D ∈ Ds, D < W.heap.size := fun D hD => (Array.getElem?_eq_some_iff.1 (h.2 D hD).2).1
theorem Marks.eff {w W W2 : World} {Ds : List Nat} (h : Marks w W Ds) {g B : Option Nat} (he : Eff g B W W2) (hn : ∀ D ∈ Ds, g ≠ some D ∧ B ≠ some D) : Marks w W2 Ds :=
  ⟨h.1, fun D hD => ⟨(h.2 D hD).1, (he.2 D (h.lt D hD) (hn D hD).1 (hn D hD).2).trans (h.2 D hD).2⟩⟩
theorem Marks.alloc {w W : World} {Ds : List Nat} (h : Marks w W Ds) (o : Obj) : Marks w (W.alloc o) Ds := h.eff (Eff.alloc W o) (fun D _ => ⟨fun e => (by cases e), fun e => (by cases e)⟩)
theorem row_val {W : World} {k : Nat} {t : TypeId} {a b : Value} (h : Row W k t #[a]) (h' : Row W k t #[b]) : a = b := by
  unfold Row at h h'
  rw [h] at h'
  injection h' with h'
  injection h' with h' _ _
  simpa using h'
section
variable {w W : World} {A : Option Addr} {n c : Nat} {L : List Str} {Bl Bt Bb Bsh Bal nB : Nat} {ks : List (List Span)} {isv idv : Value} {Ds : List Nat} {x : Span}
theorem roundI_start {av : Value} (hst : BSt w W A n c Bl Bt Bb Bsh Bal nB (shapeOf ks) (allOf L ks) (ks.flatten.map (labelOf L)) (nodA L n (seen L ks)) ((seen L ks).map (isAt L)) (idsOf L (seen L ks)) isv idv) (hm : Marks w W Ds)
    (hra : Row W Bal 83 #[av]) (hoa : W.ownsRow w.heap.size 82 3 av (allOf L ks).length (spansC (allOf L ks))) :
    RoundI w A n c L Bl Bt Bb Bsh Bal nB ks isv idv Ds x W.heap.size (W.heap.size + 1) (W.heap.size + 1 + 1) [] (((W.alloc (.cells (spanA x) 82)).alloc (.cells (spanA x) 82)).alloc (.cells #[.slice A n c] 22)) := by
  refine ⟨?_, ((Row.new W _ _).alloc _).alloc _, (Row.new2 W _ _ _).alloc _, Row.new3 W _ _ _ _, fun av' h k hk => ?_, ((hm.alloc _).alloc _).alloc _⟩
  · simpa using ((hst.alloc _).alloc _).alloc _
  · obtain rfl := row_val h (((hra.alloc _).alloc _).alloc _)
    have := (hoa.lt k hk).2
    omega
theorem roundI_own {X0 Bx B2 B : Nat} (hm : Marks w W Ds) (hB : W.heap.size ≤ B) (hw : w.heap.size ≤ W.heap.size) : OwnFrom B (RoundI w A n c L Bl Bt Bb Bsh Bal nB ks isv idv Ds x X0 Bx B2) := by
  intro pre X Y row hs hg hr
  obtain ⟨h1, h2, h3, h4, h5, h6⟩ := hs
  have hcell : ∀ k cs t, Row X k t cs → row ≠ some k := fun k cs t h e => by
    obtain ⟨_, o, ho, hc⟩ := hr k e
    unfold Row at h
    rw [h] at ho
    injection ho with ho
    rw [← ho] at hc
    cases hc
  have he := Eff.others hg
  have keep : ∀ {k t cs}, Row X k t cs → Row Y k t cs := fun h => Row.eff h he ⟨hcell _ _ _ h, fun e => by cases e⟩
  refine ⟨h1.far he hcell ((Below.refl _ _).grown hg (by have := h1.bel.size; omega) (fun q e => by have := (hr q e).1; omega)), keep h2, keep h3, keep h4, fun av h k hk => ?_, h6.eff he (fun D hD => ⟨fun e => ?_, fun e => by cases e⟩)⟩
  · obtain ⟨av', h7, _⟩ := h1.all
    obtain rfl := row_val h (keep h7)
    exact h5 _ h7 k hk
  · have h7 := (hr D e).1
    have h8 := hm.lt D hD
    omega
end
theorem KeepsOthers.eff {W W2 : World} {g B : Option Nat} (he : Eff g B W W2) (hn : ∀ k o, W.heap[k]? = some o → o.isCells = false → g ≠ some k ∧ B ≠ some k) : KeepsOthers W W2 :=
  ⟨he.1, fun k o hk ho => (he.2 k (Array.getElem?_eq_some_iff.1 hk).1 (hn k o hk ho).1 (hn k o hk ho).2).trans hk⟩
theorem row_cells {W : World} {k : Nat} {t : TypeId} {cs : Array Value} {o : Obj} (h : Row W k t cs) (ho : W.heap[k]? = some o) : o.isCells = true := by
  unfold Row at h
  rw [h] at ho
  injection ho with ho
  rw [← ho]; rfl
theorem keep_rows {w W W1 : World} {o : Obj} {v : Value} {b s n : Nat} {e tq : TypeId} {xs : List Value} {Bq i : Nat} {csq : Array Value} {u : Value} (hg : (W.alloc o).grownBy W1 v.ownBlock) (ho : W.ownsRow b e s v n xs) (hq : Row W Bq tq csq) :
    (∀ k t cs, Row W k t cs → e ≠ t → tq ≠ t → Row (W1.setCell ⟨Bq, i, none⟩ u) k t cs) ∧ KeepsOthers W (W1.setCell ⟨Bq, i, none⟩ u) ∧ (∀ Ds, Marks w W Ds → Marks w (W1.setCell ⟨Bq, i, none⟩ u) Ds) := by
  have he := Eff.boxed hg Bq i u
  have hno : ∀ k o', W.heap[k]? = some o' → o'.isCells = false → v.ownBlock ≠ some k ∧ (some Bq : Option Nat) ≠ some k := by
    intro k o' hk hc
    refine ⟨fun e => ?_, fun e => ?_⟩
    · obtain ⟨cs, hr⟩ := own_obj ho e
      rw [row_cells hr hk] at hc; cases hc
    · injection e with e
      subst e
      rw [row_cells hq hk] at hc; cases hc
  exact ⟨fun k t cs hr h1 h2 => Row.eff hr he ⟨own_row ho hr h1, row_row hq hr h2⟩, KeepsOthers.eff he hno, fun Ds hm => hm.eff he (fun D hD => hno D _ (hm.2 D hD).2 rfl)⟩
theorem own_slice {w : World} {b e s : Nat} {v : Value} {n : Nat} {xs : List Value} (h : w.ownsRow b e s v n xs) : ∃ A c, v = .slice A n c := by
  rcases h.2 with ⟨hv, h0⟩ | ⟨g, cap, cur, hv, _⟩
  · subst h0; exact ⟨none, 0, hv⟩
  · exact ⟨_, _, hv⟩
theorem shapeOf_snoc (ks : List (List Span)) (ys : List Span) : shapeOf (ks ++ [ys]) = shapeOf ks ++ ys.map (fun _ => true) ++ [false] := by simp [shapeOf]
theorem seen_snoc {L : List Str} {ks : List (List Span)} {x : Span} (ys : List Span) (h : (allOf L ks)[ks.length]? = some x) : seen L (ks ++ [ys]) = seen L ks ++ [x] := by
  have hlt := (List.getElem?_eq_some_iff.1 h).1
  unfold seen
  rw [allOf_snoc, List.length_append, List.length_cons, List.length_nil, Nat.zero_add, List.take_append_of_le_length (by omega), List.take_add_one, h]
  rfl
theorem seen_len {L : List Str} {ks : List (List Span)} (h : Bfs L ks) : (seen L ks).length = ks.length := by
  unfold seen
  rw [List.length_take]
  have := h.len
  omega
theorem nodA_snoc (L : List Str) (n : Nat) (xs : List Span) (x : Span) : nodA L n (xs ++ [x]) = nodStep L (nodA L n xs) (x, xs.length) := by
  unfold nodA
  rw [List.zipIdx_append, List.foldl_append]
  simp
theorem idsOf_snoc (L : List Str) (xs : List Span) (x : Span) : idsOf L (xs ++ [x]) = idsOf L xs ++ (if isAt L x then [x.f] else []) := by
  unfold idsOf
  rw [List.filter_append, List.map_append]
  congr 1
  cases h : isAt L x <;> simp [h]
/-- A world whose marks have been taken away. -/
structure Shut (Ds : List Nat) (W W2 : World) : Prop where
  os : W2.os = W.os
  tape : W2.tape = W.tape
  output : W2.output = W.output
  size : W2.heap.size = W.heap.size
  same : ∀ k, k ∉ Ds → W2.heap[k]? = W.heap[k]?
theorem marks_leave {w : World} {F : Fence} {n : Nat} {P : Program} {fn : Func} {tmps : Array Value} {R : Ending → World → Prop} : ∀ (Ds : List Nat) (W : World), Marks w W Ds → (∀ W2, Shut Ds W W2 → LeavesIn F n P fn tmps R [] .returning W2) → LeavesInM F n P fn tmps R (Ds.map mark) .returning W
  | [], W, _, h => h W ⟨rfl, rfl, rfl, rfl, fun _ _ => rfl⟩
  | D :: Ds, W, hm, h => by
    obtain ⟨hnd, hmk⟩ := hm
    obtain ⟨h1, h2⟩ := List.nodup_cons.1 hnd
    refine ⟨fun e => (by cases e), .inl ⟨D, _, rfl, run_takeDeferred (hmk D (List.mem_cons_self ..)).2, ?_⟩⟩
    refine marks_leave Ds _ ⟨h2, fun D' hD' => ⟨(hmk D' (List.mem_cons_of_mem _ hD')).1, ?_⟩⟩ (fun W2 hS => h W2 ?_)
    · rw [World.putObj_heap_other (by intro e; subst e; exact h1 hD')]
      exact (hmk D' (List.mem_cons_of_mem _ hD')).2
    · obtain ⟨a1, a2, a3, a4, a5⟩ := hS
      refine ⟨a1, a2, a3, a4.trans (by simp [World.putObj]), fun k hk => ?_⟩
      rw [a5 k (fun e => hk (List.mem_cons_of_mem _ e)), World.putObj_heap_other (by intro e; subst e; exact hk (List.mem_cons_self ..))]
theorem Shut.bel {w W W2 : World} {Ds : List Nat} (h : Shut Ds W W2) (hm : Marks w W Ds) (hb : Below w.heap.size w W) : Below w.heap.size w W2 :=
  ⟨h.os.trans hb.os, h.tape.trans hb.tape, h.output.trans hb.output, by rw [h.size]; exact hb.size, fun k hk => (h.same k (fun e => by have := (hm.2 k e).1; omega)).trans (hb.block k hk)⟩
/-- A trie of L lies at tb, all of it in the blocks from S up to E. -/
def TrieAt (w : World) (S E tb : Nat) (L : List Str) (ks : List (List Span)) : Prop :=
  Bfs L ks ∧ (allOf L ks).length = ks.length ∧ ks.length ≤ 524287 ∧ S ≤ tb ∧ tb < E ∧ ∃ b1 b2 A3 c3 b4 g4 A5 c5,
    Row w tb 66 #[.pointer (some ⟨b1, 0, none⟩), .pointer (some ⟨b2, 0, none⟩), .slice A3 ks.flatten.length c3, .pointer (some ⟨b4, 0, none⟩), .slice A5 L.length c5] ∧
    B.Bv w S E b1 (1 + ks.length + ks.length) (HK.bitsN (shapeOf ks)) ∧ B.Bv w S E b2 ks.length (HK.bitsN ((allOf L ks).map (isAt L))) ∧ SlR w S E A3 ks.flatten.length ((ks.flatten.map (labelOf L)).map B.u8v) ∧
    PR w b4 g4 (idsOf L (allOf L ks)).length (HK.widthL (idsOf L (allOf L ks))) (HK.packN (HK.widthL (idsOf L (allOf L ks))) (idsOf L (allOf L ks))) ∧ S ≤ b4 ∧ b4 < E ∧ S ≤ g4 ∧ g4 < E ∧
    SlR w S E A5 L.length (nodA L L.length (allOf L ks)).toList
def BuildPost (w : World) (L : List Str) (e : Ending) (w' : World) : Prop :=
  Below w.heap.size w w' ∧ ((wt L (root L) ≤ 524287 ∧ ∃ tb ks, e = .returned (.tuple #[.pointer (some ⟨tb, 0, none⟩), .int .i64 0]) ∧ TrieAt w' w.heap.size w'.heap.size tb L ks) ∨ (524287 < wt L (root L) ∧ e = .returned (.tuple #[.pointer none, .int .i64 2])))
/-- Behind the loop: what is left to be done. -/
structure XSt (w W : World) (n Bt Bb nB : Nat) (lab : List Nat) (nod : Array Value) (is : List Bool) (ids : List Nat) (isv idv lv v0 v1 v3 : Value) (Ds : List Nat) : Prop where
  rb : Row W Bb 24 #[.pointer (some ⟨Bt, 0, none⟩)]
  tr : Row W Bt 66 #[v0, v1, lv, v3, .slice (some ⟨nB, 0, none⟩) n n]
  olv : W.ownsRow w.heap.size 5 1 lv lab.length (lab.map B.u8v)
  rn : Row W nB 3 nod
  ois : W.ownsRow w.heap.size 4 1 isv is.length (is.map Value.bool)
  oid : W.ownsRow w.heap.size 87 1 idv ids.length (ids.map B.u64v)
  bel : Below w.heap.size w W
  lo : w.heap.size ≤ Bt
  mks : Marks w W Ds
theorem Eff.callPut {W W1 : World} (hb : Below W.heap.size W W1) (B i : Nat) (u : Value) : Eff none (some B) W (W1.setCell ⟨B, i, none⟩ u) :=
  ⟨by have := hb.size; simp [World.setCell]; omega, fun k hk _ h2 => (Below.heap_setCell W1 _ _ k (fun e => h2 (by rw [e]))).trans (hb.block k hk)⟩
theorem XSt.next {w W W1 : World} {n Bt Bb nB : Nat} {lab : List Nat} {nod : Array Value} {is : List Bool} {ids : List Nat} {isv idv lv v0 v1 v3 v0' v1' v3' : Value} {Ds : List Nat} (h : XSt w W n Bt Bb nB lab nod is ids isv idv lv v0 v1 v3 Ds) (hb : Below W.heap.size W W1) (i : Nat) (u : Value)
    (hc : (#[v0, v1, lv, v3, .slice (some ⟨nB, 0, none⟩) n n] : Array Value).setIfInBounds i u = #[v0', v1', lv, v3', .slice (some ⟨nB, 0, none⟩) n n]) :
    XSt w (W1.setCell ⟨Bt, i, none⟩ u) n Bt Bb nB lab nod is ids isv idv lv v0' v1' v3' Ds := by
  have he := Eff.callPut hb Bt i u
  have hr : ∀ {k t cs}, Row W k t cs → 66 ≠ t → Row (W1.setCell ⟨Bt, i, none⟩ u) k t cs := fun hr hne => Row.eff hr he ⟨fun e => (by cases e), row_row h.tr hr hne⟩
  have ho : ∀ {b s n e v xs}, W.ownsRow b e s v n xs → e ≠ 66 → (W1.setCell ⟨Bt, i, none⟩ u).ownsRow b e s v n xs := fun ho hne => own_eff ho he (fun k hk => ⟨fun e => (by cases e), fun e => own_row ho h.tr hne (by rw [hk, e])⟩)
  have h1 : Row W1 Bt 66 #[v0, v1, lv, v3, .slice (some ⟨nB, 0, none⟩) n n] := (hb.block Bt h.tr.lt).trans h.tr
  refine ⟨hr h.rb (by decide), ?_, ho h.olv (by decide), hr h.rn (by decide), ho h.ois (by decide), ho h.oid (by decide), (h.bel.trans (hb.mono h.bel.size)).setCell (p := ⟨Bt, i, none⟩) h.lo _, h.lo, h.mks.eff he (fun D hD => ⟨fun e => (by cases e), fun e => ?_⟩)⟩
  · rw [← hc]; exact h1.put i u
  · injection e with e
    subst e
    have := row_cells h.tr (h.mks.2 _ hD).2
    cases this
theorem XSt.drew {w W : World} {n Bt Bb nB : Nat} {lab : List Nat} {nod : Array Value} {is : List Bool} {ids : List Nat} {isv idv lv v0 v1 v3 : Value} {Ds : List Nat} (h : XSt w W n Bt Bb nB lab nod is ids isv idv lv v0 v1 v3 Ds) : XSt w W.drew n Bt Bb nB lab nod is ids isv idv lv v0 v1 v3 Ds :=
  ⟨h.rb, h.tr, h.olv, h.rn, h.ois, h.oid, h.bel.drew, h.lo, h.mks⟩
theorem bv_set {W : World} {S E b n N : Nat} (h : B.Bv W S E b n N) {k i : Nat} (hB : k < S) (u : Value) : B.Bv (W.setCell ⟨k, i, none⟩ u) S E b n N :=
  h.agree (fun j h1 _ => Below.heap_setCell W _ _ j (by show j ≠ k; omega))
theorem Shut.row {w W W2 : World} {Ds : List Nat} (h : Shut Ds W W2) (hm : Marks w W Ds) {k : Nat} {t : TypeId} {cs : Array Value} (hr : Row W k t cs) : Row W2 k t cs :=
  (h.same k (fun e => by
    have := row_cells hr (hm.2 _ e).2
    cases this)).trans hr
theorem Shut.own {w W W2 : World} {Ds : List Nat} (h : Shut Ds W W2) (hm : Marks w W Ds) {b s n : Nat} {e : TypeId} {v : Value} {xs : List Value} (ho : W.ownsRow b e s v n xs) : W2.ownsRow b e s v n xs :=
  own_at ho (fun g hg => by
    obtain ⟨cs, hr⟩ := own_obj ho hg
    exact (h.row hm hr).trans hr.symm)
theorem Shut.agree {W W2 : World} {Ds : List Nat} (h : Shut Ds W W2) {S E : Nat} (hlt : ∀ D ∈ Ds, D < S) : Agree S E W W2 := fun k h1 _ => h.same k (fun e => by have := hlt k e; omega)
theorem idsOf_lt {L : List Str} (hg : Good L) {xs : List Span} (hok : ∀ x ∈ xs, Ok L x) : ∀ v ∈ idsOf L xs, v < 2 ^ 64 := by
  intro v hv
  unfold idsOf at hv
  obtain ⟨x, hx, rfl⟩ := List.mem_map.1 hv
  obtain ⟨h1, h2⟩ := List.mem_filter.1 hx
  simp only [isAt, Bool.and_eq_true, decide_eq_true_eq] at h2
  have := (hok x h1).le
  have := hg.few
  omega
theorem seen_full {L : List Str} {ks : List (List Span)} (h : (allOf L ks).length = ks.length) : seen L ks = allOf L ks := by
  unfold seen
  rw [← h, List.take_length]
def bodyQ (fn : Func) (R : Ending → World → Prop) : Exit → Act → World → Prop
  | .normal, a, w | .ret, a, w => LeavesInM Fence.wide 10 Try.prog fn a.tmps R a.defers .returning w
  | _, _, _ => False
theorem bodyQ_post {fn : Func} {R : Ending → World → Prop} : ∀ (e : Exit) (a : Act) (w : World), bodyQ fn R e a w → bodyPostM Fence.wide 10 Try.prog fn R e a w
  | .normal, _, _, h => h
  | .ret, _, _, h => h
  | .exit _, _, _, h => h.elim
  | .goto _, _, _, h => h.elim
  | .panic _, _, _, h => h.elim
  | .outgrown, _, _, h => h.elim
theorem nodA_size (L : List Str) (n : Nat) (xs : List Span) : (nodA L n xs).size = n := by
  have : ∀ (ys : List (Span × Nat)) (a : Array Value), (ys.foldl (nodStep L) a).size = a.size := by
    intro ys
    induction ys with
    | nil => intro a; rfl
    | cons y ys ih =>
      intro a
      rw [List.foldl_cons, ih]
      unfold nodStep
      split <;> simp
  unfold nodA
  rw [this]
  simp [madeCells]
theorem brel_snoc {w W : World} {A : Option Addr} {n c : Nat} {L : List Str} {Bl Bt Bb Bsh Bal nB : Nat} {ks : List (List Span)} {isv idv : Value} {Ds : List Nat} {x : Span} {ys : List Span} {hr : Bool} (hbfs : Bfs L ks) (hx : (allOf L ks)[ks.length]? = some x) (hb2 : Bfs L (ks ++ [ys])) (hsm : (allOf L (ks ++ [ys])).length ≤ 524287) (hm : Marks w W Ds) (hh : isAt L x = hr)
    (hst : BSt w W A n c Bl Bt Bb Bsh Bal nB (shapeOf (ks ++ [ys])) (allOf L (ks ++ [ys])) ((ks ++ [ys]).flatten.map (labelOf L)) (if hr then (nodA L n (seen L ks)).setIfInBounds x.f (.int .i64 (ks.length : Nat)) else nodA L n (seen L ks)) ((seen L ks).map (isAt L) ++ [hr]) (idsOf L (seen L ks) ++ (if hr then [x.f] else [])) isv idv) :
    BRel w W A n c L Bl Bt Bb Bsh Bal nB (ks ++ [ys]) isv idv Ds := by
  refine ⟨hb2, hsm, hm, ?_⟩
  rw [seen_snoc ys hx, nodA_snoc, idsOf_snoc, List.map_append, seen_len hbfs]
  unfold nodStep
  simp only [List.map_cons, List.map_nil, hh]
  exact hst
theorem keep_plain {w W W1 : World} {o : Obj} {v : Value} {b s n : Nat} {e : TypeId} {xs : List Value} (hg : (W.alloc o).grownBy W1 v.ownBlock) (ho : W.ownsRow b e s v n xs) :
    (∀ k t cs, Row W k t cs → e ≠ t → Row W1 k t cs) ∧ (∀ Ds, Marks w W Ds → Marks w W1 Ds) := by
  have he := Eff.plain hg
  refine ⟨fun k t cs hr h1 => Row.eff hr he ⟨own_row ho hr h1, fun e => (by cases e)⟩, fun Ds hm => hm.eff he (fun D hD => ⟨fun e => ?_, fun e => (by cases e)⟩)⟩
  obtain ⟨cs, hr⟩ := own_obj ho e
  have h1 := (hm.2 D hD).2
  have := row_cells hr h1
  cases this
theorem Marks.put {w W : World} {Ds : List Nat} (h : Marks w W Ds) {k i : Nat} {t : TypeId} {cs : Array Value} (hr : Row W k t cs) (u : Value) : Marks w (W.setCell ⟨k, i, none⟩ u) Ds :=
  h.eff (Eff.put W k i u) (fun D hD => ⟨fun e => (by cases e), fun e => by
    injection e with e
    subst e
    have := row_cells hr (h.2 _ hD).2
    cases this⟩)
theorem listIn_append_lies {l₀ nn : Nat} {P : Program} {w : World} {ops : Array Oper} {rest : List Oper} {o : Oper} {a : Act} {Q : Exit → Act → World → Prop} (hgd : o.guard = none) (s x : Operand) (t : TypeId)
    (ho : o.op = .call { callee := .builtin .append, args := #[s, x], argTypes := #[t, t] })
    (base : Nat) (e : TypeId) (i : TypeInfo) (z : Value) (size bytes : Nat) (ht : P.underlying t = some (.slice e)) (hi : P.info? e = some i) (hz : i.zero = some z)
    (hsize : i.size = size) (hby : i.bytes = bytes) (hzs : z.cells.size = size) (hsz : 0 < size)
    (v : Value) (n : Nat) (xs : List Value) (hs : a.eval s = v) (hown : w.ownsRow base e size v n xs)
    (ad : Addr) (m c : Nat) (news : List Value) (hx : a.eval x = .slice (some ad) m c) (hl : news.length = m * size) (hnews : ∀ j u, news[j]? = some u → w.cell? (ad.add j) = some u) (h1 : ∀ u ∈ news, u.oneCell' = true)
    (hm : 0 < m) (h63 : n + m ≤ maxLen) (hbytes : (n + m) * bytes ≤ 140737488355328) (hbase : base ≤ w.heap.size) (H : Nat) (hH : w.heap.size = H)
    (h : ∀ g cap w', w'.ownsRow base e size (.slice (some ⟨g, 0, none⟩) (n + m) cap) (n + m) (xs ++ news) → w.grownBy w' v.ownBlock → (v.ownBlock = some g ∨ g = H) → g < w'.heap.size → wpListIn (Fence.wide.inRound l₀) nn P ops Q rest (a.put o.dst (.slice (some ⟨g, 0, none⟩) (n + m) cap)) w') : wpListIn (Fence.wide.inRound l₀) nn P ops Q (o :: rest) a w :=
  wpListIn_plain hgd fun _ hK => oper_lift (by unfold noDefer; rw [ho]) (wp_append_lies w s x t ho base e i z size bytes ht hi hz hsize hby hzs hsz v n xs hs hown ad m c news hx hl hnews h1 hm h63 hbytes hbase H hH fun g cap w' h2 h3 h4 h5 => hK _ _ (h g cap w' h2 h3 h4 h5))
theorem av_keep {W W2 : World} {Bal X0 Bx : Nat} {Q : Value → Prop} (h : ∀ av, Row W Bal 83 #[av] → ∀ k, av.ownBlock = some k → k ≠ X0 ∧ k ≠ Bx) (hx : ∃ av, Row W Bal 83 #[av] ∧ Q av) (hk : ∀ av, Row W Bal 83 #[av] → Row W2 Bal 83 #[av]) :
    ∀ av, Row W2 Bal 83 #[av] → ∀ k, av.ownBlock = some k → k ≠ X0 ∧ k ≠ Bx := by
  intro av hr k hkk
  obtain ⟨av0, h0, _⟩ := hx
  obtain rfl := row_val hr (hk _ h0)
  exact h _ h0 k hkk
theorem infoSpan : (Try.prog.info? 82).map (fun i => (i.zero, i.size, i.bytes)) = some (some (.agg #[.int .i64 0, .int .i64 0, .int .i64 0]), 3, 24) := by kernel_rfl
theorem span_new (W : World) (s : Span) (j : Nat) (u : Value) (h : (spanC s)[j]? = some u) : (W.alloc (.cells (spanA s) 82)).cell? ((⟨W.heap.size, 0, none⟩ : Addr).add j) = some u := by
  have hr : Row (W.alloc (.cells (spanA s) 82)) W.heap.size 82 (spanA s) := Row.new _ _ _
  have : (⟨W.heap.size, 0, none⟩ : Addr).add j = ⟨W.heap.size, j, none⟩ := by unfold Addr.add; split <;> simp_all
  rw [this, hr.cell j, ← h]
  simp [spanA, spanC]
theorem span_one (s : Span) : ∀ u ∈ spanC s, u.oneCell' = true := by
  intro u hu
  simp [spanC] at hu
  rcases hu with rfl | rfl | rfl <;> rfl
theorem keep_rows2 {w W W1 : World} {o : Obj} {v : Value} {b s n : Nat} {e tq : TypeId} {xs : List Value} {Bq i : Nat} {csq : Array Value} {u : Value} (hg : (W.alloc o).grownBy W1 v.ownBlock) (ho : W.ownsRow b e s v n xs) (hq : Row W Bq tq csq) :
    ∀ k t cs, Row W k t cs → v.ownBlock ≠ some k → tq ≠ t → Row (W1.setCell ⟨Bq, i, none⟩ u) k t cs :=
  fun k t cs hr h1 h2 => Row.eff hr (Eff.boxed hg Bq i u) ⟨h1, row_row hq hr h2⟩
set_option maxHeartbeats 16000000 in
theorem lbuild_good (w : World) (A : Option Addr) (n c : Nat) (ss : List ByteArray) (L : List Str) (hL : ss.map bytesOf = L) (hg : Good L) (hm : n ≤ maxLen) (hz : ∀ s ∈ ss, s.size ≤ maxLen) (hs : Sl w w.heap.size A n (ss.map Value.string)) :
    Calls Try.prog 23 #[.slice A n c] w (BuildPost w L) := by
  have hlen : L.length = n := by have := hs.1; rw [← hL]; simpa using this
  have hfew : n ≤ 20000 := by have := hg.few; omega
  have hmk := run_make_row' (P := Try.prog) 31 3 (.int .i64 0) 8 Try.underlying31 B.infoInt rfl .i64 .i64 n (by omega) (by omega)
  obtain ⟨N0, hN0⟩ : ∃ N0, madeCells #[Value.int .i64 0] n = N0 := ⟨_, rfl⟩
  have HST := Lib.hid (brel_start w A n c L hlen hfew)
  rw [hN0] at hmk HST
  have hck := lcheck_any (w.alloc (.cells #[.slice A n c] 22)) w.heap.size A n c ss L hL hm hz (hs.alloc (Nat.le_refl _) _)
  have HCK := Lib.hid hck
  have HG := Lib.hid hg
  have HS := Lib.hid hs
  have HL := Lib.hid hL
  have HLEN := Lib.hid hlen
  clear hck hN0 hg hz hs hL hlen hm
  refine (callsIn_wide (n := 10)).1 (callsIn_of_wp_marks Try.func23 rfl trivial ?_ rfl)
  refine wpIn_mono (wpIn_wide.2 ?_) bodyQ_post
  simp only [Try.ntmps23, List.size_toArray, List.length_cons, List.length_nil, Nat.reduceAdd, Nat.reduceSub, Array.replicate_succ, Array.replicate_zero, List.push_toArray, List.append_toArray, List.nil_append, List.cons_append]
  go_wp2_with fail
  refine HCK.out.mono ?_
  rintro e w1 ⟨rfl, hP⟩
  obtain rfl : e = .returned (.int .i64 0) := by
    rcases hP with ⟨h, _⟩ | ⟨_, _, h⟩ | ⟨_, h, _⟩
    · omega
    · exact h
    · exact (h HG.out).elim
  clear hP
  go_wp2
  clear hmk
  generalize w.heap.size + 1 + 1 + 1 + 1 + 1 + 1 + 1 = Bal at HST ⊢
  generalize w.heap.size + 1 + 1 + 1 + 1 + 1 + 1 = Ba0 at HST ⊢
  generalize w.heap.size + 1 + 1 + 1 + 1 + 1 = Bsh at HST ⊢
  generalize w.heap.size + 1 + 1 + 1 + 1 = Bs0 at HST ⊢
  generalize w.heap.size + 1 + 1 + 1 = Bb at HST ⊢
  generalize w.heap.size + 1 + 1 = Bt at HST ⊢
  generalize w.heap.size + 1 = nB at HST ⊢
  obtain ⟨Bl, hBl⟩ : ∃ Bl, w.heap.size = Bl := ⟨_, rfl⟩
  have hBl2 : BInv w A n c L w.heap.size = BInv w A n c L Bl := by rw [hBl]
  refine wp_loop (BInv w A n c L w.heap.size Bt Bb Bsh Bal nB) (fun a _ => 5200000 - (intOf (a.tmps.getD 10 undef)).toNat) ?_ ?_
  · refine ⟨[], [], ?_⟩
    (repeat apply Exists.intro)
    refine ⟨HST.out, ?_, rfl⟩
    rfl
  · clear HST HCK
    rw [hBl2]
    clear hBl2
    intro a W hI
    unfold BInv at hI
    obtain ⟨ks, hI⟩ := hI
    obtain ⟨Ds, hI⟩ := hI
    obtain ⟨isv, hI⟩ := hI
    obtain ⟨idv, hI⟩ := hI
    obtain ⟨u10, hI⟩ := hI
    obtain ⟨u4, hI⟩ := hI
    obtain ⟨u11, hI⟩ := hI
    obtain ⟨u12, hI⟩ := hI
    obtain ⟨u13, hI⟩ := hI
    obtain ⟨u14, hI⟩ := hI
    obtain ⟨u15, hI⟩ := hI
    obtain ⟨u16, hI⟩ := hI
    obtain ⟨u17, hI⟩ := hI
    obtain ⟨u18, hI⟩ := hI
    obtain ⟨u19, hI⟩ := hI
    obtain ⟨u20, hI⟩ := hI
    obtain ⟨u21, hI⟩ := hI
    obtain ⟨u22, hI⟩ := hI
    obtain ⟨u23, hI⟩ := hI
    obtain ⟨u24, hI⟩ := hI
    obtain ⟨u25, hI⟩ := hI
    obtain ⟨u26, hI⟩ := hI
    obtain ⟨u27, hI⟩ := hI
    obtain ⟨u28, hI⟩ := hI
    obtain ⟨u29, hI⟩ := hI
    obtain ⟨u30, hI⟩ := hI
    obtain ⟨u31, hI⟩ := hI
    obtain ⟨u32, hI⟩ := hI
    obtain ⟨u33, hI⟩ := hI
    obtain ⟨u34, hI⟩ := hI
    obtain ⟨u35, hI⟩ := hI
    obtain ⟨u36, hI⟩ := hI
    obtain ⟨u37, hI⟩ := hI
    obtain ⟨u38, hI⟩ := hI
    obtain ⟨u39, hI⟩ := hI
    obtain ⟨u40, hI⟩ := hI
    obtain ⟨u41, hI⟩ := hI
    obtain ⟨u42, hI⟩ := hI
    obtain ⟨u43, hI⟩ := hI
    obtain ⟨u44, hI⟩ := hI
    obtain ⟨u45, hI⟩ := hI
    obtain ⟨u46, hI⟩ := hI
    obtain ⟨u47, hI⟩ := hI
    obtain ⟨u48, hI⟩ := hI
    obtain ⟨u49, hI⟩ := hI
    obtain ⟨u50, hI⟩ := hI
    obtain ⟨u51, hI⟩ := hI
    obtain ⟨u52, hI⟩ := hI
    obtain ⟨u53, hI⟩ := hI
    obtain ⟨u54, hI⟩ := hI
    obtain ⟨u55, hI⟩ := hI
    obtain ⟨u56, hI⟩ := hI
    obtain ⟨u57, hI⟩ := hI
    obtain ⟨u58, hI⟩ := hI
    obtain ⟨u59, hI⟩ := hI
    obtain ⟨u60, hI⟩ := hI
    obtain ⟨u61, hI⟩ := hI
    obtain ⟨u62, hI⟩ := hI
    obtain ⟨u63, hI⟩ := hI
    obtain ⟨u64, hI⟩ := hI
    obtain ⟨u65, hI⟩ := hI
    obtain ⟨u66, hI⟩ := hI
    obtain ⟨u67, hI⟩ := hI
    obtain ⟨u68, hI⟩ := hI
    obtain ⟨u69, hI⟩ := hI
    obtain ⟨u70, hI⟩ := hI
    obtain ⟨u71, hI⟩ := hI
    obtain ⟨u72, hI⟩ := hI
    obtain ⟨u73, hI⟩ := hI
    obtain ⟨u74, hI⟩ := hI
    obtain ⟨u75, hI⟩ := hI
    obtain ⟨u76, hI⟩ := hI
    obtain ⟨u77, hI⟩ := hI
    obtain ⟨u78, hI⟩ := hI
    obtain ⟨u79, hI⟩ := hI
    obtain ⟨u80, hI⟩ := hI
    obtain ⟨u81, hI⟩ := hI
    obtain ⟨u82, hI⟩ := hI
    obtain ⟨u83, hI⟩ := hI
    obtain ⟨u84, hI⟩ := hI
    obtain ⟨u85, hI⟩ := hI
    obtain ⟨u86, hI⟩ := hI
    obtain ⟨u87, hI⟩ := hI
    obtain ⟨u88, hI⟩ := hI
    obtain ⟨u89, hI⟩ := hI
    obtain ⟨u90, hI⟩ := hI
    obtain ⟨u91, hI⟩ := hI
    obtain ⟨u92, hI⟩ := hI
    obtain ⟨u93, hI⟩ := hI
    obtain ⟨u94, hI⟩ := hI
    obtain ⟨u95, hI⟩ := hI
    obtain ⟨u96, hI⟩ := hI
    obtain ⟨u97, hI⟩ := hI
    obtain ⟨u98, hI⟩ := hI
    obtain ⟨u99, hI⟩ := hI
    obtain ⟨u100, hI⟩ := hI
    obtain ⟨u101, hI⟩ := hI
    obtain ⟨u102, hI⟩ := hI
    obtain ⟨u103, hI⟩ := hI
    obtain ⟨u104, hI⟩ := hI
    obtain ⟨u105, hI⟩ := hI
    obtain ⟨u106, hI⟩ := hI
    obtain ⟨u107, hI⟩ := hI
    obtain ⟨u108, hI⟩ := hI
    obtain ⟨u109, hI⟩ := hI
    obtain ⟨u110, hI⟩ := hI
    obtain ⟨u111, hI⟩ := hI
    obtain ⟨u112, hI⟩ := hI
    obtain ⟨u113, hI⟩ := hI
    obtain ⟨u114, hI⟩ := hI
    obtain ⟨u115, hI⟩ := hI
    obtain ⟨u116, hI⟩ := hI
    obtain ⟨u117, hI⟩ := hI
    obtain ⟨u118, hI⟩ := hI
    obtain ⟨u119, hI⟩ := hI
    obtain ⟨u120, hI⟩ := hI
    obtain ⟨u121, hI⟩ := hI
    obtain ⟨u122, hI⟩ := hI
    obtain ⟨u123, hI⟩ := hI
    obtain ⟨u124, hI⟩ := hI
    obtain ⟨u125, hI⟩ := hI
    obtain ⟨u126, hI⟩ := hI
    obtain ⟨u127, hI⟩ := hI
    obtain ⟨u128, hI⟩ := hI
    obtain ⟨u129, hI⟩ := hI
    obtain ⟨u130, hI⟩ := hI
    obtain ⟨u131, hI⟩ := hI
    obtain ⟨u132, hI⟩ := hI
    obtain ⟨hrel, rfl, rfl⟩ := hI
    obtain ⟨hbfs, hsmall, hmarks, hst⟩ := hrel
    have HSMALL := Lib.hid hsmall; clear hsmall
    have HBFS := Lib.hid hbfs; have HMK := Lib.hid hmarks; have HST := Lib.hid hst
    obtain ⟨av, hra, hoa⟩ := hst.all
    obtain ⟨A', cap, rfl⟩ := own_slice hoa
    have hcal : W.cell? ⟨Bal, 0, none⟩ = some (.slice A' (allOf L ks).length cap) := hra.cell 0
    have hcl : W.cell? ⟨Bl, 0, none⟩ = some (.slice A n c) := hst.rl.cell 0
    have hcl1 : ∀ o, (W.alloc o).cell? ⟨Bl, 0, none⟩ = some (.slice A n c) := fun o => (hst.rl.alloc o).cell 0
    have hfe := hbfs.few HG.out
    have hwl := wt_root_le HG.out
    have hkl := hbfs.len
    obtain ⟨m, hm⟩ : ∃ m, (allOf L ks).length = m := ⟨_, rfl⟩
    obtain ⟨i, hi⟩ : ∃ i, ks.length = i := ⟨_, rfl⟩
    rw [hm] at hcal hfe hkl
    rw [hi] at hkl ⊢
    have HM := Lib.hid hm; have HI := Lib.hid hi
    have HRA := Lib.hid hra; have HOA := Lib.hid hoa
    clear hbfs hmarks hst hra hoa hm hi
    by_cases hlt : i < m
    · have hb1 : decide (i < m) = true := by simp; omega
      obtain ⟨g, rfl⟩ : ∃ g, A' = some ⟨g, 0, none⟩ := by
        rcases HOA.out.2 with ⟨_, h0⟩ | ⟨g, _, _, hv, _⟩
        · have := HM.out; omega
        · injection hv with hv
          exact ⟨g, hv⟩
      obtain ⟨x, hx⟩ : ∃ x, (allOf L ks)[i]? = some x := ⟨_, List.getElem?_eq_getElem (by rw [HM.out]; exact hlt)⟩
      have hx0 : W.cell? ⟨g, i * 3, none⟩ = some (.int .i64 (x.f : Nat)) := (HOA.out.cellAt (i * 3) (by rw [HM.out]; omega)).trans (spans_at hx 0 (by decide))
      have hx1 : W.cell? ⟨g, i * 3 + 1, none⟩ = some (.int .i64 (x.t : Nat)) := (HOA.out.cellAt (i * 3 + 1) (by rw [HM.out]; omega)).trans (spans_at hx 1 (by decide))
      have hx2 : W.cell? ⟨g, i * 3 + 2, none⟩ = some (.int .i64 (x.d : Nat)) := (HOA.out.cellAt (i * 3 + 2) (by rw [HM.out]; omega)).trans (spans_at hx 2 (by decide))
      have HX := Lib.hid hx; clear hx
      go_wp2_with fail
      clear hx0 hx1 hx2
      refine (children_any _ A n c x.f x.t x.d).mono ?_
      rintro e w' ⟨rfl, hw'⟩
      rw [hw']; clear hw'
      go_wp2
      have hX0 : W.heap.size + 1 + 1 + 1 = (((W.alloc (.cells (spanA x) 82)).alloc (.cells (spanA x) 82)).alloc (.cells #[.slice A n c] 22)).heap.size := by simp
      have hI0 : Hid (RoundI w A n c L Bl Bt Bb Bsh Bal nB ks isv idv Ds x W.heap.size (W.heap.size + 1) (W.heap.size + 1 + 1) [] (((W.alloc (.cells (spanA x) 82)).alloc (.cells (spanA x) 82)).alloc (.cells #[.slice A n c] 22))) := Lib.hid (roundI_start HST.out HMK.out HRA.out HOA.out)
      have hsl3 : Hid (Sl (((W.alloc (.cells (spanA x) 82)).alloc (.cells (spanA x) 82)).alloc (.cells #[.slice A n c] 22)) w.heap.size A n (ss.map Value.string)) := Lib.hid (HS.out.below (((HST.out.alloc _).alloc _).alloc _).bel)
      have hsz := HST.out.bel.size
      refine (wpIn_wide (n := 9)).1 ?_
      refine range_kids (W.heap.size + 1) (W.heap.size + 1 + 1) A n c w.heap.size ss L HL.out x HG.out (HBFS.out.ok HG.out x (List.mem_of_getElem? HX.out)) ?_ ?_ hsl3.out (by simp; omega) rfl
        (RoundI w A n c L Bl Bt Bb Bsh Bal nB ks isv idv Ds x W.heap.size (W.heap.size + 1) (W.heap.size + 1 + 1)) ?_ hI0.out ?assign ?body ?done
      · exact (Row.new2 W _ _ _).alloc _
      · exact Row.new3 W _ _ _ _
      · exact roundI_own HMK.out (by simp; omega) hsz
      case assign =>
        intro l s W' K hK
        simp only [roundAct, spanV, spanA, List.setIfInBounds_toArray, List.set_cons_zero, List.set_cons_succ] at hK ⊢
        gi_wp2
        exact hK
      case body =>
        intro l pre s Bc W' hsz' hI hBc hBc2 hlen
        obtain ⟨sf, hsf⟩ : ∃ sf, s.1 = sf := ⟨_, rfl⟩
        have hs3 := s.2
        rw [hsf] at hs3 hBc ⊢
        obtain ⟨hs3a, hs3b, hs3c, hs3d⟩ := hs3
        have HSF := Lib.hid hsf; clear hsf
        simp only [roundAct, spanV, List.setIfInBounds_toArray, List.set_cons_zero, List.set_cons_succ]
        clear hcal hcl hcl1 hb1 hX0 hI0 hsl3
        obtain ⟨hst1, hX0r, hBxr, hB2r, hav, hmk1⟩ := hI
        obtain ⟨sv, s1, s2, s3⟩ := hst1.shp
        obtain ⟨As, cs, rfl⟩ := own_slice s2
        have hlenS : (shapeOf ks ++ pre.map (fun _ => true)).length ≤ 10500000 := by
          rw [List.length_append, List.length_map, shapeOf_len L ks, HM.out, HI.out]; omega
        have hlenL : (ks.flatten.map (labelOf L) ++ pre.map (fun s => labelOf L s.1)).length ≤ 5200000 := by
          have h1 : (allOf L ks).length = ks.flatten.length + 1 := by simp [allOf]
          rw [List.length_append, List.length_map, List.length_map]; have := HM.out; omega
        have hlenA : (allOf L ks ++ pre.map (·.1)).length ≤ 5200000 := by
          rw [List.length_append, List.length_map, HM.out]; omega
        obtain ⟨SH, hSH⟩ : ∃ SH, shapeOf ks ++ pre.map (fun _ => true) = SH := ⟨_, rfl⟩
        obtain ⟨LB, hLB⟩ : ∃ LB, ks.flatten.map (labelOf L) ++ pre.map (fun s => labelOf L s.1) = LB := ⟨_, rfl⟩
        obtain ⟨AL, hAL⟩ : ∃ AL, allOf L ks ++ pre.map (·.1) = AL := ⟨_, rfl⟩
        rw [hSH] at hst1 s1 s2 s3 hlenS
        rw [hLB] at hst1 hlenL
        rw [hAL] at hst1 hlenA
        have HSH := Lib.hid hSH; have HLB := Lib.hid hLB; have HAL := Lib.hid hAL
        obtain ⟨nsh, hnsh⟩ : ∃ nsh, SH.length = nsh := ⟨_, rfl⟩
        have hcs1 : W'.cell? ⟨Bsh, 0, none⟩ = some (.slice As SH.length cs) := s1.cell 0
        rw [hnsh] at hcs1 hlenS
        have HNSH := Lib.hid hnsh
        have H1 := Lib.hid hst1; have HS1 := Lib.hid s1; have HS2 := Lib.hid s2; have HS3 := Lib.hid s3
        have HX0 := Lib.hid hX0r; have HBX := Lib.hid hBxr; have HB2 := Lib.hid hB2r; have HAV := Lib.hid hav; have HMK1 := Lib.hid hmk1; have HBC := Lib.hid hBc
        have hw' : w.heap.size ≤ W'.heap.size := hst1.bel.size
        clear hst1 s1 s2 s3 hX0r hBxr hB2r hav hmk1 hBc hSH hLB hAL hnsh
        obtain ⟨ib, hib, hzb0, hzb1, hzb2⟩ := info_parts B.infoBool
        refine wpIn_block ?_
        refine wpIn_seq ?_
        refine region_lift (by rintro ⟨_, _, h⟩; exact h) (by kernel_rfl) ?_
        have s2' : W'.ownsRow w.heap.size 4 1 (.slice As nsh cs) nsh (SH.map Value.bool) := by rw [← HNSH.out]; exact HS2.out
        have HS2' := Lib.hid s2'; clear s2'
        go_wp2_with (at_builtin; refine wpList_append_lies _ rfl _ _ 79 rfl w.heap.size 4 ib (.bool false) 1 1 Try.underlying79 hib hzb0 hzb1 hzb2 rfl (by decide) (.slice As nsh cs) nsh (SH.map Value.bool) rfl (HS2'.out.alloc _) ⟨W'.heap.size, 0, none⟩ 1 1 [_] rfl rfl (cell_one_new _ _ _) one_boolv (by decide) (by unfold maxLen; omega) (by omega) (by simp; omega) (W'.heap.size + 1) (by simp) ?_; intro g1 cap1 W1 hown1 hgrow1 hat1 hlt1;
                     have hr1 : Row W1 Bsh 79 #[.slice As nsh cs] := by { have h := (HS1.out.alloc _).grown hgrow1 (fun e => own_row HS2'.out HS1.out (by decide) e.symm); rwa [HNSH.out] at h };
                     have hc1 : W1.cell? ⟨Bsh, 0, none⟩ = some (.slice As nsh cs) := hr1.cell 0;
                     have hf1 := hr1.frozen 0;
                     have HO1 := Lib.hid hown1; have HG1 := Lib.hid hgrow1; have HAT1 := Lib.hid hat1; clear hown1 hgrow1 hat1 hr1)
        obtain ⟨W2, hW2⟩ : ∃ W2, W1.setCell ⟨Bsh, 0, none⟩ (.slice (some ⟨g1, 0, none⟩) (nsh + 1) cap1) = W2 := ⟨_, rfl⟩
        have hs1n : Row W' Bsh 79 #[.slice As nsh cs] := by have h := HS1.out; rwa [HNSH.out] at h
        have hs3n : ∀ g, (Value.slice As nsh cs).ownBlock = some g → isv.ownBlock ≠ some g := by have h := HS3.out; rwa [HNSH.out] at h
        have H2 : Hid (BSt w W2 A n c Bl Bt Bb Bsh Bal nB (SH ++ [true]) AL LB (nodA L n (seen L ks)) ((seen L ks).map (isAt L)) (idsOf L (seen L ks)) isv idv) := Lib.hid (by
          rw [← hW2]
          refine H1.out.pushShape hs1n (by rw [HNSH.out]; exact HS2'.out) hs3n ?_ HG1.out (HAT1.out.elim (fun h => .inl h.symm) (fun h => .inr (by rw [h]; rfl)))
          rw [HNSH.out]; exact HO1.out)
        have K2 := Lib.hid (keep_rows (w := w) (i := 0) (u := .slice (some ⟨g1, 0, none⟩) (nsh + 1) cap1) HG1.out HS2'.out hs1n)
        rw [hW2] at K2 ⊢
        have HX02 := Lib.hid (K2.out.1 _ _ _ HX0.out (by decide) (by decide)); have HBX2 := Lib.hid (K2.out.1 _ _ _ HBX.out (by decide) (by decide)); have HB22 := Lib.hid (K2.out.1 _ _ _ HB2.out (by decide) (by decide)); have HBC2 := Lib.hid (K2.out.1 _ _ _ HBC.out (by decide) (by decide))
        have HMK2 := Lib.hid (K2.out.2.2 _ HMK1.out)
        have HAV2 := Lib.hid (av_keep HAV.out H1.out.all (fun av h => K2.out.1 _ _ _ h (by decide) (by decide)))
        have HKO2 := Lib.hid K2.out.2.1
        clear hc1 hf1 hlt1 hcs1 hs1n hs3n HO1 HG1 HAT1 K2 HS1 HS2 HS2' HS3 HX0 HBC HAV hW2
        obtain ⟨lv, t1, t2⟩ := H2.out.tr
        obtain ⟨Al, cl, rfl⟩ := own_slice t2
        obtain ⟨nl, hnl⟩ : ∃ nl, LB.length = nl := ⟨_, rfl⟩
        rw [hnl] at t1 t2 hlenL
        have HNL := Lib.hid hnl; clear hnl
        have HT1 := Lib.hid t1; have HT2 := Lib.hid t2
        obtain ⟨b, off, str, hA, hcstr, hastr⟩ : ∃ b off s, A = some ⟨b, off, none⟩ ∧ W2.cell? ⟨b, off + sf.f, none⟩ = some (.string s) ∧ at_ L sf.f = bytesOf s := by
          obtain ⟨b, off, u, hA, _, hu, hc⟩ := (HS.out.below H2.out.bel).at_ (k := sf.f) (by have := HLEN.out; omega)
          rw [List.getElem?_map] at hu
          obtain ⟨s, hs1, rfl⟩ := Option.map_eq_some_iff.1 hu
          exact ⟨b, off, s, hA, hc, by rw [← HL.out]; exact at_bytes hs1⟩
        have hidx := idx_str str x.d (by rw [← hastr]; exact hs3d)
        have hbv : (bytesOf str).getD x.d 0 = labelOf L sf := by unfold labelOf byte; rw [hastr, hs3c]; rfl
        rw [hbv] at hidx
        obtain ⟨lb, hlb⟩ : ∃ lb, labelOf L sf = lb := ⟨_, rfl⟩
        rw [hlb] at hidx
        have HLBV := Lib.hid hlb
        have e1 : W2.drew.cell? ⟨Bb, 0, none⟩ = some (.pointer (some ⟨Bt, 0, none⟩)) := H2.out.rb.cell 0
        have e2 : W2.drew.cell? ⟨Bl, 0, none⟩ = some (.slice A n c) := H2.out.rl.cell 0
        have e3 : W2.drew.cell? ⟨Bc, 0, none⟩ = some (.int .i64 (sf.f : Nat)) := HBC2.out.cell 0
        have e4 : W2.drew.cell? ⟨b, off + sf.f, none⟩ = some (.string str) := hcstr
        have e5 : W2.drew.cell? ⟨W.heap.size, 2, none⟩ = some (.int .i64 (x.d : Nat)) := HX02.out.cell 2
        have hlvc : W2.cell? ⟨Bt, 2, none⟩ = some (.slice Al nl cl) := t1.cell 2
        have f1 : (0 : Int) ≤ (sf.f : Int) := by omega
        have f2 : (sf.f : Int) < (n : Int) := by have := HLEN.out; omega
        clear t1 t2 hbv hlb hastr hcstr
        subst hA
        gi_wp2
        refine drawn_lift (S := fun w' => w'.cell? ⟨Bb, 0, none⟩ = some (.pointer (some ⟨Bt, 0, none⟩)) ∧ w'.cell? ⟨Bl, 0, none⟩ = some (.slice (some ⟨b, off, none⟩) n c) ∧ w'.cell? ⟨Bc, 0, none⟩ = some (.int .i64 (sf.f : Nat)) ∧ w'.cell? ⟨b, off + sf.f, none⟩ = some (.string str) ∧ w'.cell? ⟨W.heap.size, 2, none⟩ = some (.int .i64 (x.d : Nat)))
          (by kernel_rfl) (by rintro ⟨_, _, h⟩; exact h) (by kernel_rfl) ⟨e1, e2, e3, e4, e5⟩ (fun hHeld => ?_)
        refine wpAnyH_take (i := 0) (oi := _) (v := ?_) rfl (by kernel_rfl) (by kernel_rfl) (by kernel_rfl) (fun _ _ _ h => h) (Or.inl ⟨by rfl, ?_⟩) hHeld ?_
        rotate_left
        · (intro w hSw; (try dsimp only at hSw); simp only [List.getElem_toArray, List.getElem_cons_zero]; go_simp; try with_reducible rfl)
        simp only [List.getElem_toArray, List.getElem_cons_zero, Act.put, List.setIfInBounds_toArray, List.set_cons_zero, List.set_cons_succ]
        refine wpAnyH_take (i := 1) (oi := _) (v := ?_) rfl (by kernel_rfl) (by kernel_rfl) (by kernel_rfl) (fun _ _ _ h => h) (Or.inl ⟨by rfl, ?_⟩) hHeld ?_
        rotate_left
        · (intro w hSw; (try dsimp only at hSw); simp only [List.getElem_toArray, List.getElem_cons_zero, List.getElem_cons_succ]; go_simp; try with_reducible rfl)
        simp only [List.getElem_toArray, List.getElem_cons_zero, List.getElem_cons_succ, Act.put, List.setIfInBounds_toArray, List.set_cons_zero, List.set_cons_succ]
        refine wpAnyH_take (i := 2) (oi := _) (v := ?_) rfl (by kernel_rfl) (by kernel_rfl) (by kernel_rfl) (fun _ _ _ h => h) (Or.inl ⟨by rfl, ?_⟩) hHeld ?_
        rotate_left
        · (intro w hSw; (try dsimp only at hSw); simp only [List.getElem_toArray, List.getElem_cons_zero, List.getElem_cons_succ]; go_simp; try with_reducible rfl)
        simp only [List.getElem_toArray, List.getElem_cons_zero, List.getElem_cons_succ, Act.put, List.setIfInBounds_toArray, List.set_cons_zero, List.set_cons_succ]
        refine wpAnyH_take (i := 3) (oi := _) (v := ?_) rfl (by kernel_rfl) (by kernel_rfl) (by kernel_rfl) (fun _ _ _ h => h) (Or.inl ⟨by rfl, ?_⟩) hHeld ?_
        rotate_left
        · (intro w hSw; (try dsimp only at hSw); simp only [List.getElem_toArray, List.getElem_cons_zero, List.getElem_cons_succ]; go_simp; try with_reducible rfl)
        simp only [List.getElem_toArray, List.getElem_cons_zero, List.getElem_cons_succ, Act.put, List.setIfInBounds_toArray, List.set_cons_zero, List.set_cons_succ]
        refine wpAnyH_take (i := 5) (oi := _) (v := ?_) rfl (by kernel_rfl) (by kernel_rfl) (by kernel_rfl) (fun _ _ _ h => h) (Or.inl ⟨by rfl, ?_⟩) hHeld ?_
        rotate_left
        · (intro w hSw; (try dsimp only at hSw); simp only [List.getElem_toArray, List.getElem_cons_zero, List.getElem_cons_succ]; go_simp; try with_reducible rfl)
        simp only [List.getElem_toArray, List.getElem_cons_zero, List.getElem_cons_succ, Act.put, List.setIfInBounds_toArray, List.set_cons_zero, List.set_cons_succ]
        refine wpAnyH_take (i := 6) (oi := _) (v := ?_) rfl (by kernel_rfl) (by kernel_rfl) (by kernel_rfl) (fun _ _ _ h => h) (Or.inl ⟨by rfl, ?_⟩) hHeld ?_
        rotate_left
        · (intro w hSw; (try dsimp only at hSw); simp only [List.getElem_toArray, List.getElem_cons_zero, List.getElem_cons_succ]; go_simp; try with_reducible rfl)
        simp only [List.getElem_toArray, List.getElem_cons_zero, List.getElem_cons_succ, Act.put, List.setIfInBounds_toArray, List.set_cons_zero, List.set_cons_succ]
        refine wpAnyH_take (i := 7) (oi := _) (v := ?_) rfl (by kernel_rfl) (by kernel_rfl) (by kernel_rfl) (fun _ _ _ h => h) (Or.inl ⟨by rfl, ?_⟩) hHeld ?_
        rotate_left
        · (intro w hSw; (try dsimp only at hSw); simp only [List.getElem_toArray, List.getElem_cons_zero, List.getElem_cons_succ]; go_simp; try with_reducible rfl)
        simp only [List.getElem_toArray, List.getElem_cons_zero, List.getElem_cons_succ, Act.put, List.setIfInBounds_toArray, List.set_cons_zero, List.set_cons_succ]
        refine wpAnyH_take (i := 8) (oi := _) (v := ?_) rfl (by kernel_rfl) (by kernel_rfl) (by kernel_rfl) (fun _ _ _ h => h) (Or.inl ⟨by rfl, ?_⟩) hHeld ?_
        rotate_left
        · (intro w hSw; (try dsimp only at hSw); simp only [List.getElem_toArray, List.getElem_cons_zero, List.getElem_cons_succ]; go_simp; try with_reducible rfl)
        simp only [List.getElem_toArray, List.getElem_cons_zero, List.getElem_cons_succ, Act.put, List.setIfInBounds_toArray, List.set_cons_zero, List.set_cons_succ]
        refine wpAnyH_take (i := 9) (oi := _) (v := ?_) rfl (by kernel_rfl) (by kernel_rfl) (by kernel_rfl) (fun _ _ _ h => h) (Or.inl ⟨by rfl, ?_⟩) hHeld ?_
        rotate_left
        · (intro w hSw; (try dsimp only at hSw); simp only [List.getElem_toArray, List.getElem_cons_zero, List.getElem_cons_succ]; go_simp; try with_reducible rfl)
        simp only [List.getElem_toArray, List.getElem_cons_zero, List.getElem_cons_succ, Act.put, List.setIfInBounds_toArray, List.set_cons_zero, List.set_cons_succ]
        refine wpAnyH_take (i := 10) (oi := _) (v := ?_) rfl (by kernel_rfl) (by kernel_rfl) (by kernel_rfl) (fun _ _ _ h => h) (Or.inl ⟨by rfl, ?_⟩) hHeld ?_
        rotate_left
        · (intro w hSw; (try dsimp only at hSw); simp only [List.getElem_toArray, List.getElem_cons_zero, List.getElem_cons_succ]; go_simp; try with_reducible rfl)
        simp only [List.getElem_toArray, List.getElem_cons_zero, List.getElem_cons_succ, Act.put, List.setIfInBounds_toArray, List.set_cons_zero, List.set_cons_succ]
        refine wpAnyH_take (i := 11) (oi := _) (v := ?_) rfl (by kernel_rfl) (by kernel_rfl) (by kernel_rfl) (fun _ _ _ h => h) (Or.inl ⟨by rfl, ?_⟩) hHeld ?_
        rotate_left
        · (intro w hSw; (try dsimp only at hSw); simp only [List.getElem_toArray, List.getElem_cons_zero, List.getElem_cons_succ]; go_simp; try with_reducible rfl)
        simp only [List.getElem_toArray, List.getElem_cons_zero, List.getElem_cons_succ, Act.put, List.setIfInBounds_toArray, List.set_cons_zero, List.set_cons_succ]
        refine wpAnyH_take (i := 12) (oi := _) (v := ?_) rfl (by kernel_rfl) (by kernel_rfl) (by kernel_rfl) (fun _ _ _ h => h) (Or.inl ⟨by rfl, ?_⟩) hHeld ?_
        rotate_left
        · (intro w hSw; (try dsimp only at hSw); simp only [List.getElem_toArray, List.getElem_cons_zero, List.getElem_cons_succ]; go_simp; try with_reducible rfl)
        simp only [List.getElem_toArray, List.getElem_cons_zero, List.getElem_cons_succ, Act.put, List.setIfInBounds_toArray, List.set_cons_zero, List.set_cons_succ]
        obtain ⟨iu, hiu, hzu0, hzu1, hzu2⟩ := info_parts B.infoU8
        have hw2 : w.heap.size ≤ W2.heap.size := H2.out.bel.size
        have hal : ∀ o, (W2.alloc o).cell? ⟨Bt, 2, none⟩ = some (.slice Al nl cl) := fun o => (HT1.out.alloc o).cell 2
        have hSal : ∀ o, (W2.alloc o).drew.cell? ⟨Bb, 0, none⟩ = some (.pointer (some ⟨Bt, 0, none⟩)) ∧ (W2.alloc o).drew.cell? ⟨Bl, 0, none⟩ = some (.slice (some ⟨b, off, none⟩) n c) ∧ (W2.alloc o).drew.cell? ⟨Bc, 0, none⟩ = some (.int .i64 (sf.f : Nat)) ∧ (W2.alloc o).drew.cell? ⟨b, off + sf.f, none⟩ = some (.string str) ∧ (W2.alloc o).drew.cell? ⟨W.heap.size, 2, none⟩ = some (.int .i64 (x.d : Nat)) := fun o =>
          ⟨(H2.out.rb.alloc o).cell 0, (H2.out.rl.alloc o).cell 0, (HBC2.out.alloc o).cell 0, (World.cell?_alloc_lt W2 o ⟨b, off + sf.f, none⟩ (cell_lt e4)).trans e4, (HX02.out.alloc o).cell 2⟩
        have HSAL := Lib.hid hSal; clear hSal
        refine wpAnyH_ready (rs := [4, 13]) (by kernel_rfl) (by simp) ?_
        refine AllReadyH.cons (o := _) rfl (fun K hK => ?_) (AllReadyH.cons (o := _) rfl (fun K hK => ?_) AllReadyH.nil)
        · go_simp
          refine hK.out _ _ hHeld (fun hHeld => ?_)
          clear hK K
          try simp only [Act.put, List.setIfInBounds_toArray, List.set_cons_zero, List.set_cons_succ]
          refine wpAnyH_ready (rs := [13]) (by kernel_rfl) (by simp) ?_
          refine AllReadyH.cons (o := _) rfl (fun K hK => ?_) AllReadyH.nil
          go_simp
          refine hK.out _ _ (HSAL.out _) (fun hHeld => ?_)
          clear hK K
          try simp only [Act.put, List.setIfInBounds_toArray, List.set_cons_zero, List.set_cons_succ]
          refine wpAnyH_ready (rs := [14]) (by kernel_rfl) (by simp) ?_
          refine AllReadyH.cons (o := _) rfl (fun K hK => ?_) AllReadyH.nil
          refine step_append_lies _ (by rfl) _ _ _ (by rfl) w.heap.size 5 iu (.int .u8 0) 1 1 Try.underlying26 hiu hzu0 hzu1 hzu2 rfl (by omega) (.slice Al nl cl) nl (LB.map B.u8v) (by rfl) ((HT2.out.alloc _).drew)
            ⟨W2.heap.size, 0, none⟩ 1 1 [.int .u8 (lb : Int)] (by rfl) (by rfl) (cell_one_new _ _ _) one_oneCell (by omega) (by unfold maxLen; omega) (by omega) (by simp; omega) (W2.heap.size + 1) (by simp) ?_
          intro g2 cap2 W3 hown3 hgrow3 hat3 hlt3
          have hg3 : (W2.alloc (.cells #[.int .u8 (lb : Int)] 5)).grownBy W3 (Value.slice Al nl cl).ownBlock := ⟨hgrow3.os, hgrow3.tape, hgrow3.output, hgrow3.size, hgrow3.block⟩
          have hr3 : Row W3 Bt 66 #[.pointer none, .pointer none, .slice Al nl cl, .pointer none, .slice (some ⟨nB, 0, none⟩) n n] := (HT1.out.alloc _).grown hg3 (fun e => own_row HT2.out HT1.out (by decide) e.symm)
          have hc3 : W3.cell? ⟨Bt, 2, none⟩ = some (.slice Al nl cl) := hr3.cell 2
          have hf3 := hr3.frozen 2
          have K3 := Lib.hid (keep_rows (w := w) (i := 2) (u := .slice (some ⟨g2, 0, none⟩) (nl + 1) cap2) hg3 HT2.out HT1.out)
          have H3 : Hid (BSt w (W3.setCell ⟨Bt, 2, none⟩ (.slice (some ⟨g2, 0, none⟩) (nl + 1) cap2)) (some ⟨b, off, none⟩) n c Bl Bt Bb Bsh Bal nB (SH ++ [true]) AL (LB ++ [lb]) (nodA L n (seen L ks)) ((seen L ks).map (isAt L)) (idsOf L (seen L ks)) isv idv) := Lib.hid (H2.out.pushLabel HT1.out (by rw [HNL.out]; exact HT2.out) (by rw [HNL.out]; exact hown3) hg3)
          have hb2 : b < w.heap.size := by
            obtain ⟨b', off', u', he, hb', _, _⟩ := HS.out.at_ (k := sf.f) (by have := HLEN.out; omega)
            injection he with he
            injection he with he1 he2
            rw [he1]; exact hb'
          have hS3 := (⟨(Row.eff H2.out.rb (Eff.plain hg3) ⟨own_row HT2.out H2.out.rb (by decide), fun e => (by cases e)⟩).cell 0, (Row.eff H2.out.rl (Eff.plain hg3) ⟨own_row HT2.out H2.out.rl (by decide), fun e => (by cases e)⟩).cell 0, (Row.eff HBC2.out (Eff.plain hg3) ⟨own_row HT2.out HBC2.out (by decide), fun e => (by cases e)⟩).cell 0, ((bel_grow (W := W2) hw2 HT2.out hg3).cell (p := ⟨b, off + sf.f, none⟩) hb2).trans e4, (Row.eff HX02.out (Eff.plain hg3) ⟨own_row HT2.out HX02.out (by decide), fun e => (by cases e)⟩).cell 2⟩ : W3.cell? ⟨Bb, 0, none⟩ = some (.pointer (some ⟨Bt, 0, none⟩)) ∧ W3.cell? ⟨Bl, 0, none⟩ = some (.slice (some ⟨b, off, none⟩) n c) ∧ W3.cell? ⟨Bc, 0, none⟩ = some (.int .i64 (sf.f : Nat)) ∧ W3.cell? ⟨b, off + sf.f, none⟩ = some (.string str) ∧ W3.cell? ⟨W.heap.size, 2, none⟩ = some (.int .i64 (x.d : Nat)))
          refine hK.out _ _ hS3 (fun hHeld => ?_)
          clear hK K
          try simp only [Act.put, List.setIfInBounds_toArray]
          refine wpAnyH_take (i := 15) (oi := _) (v := ?_) rfl (by kernel_rfl) (by kernel_rfl) (by kernel_rfl) (fun _ _ _ h => h) (Or.inl ⟨by rfl, ?_⟩) hHeld ?_
          rotate_left
          · (intro w hSw; (try dsimp only at hSw); simp only [List.getElem_toArray, List.getElem_cons_zero, List.getElem_cons_succ]; go_simp; try with_reducible rfl)
          simp only [List.getElem_toArray, List.getElem_cons_zero, List.getElem_cons_succ, Act.put, List.setIfInBounds_toArray, List.set_cons_zero, List.set_cons_succ]
          refine wpAnyH_take (i := 16) (oi := _) (v := ?_) rfl (by kernel_rfl) (by kernel_rfl) (by kernel_rfl) (fun _ _ _ h => h) (Or.inl ⟨by rfl, ?_⟩) hHeld ?_
          rotate_left
          · (intro w hSw; (try dsimp only at hSw); simp only [List.getElem_toArray, List.getElem_cons_zero, List.getElem_cons_succ]; go_simp; try with_reducible rfl)
          simp only [List.getElem_toArray, List.getElem_cons_zero, List.getElem_cons_succ, Act.put, List.setIfInBounds_toArray, List.set_cons_zero, List.set_cons_succ]
          obtain ⟨W4, hW4⟩ : ∃ W4, W3.setCell ⟨Bt, 2, none⟩ (.slice (some ⟨g2, 0, none⟩) (nl + 1) cap2) = W4 := ⟨_, rfl⟩
          rw [hW4] at H3 K3
          have HX04 := Lib.hid (K3.out.1 _ _ _ HX02.out (by decide) (by decide)); have HBX4 := Lib.hid (K3.out.1 _ _ _ HBX2.out (by decide) (by decide)); have HB24 := Lib.hid (K3.out.1 _ _ _ HB22.out (by decide) (by decide)); have HBC4 := Lib.hid (K3.out.1 _ _ _ HBC2.out (by decide) (by decide))
          have HMK4 := Lib.hid (K3.out.2.2 _ HMK2.out)
          have HAV4 := Lib.hid (av_keep HAV2.out H2.out.all (fun av h => K3.out.1 _ _ _ h (by decide) (by decide)))
          have HKO4 := Lib.hid (HKO2.out.trans K3.out.2.1)
          have hS4 := (⟨H3.out.rb.cell 0, H3.out.rl.cell 0, HBC4.out.cell 0, (H3.out.bel.cell (p := ⟨b, off + sf.f, none⟩) hb2).trans ((H2.out.bel.cell (p := ⟨b, off + sf.f, none⟩) hb2).symm.trans e4), HX04.out.cell 2⟩ : W4.cell? ⟨Bb, 0, none⟩ = some (.pointer (some ⟨Bt, 0, none⟩)) ∧ W4.cell? ⟨Bl, 0, none⟩ = some (.slice (some ⟨b, off, none⟩) n c) ∧ W4.cell? ⟨Bc, 0, none⟩ = some (.int .i64 (sf.f : Nat)) ∧ W4.cell? ⟨b, off + sf.f, none⟩ = some (.string str) ∧ W4.cell? ⟨W.heap.size, 2, none⟩ = some (.int .i64 (x.d : Nat)))
          refine wpAnyH_ready (rs := [17]) (by kernel_rfl) (by simp) ?_
          refine AllReadyH.cons (o := _) rfl (fun K hK => ?_) AllReadyH.nil
          go_simp
          refine hK.out _ _ (hS4) (fun hHeld => ?_)
          clear hK K
          try simp only [Act.put, List.setIfInBounds_toArray, List.set_cons_zero, List.set_cons_succ]
          refine wpAnyH_done (by kernel_rfl) ?_ _
          clear hW4 hS4 hS3 hHeld hc3 hf3 hr3 hg3 hown3 hgrow3 hat3 hlt3 K3 e1 e2 e3 e4 e5 hlvc hal HSAL hidx
          obtain ⟨av1, a1, a2⟩ := H3.out.all
          obtain ⟨Aa, ca, rfl⟩ := own_slice a2
          obtain ⟨na, hna⟩ : ∃ na, AL.length = na := ⟨_, rfl⟩
          rw [hna] at a1 a2 hlenA
          have HNA := Lib.hid hna; clear hna
          have hcal4 : W4.cell? ⟨Bal, 0, none⟩ = some (.slice Aa na ca) := a1.cell 0
          have hcx0 : W4.cell? ⟨Bc, 0, none⟩ = some (.int .i64 (sf.f : Nat)) := HBC4.out.cell 0
          have hcx1 : W4.cell? ⟨Bc, 1, none⟩ = some (.int .i64 (sf.t : Nat)) := HBC4.out.cell 1
          have hcx2 : W4.cell? ⟨Bc, 2, none⟩ = some (.int .i64 (sf.d : Nat)) := HBC4.out.cell 2
          have HA1 := Lib.hid a1; have HA2 := Lib.hid a2; clear a1 a2
          have hw4 : w.heap.size ≤ W4.heap.size := H3.out.bel.size
          obtain ⟨isp, hisp, hzs0, hzs1, hzs2⟩ := info_parts infoSpan
          have HS3C := Lib.hid hs3c; clear hs3c
          simp only [Exit.then]
          apply_assumption
          refine region_lift (by rintro ⟨_, _, h⟩; exact h) (by kernel_rfl) ?_
          go_wp2_with (at_builtin; refine wpList_append_lies _ rfl _ _ 83 rfl w.heap.size 82 isp _ 3 24 Try.underlying83 hisp hzs0 hzs1 hzs2 rfl (by decide) (.slice Aa na ca) na (spansC AL) rfl (HA2.out.alloc _) ⟨W4.heap.size, 0, none⟩ 1 1 (spanC sf) rfl rfl (span_new _ _) (span_one _) (by decide) (by unfold maxLen; omega) (by omega) (by simp; omega) (W4.heap.size + 1) (by simp) ?_; intro g5 cap5 W5 hown5 hgrow5 hat5 hlt5;
                       have hr5 : Row W5 Bal 83 #[.slice Aa na ca] := (HA1.out.alloc _).grown hgrow5 (fun e => own_row HA2.out HA1.out (by decide) e.symm);
                       have hc5 : W5.cell? ⟨Bal, 0, none⟩ = some (.slice Aa na ca) := hr5.cell 0;
                       have hf5 := hr5.frozen 0;
                       have HO5 := Lib.hid hown5; have HG5 := Lib.hid hgrow5; have HAT5 := Lib.hid hat5; clear hown5 hgrow5 hat5 hr5)
          have H6 := H3.out.pushAll HA1.out (by rw [HNA.out]; exact HA2.out) (by rw [HNA.out]; exact HO5.out) HG5.out
          have K6 := keep_rows (w := w) (i := 0) (u := .slice (some ⟨g5, 0, none⟩) (na + 1) cap5) HG5.out HA2.out HA1.out
          have K6' := keep_rows2 (w := w) (i := 0) (u := .slice (some ⟨g5, 0, none⟩) (na + 1) cap5) HG5.out HA2.out HA1.out
          have nX := HAV4.out _ HA1.out
          have hr6 : Row (W5.setCell ⟨Bal, 0, none⟩ (.slice (some ⟨g5, 0, none⟩) (na + 1) cap5)) Bal 83 #[.slice (some ⟨g5, 0, none⟩) (na + 1) cap5] := ((HA1.out.alloc _).grown HG5.out (fun e => own_row HA2.out HA1.out (by decide) e.symm)).put 0 _
          have hz4 := HKO4.out.size
          refine ⟨(HKO4.out.trans K6.2.1).from _, ⟨?_, ?_, fun ad e => ?_⟩, ?_⟩
          · exact (K6' _ _ _ HBX4.out (fun e => (nX _ e).2 rfl) (by decide)).trans HBX.out.symm
          · exact (K6.1 _ _ _ HB24.out (by decide) (by decide)).trans HB2.out.symm
          · have h := strA_lt HS.out ad e
            exact (H6.bel.block _ h).trans (H1.out.bel.block _ h).symm
          · refine ⟨?_, K6' _ _ _ HX04.out (fun e => (nX _ e).1 rfl) (by decide), K6' _ _ _ HBX4.out (fun e => (nX _ e).2 rfl) (by decide), K6.1 _ _ _ HB24.out (by decide) (by decide), ?_, K6.2.2 _ HMK4.out⟩
            · have eS : shapeOf ks ++ (pre ++ [s]).map (fun _ => true) = SH ++ [true] := by rw [← HSH.out]; simp
              have eA : allOf L ks ++ (pre ++ [s]).map (·.1) = AL ++ [sf] := by rw [← HAL.out, ← HSF.out]; simp
              have eL : ks.flatten.map (labelOf L) ++ (pre ++ [s]).map (fun s => labelOf L s.1) = LB ++ [lb] := by rw [← HLB.out, ← HLBV.out, ← HSF.out]; simp
              rw [eS, eA, eL]
              exact H6
            · intro av h k hk
              obtain rfl := row_val h hr6
              have hk' : g5 = k := by simpa [Value.ownBlock] using hk
              rcases HAT5.out with e | e
              · exact nX k (by rw [← hk']; exact e)
              · simp at hsz'
                omega
        · go_simp
          refine hK.out _ _ (HSAL.out _) (fun hHeld => ?_)
          clear hK K
          try simp only [Act.put, List.setIfInBounds_toArray, List.set_cons_zero, List.set_cons_succ]
          refine wpAnyH_ready (rs := [4]) (by kernel_rfl) (by simp) ?_
          refine AllReadyH.cons (o := _) rfl (fun K hK => ?_) AllReadyH.nil
          go_simp
          refine hK.out _ _ (HSAL.out _) (fun hHeld => ?_)
          clear hK K
          try simp only [Act.put, List.setIfInBounds_toArray, List.set_cons_zero, List.set_cons_succ]
          refine wpAnyH_ready (rs := [14]) (by kernel_rfl) (by simp) ?_
          refine AllReadyH.cons (o := _) rfl (fun K hK => ?_) AllReadyH.nil
          refine step_append_lies _ (by rfl) _ _ _ (by rfl) w.heap.size 5 iu (.int .u8 0) 1 1 Try.underlying26 hiu hzu0 hzu1 hzu2 rfl (by omega) (.slice Al nl cl) nl (LB.map B.u8v) (by rfl) ((HT2.out.alloc _).drew)
            ⟨W2.heap.size, 0, none⟩ 1 1 [.int .u8 (lb : Int)] (by rfl) (by rfl) (cell_one_new _ _ _) one_oneCell (by omega) (by unfold maxLen; omega) (by omega) (by simp; omega) (W2.heap.size + 1) (by simp) ?_
          intro g2 cap2 W3 hown3 hgrow3 hat3 hlt3
          have hg3 : (W2.alloc (.cells #[.int .u8 (lb : Int)] 5)).grownBy W3 (Value.slice Al nl cl).ownBlock := ⟨hgrow3.os, hgrow3.tape, hgrow3.output, hgrow3.size, hgrow3.block⟩
          have hr3 : Row W3 Bt 66 #[.pointer none, .pointer none, .slice Al nl cl, .pointer none, .slice (some ⟨nB, 0, none⟩) n n] := (HT1.out.alloc _).grown hg3 (fun e => own_row HT2.out HT1.out (by decide) e.symm)
          have hc3 : W3.cell? ⟨Bt, 2, none⟩ = some (.slice Al nl cl) := hr3.cell 2
          have hf3 := hr3.frozen 2
          have K3 := Lib.hid (keep_rows (w := w) (i := 2) (u := .slice (some ⟨g2, 0, none⟩) (nl + 1) cap2) hg3 HT2.out HT1.out)
          have H3 : Hid (BSt w (W3.setCell ⟨Bt, 2, none⟩ (.slice (some ⟨g2, 0, none⟩) (nl + 1) cap2)) (some ⟨b, off, none⟩) n c Bl Bt Bb Bsh Bal nB (SH ++ [true]) AL (LB ++ [lb]) (nodA L n (seen L ks)) ((seen L ks).map (isAt L)) (idsOf L (seen L ks)) isv idv) := Lib.hid (H2.out.pushLabel HT1.out (by rw [HNL.out]; exact HT2.out) (by rw [HNL.out]; exact hown3) hg3)
          have hb2 : b < w.heap.size := by
            obtain ⟨b', off', u', he, hb', _, _⟩ := HS.out.at_ (k := sf.f) (by have := HLEN.out; omega)
            injection he with he
            injection he with he1 he2
            rw [he1]; exact hb'
          have hS3 := (⟨(Row.eff H2.out.rb (Eff.plain hg3) ⟨own_row HT2.out H2.out.rb (by decide), fun e => (by cases e)⟩).cell 0, (Row.eff H2.out.rl (Eff.plain hg3) ⟨own_row HT2.out H2.out.rl (by decide), fun e => (by cases e)⟩).cell 0, (Row.eff HBC2.out (Eff.plain hg3) ⟨own_row HT2.out HBC2.out (by decide), fun e => (by cases e)⟩).cell 0, ((bel_grow (W := W2) hw2 HT2.out hg3).cell (p := ⟨b, off + sf.f, none⟩) hb2).trans e4, (Row.eff HX02.out (Eff.plain hg3) ⟨own_row HT2.out HX02.out (by decide), fun e => (by cases e)⟩).cell 2⟩ : W3.cell? ⟨Bb, 0, none⟩ = some (.pointer (some ⟨Bt, 0, none⟩)) ∧ W3.cell? ⟨Bl, 0, none⟩ = some (.slice (some ⟨b, off, none⟩) n c) ∧ W3.cell? ⟨Bc, 0, none⟩ = some (.int .i64 (sf.f : Nat)) ∧ W3.cell? ⟨b, off + sf.f, none⟩ = some (.string str) ∧ W3.cell? ⟨W.heap.size, 2, none⟩ = some (.int .i64 (x.d : Nat)))
          refine hK.out _ _ hS3 (fun hHeld => ?_)
          clear hK K
          try simp only [Act.put, List.setIfInBounds_toArray]
          refine wpAnyH_take (i := 15) (oi := _) (v := ?_) rfl (by kernel_rfl) (by kernel_rfl) (by kernel_rfl) (fun _ _ _ h => h) (Or.inl ⟨by rfl, ?_⟩) hHeld ?_
          rotate_left
          · (intro w hSw; (try dsimp only at hSw); simp only [List.getElem_toArray, List.getElem_cons_zero, List.getElem_cons_succ]; go_simp; try with_reducible rfl)
          simp only [List.getElem_toArray, List.getElem_cons_zero, List.getElem_cons_succ, Act.put, List.setIfInBounds_toArray, List.set_cons_zero, List.set_cons_succ]
          refine wpAnyH_take (i := 16) (oi := _) (v := ?_) rfl (by kernel_rfl) (by kernel_rfl) (by kernel_rfl) (fun _ _ _ h => h) (Or.inl ⟨by rfl, ?_⟩) hHeld ?_
          rotate_left
          · (intro w hSw; (try dsimp only at hSw); simp only [List.getElem_toArray, List.getElem_cons_zero, List.getElem_cons_succ]; go_simp; try with_reducible rfl)
          simp only [List.getElem_toArray, List.getElem_cons_zero, List.getElem_cons_succ, Act.put, List.setIfInBounds_toArray, List.set_cons_zero, List.set_cons_succ]
          obtain ⟨W4, hW4⟩ : ∃ W4, W3.setCell ⟨Bt, 2, none⟩ (.slice (some ⟨g2, 0, none⟩) (nl + 1) cap2) = W4 := ⟨_, rfl⟩
          rw [hW4] at H3 K3
          have HX04 := Lib.hid (K3.out.1 _ _ _ HX02.out (by decide) (by decide)); have HBX4 := Lib.hid (K3.out.1 _ _ _ HBX2.out (by decide) (by decide)); have HB24 := Lib.hid (K3.out.1 _ _ _ HB22.out (by decide) (by decide)); have HBC4 := Lib.hid (K3.out.1 _ _ _ HBC2.out (by decide) (by decide))
          have HMK4 := Lib.hid (K3.out.2.2 _ HMK2.out)
          have HAV4 := Lib.hid (av_keep HAV2.out H2.out.all (fun av h => K3.out.1 _ _ _ h (by decide) (by decide)))
          have HKO4 := Lib.hid (HKO2.out.trans K3.out.2.1)
          have hS4 := (⟨H3.out.rb.cell 0, H3.out.rl.cell 0, HBC4.out.cell 0, (H3.out.bel.cell (p := ⟨b, off + sf.f, none⟩) hb2).trans ((H2.out.bel.cell (p := ⟨b, off + sf.f, none⟩) hb2).symm.trans e4), HX04.out.cell 2⟩ : W4.cell? ⟨Bb, 0, none⟩ = some (.pointer (some ⟨Bt, 0, none⟩)) ∧ W4.cell? ⟨Bl, 0, none⟩ = some (.slice (some ⟨b, off, none⟩) n c) ∧ W4.cell? ⟨Bc, 0, none⟩ = some (.int .i64 (sf.f : Nat)) ∧ W4.cell? ⟨b, off + sf.f, none⟩ = some (.string str) ∧ W4.cell? ⟨W.heap.size, 2, none⟩ = some (.int .i64 (x.d : Nat)))
          refine wpAnyH_ready (rs := [17]) (by kernel_rfl) (by simp) ?_
          refine AllReadyH.cons (o := _) rfl (fun K hK => ?_) AllReadyH.nil
          go_simp
          refine hK.out _ _ (hS4) (fun hHeld => ?_)
          clear hK K
          try simp only [Act.put, List.setIfInBounds_toArray, List.set_cons_zero, List.set_cons_succ]
          refine wpAnyH_done (by kernel_rfl) ?_ _
          clear hW4 hS4 hS3 hHeld hc3 hf3 hr3 hg3 hown3 hgrow3 hat3 hlt3 K3 e1 e2 e3 e4 e5 hlvc hal HSAL hidx
          obtain ⟨av1, a1, a2⟩ := H3.out.all
          obtain ⟨Aa, ca, rfl⟩ := own_slice a2
          obtain ⟨na, hna⟩ : ∃ na, AL.length = na := ⟨_, rfl⟩
          rw [hna] at a1 a2 hlenA
          have HNA := Lib.hid hna; clear hna
          have hcal4 : W4.cell? ⟨Bal, 0, none⟩ = some (.slice Aa na ca) := a1.cell 0
          have hcx0 : W4.cell? ⟨Bc, 0, none⟩ = some (.int .i64 (sf.f : Nat)) := HBC4.out.cell 0
          have hcx1 : W4.cell? ⟨Bc, 1, none⟩ = some (.int .i64 (sf.t : Nat)) := HBC4.out.cell 1
          have hcx2 : W4.cell? ⟨Bc, 2, none⟩ = some (.int .i64 (sf.d : Nat)) := HBC4.out.cell 2
          have HA1 := Lib.hid a1; have HA2 := Lib.hid a2; clear a1 a2
          have hw4 : w.heap.size ≤ W4.heap.size := H3.out.bel.size
          obtain ⟨isp, hisp, hzs0, hzs1, hzs2⟩ := info_parts infoSpan
          have HS3C := Lib.hid hs3c; clear hs3c
          simp only [Exit.then]
          apply_assumption
          refine region_lift (by rintro ⟨_, _, h⟩; exact h) (by kernel_rfl) ?_
          go_wp2_with (at_builtin; refine wpList_append_lies _ rfl _ _ 83 rfl w.heap.size 82 isp _ 3 24 Try.underlying83 hisp hzs0 hzs1 hzs2 rfl (by decide) (.slice Aa na ca) na (spansC AL) rfl (HA2.out.alloc _) ⟨W4.heap.size, 0, none⟩ 1 1 (spanC sf) rfl rfl (span_new _ _) (span_one _) (by decide) (by unfold maxLen; omega) (by omega) (by simp; omega) (W4.heap.size + 1) (by simp) ?_; intro g5 cap5 W5 hown5 hgrow5 hat5 hlt5;
                       have hr5 : Row W5 Bal 83 #[.slice Aa na ca] := (HA1.out.alloc _).grown hgrow5 (fun e => own_row HA2.out HA1.out (by decide) e.symm);
                       have hc5 : W5.cell? ⟨Bal, 0, none⟩ = some (.slice Aa na ca) := hr5.cell 0;
                       have hf5 := hr5.frozen 0;
                       have HO5 := Lib.hid hown5; have HG5 := Lib.hid hgrow5; have HAT5 := Lib.hid hat5; clear hown5 hgrow5 hat5 hr5)
          have H6 := H3.out.pushAll HA1.out (by rw [HNA.out]; exact HA2.out) (by rw [HNA.out]; exact HO5.out) HG5.out
          have K6 := keep_rows (w := w) (i := 0) (u := .slice (some ⟨g5, 0, none⟩) (na + 1) cap5) HG5.out HA2.out HA1.out
          have K6' := keep_rows2 (w := w) (i := 0) (u := .slice (some ⟨g5, 0, none⟩) (na + 1) cap5) HG5.out HA2.out HA1.out
          have nX := HAV4.out _ HA1.out
          have hr6 : Row (W5.setCell ⟨Bal, 0, none⟩ (.slice (some ⟨g5, 0, none⟩) (na + 1) cap5)) Bal 83 #[.slice (some ⟨g5, 0, none⟩) (na + 1) cap5] := ((HA1.out.alloc _).grown HG5.out (fun e => own_row HA2.out HA1.out (by decide) e.symm)).put 0 _
          have hz4 := HKO4.out.size
          refine ⟨(HKO4.out.trans K6.2.1).from _, ⟨?_, ?_, fun ad e => ?_⟩, ?_⟩
          · exact (K6' _ _ _ HBX4.out (fun e => (nX _ e).2 rfl) (by decide)).trans HBX.out.symm
          · exact (K6.1 _ _ _ HB24.out (by decide) (by decide)).trans HB2.out.symm
          · have h := strA_lt HS.out ad e
            exact (H6.bel.block _ h).trans (H1.out.bel.block _ h).symm
          · refine ⟨?_, K6' _ _ _ HX04.out (fun e => (nX _ e).1 rfl) (by decide), K6' _ _ _ HBX4.out (fun e => (nX _ e).2 rfl) (by decide), K6.1 _ _ _ HB24.out (by decide) (by decide), ?_, K6.2.2 _ HMK4.out⟩
            · have eS : shapeOf ks ++ (pre ++ [s]).map (fun _ => true) = SH ++ [true] := by rw [← HSH.out]; simp
              have eA : allOf L ks ++ (pre ++ [s]).map (·.1) = AL ++ [sf] := by rw [← HAL.out, ← HSF.out]; simp
              have eL : ks.flatten.map (labelOf L) ++ (pre ++ [s]).map (fun s => labelOf L s.1) = LB ++ [lb] := by rw [← HLB.out, ← HLBV.out, ← HSF.out]; simp
              rw [eS, eA, eL]
              exact H6
            · intro av h k hk
              obtain rfl := row_val h hr6
              have hk' : g5 = k := by simpa [Value.ownBlock] using hk
              rcases HAT5.out with e | e
              · exact nX k (by rw [← hk']; exact e)
              · simp at hsz'
                omega
      case done =>
        intro D xs W' hD hkids hI hDk
        clear hcal hcl hcl1 hb1 hX0 hI0 hsl3
        obtain ⟨ys, hys⟩ : ∃ ys, xs.map (·.1) = ys := ⟨_, rfl⟩
        obtain ⟨hst1, hX0r, -, -, -, hmk1⟩ := hI
        have hbfs2 : Bfs L (ks ++ [ys]) := Bfs.snoc HBFS.out (by rw [HI.out]; exact HX.out) (by rw [← hys]; exact hkids)
        have e1 : shapeOf ks ++ xs.map (fun _ => true) = shapeOf ks ++ ys.map (fun _ => true) := by rw [← hys]; simp
        have e2 : allOf L ks ++ xs.map (·.1) = allOf L (ks ++ [ys]) := by rw [allOf_snoc, hys]
        have e3 : ks.flatten.map (labelOf L) ++ xs.map (fun s => labelOf L s.1) = (ks ++ [ys]).flatten.map (labelOf L) := by rw [← hys]; simp
        rw [e1, e2, e3] at hst1
        have hmk2 : Marks w W' (D :: Ds) := by
          refine ⟨List.nodup_cons.2 ⟨fun e => ?_, hmk1.1⟩, fun D' hD' => ?_⟩
          · have := HMK.out.lt D e
            simp at hD
            omega
          · rcases List.mem_cons.1 hD' with rfl | h
            · exact ⟨by simp at hD; omega, hDk⟩
            · exact hmk1.2 D' h
        have hfe2 := hbfs2.few HG.out
        clear hkids e1 e2 e3 hmk1 hys hDk
        obtain ⟨av, a1, a2⟩ := hst1.all
        obtain ⟨Aa, ca, rfl⟩ := own_slice a2
        obtain ⟨na, hna⟩ : ∃ na, (allOf L (ks ++ [ys])).length = na := ⟨_, rfl⟩
        rw [hna] at a1 a2 hfe2
        have hca : W'.cell? ⟨Bal, 0, none⟩ = some (.slice Aa na ca) := a1.cell 0
        have hshl := shapeOf_len L (ks ++ [ys])
        rw [shapeOf_snoc, hna, List.length_append, List.length_append, List.length_append] at hshl
        simp only [List.length_cons, List.length_nil, HI.out] at hshl
        have HNA := Lib.hid hna; have HST1 := Lib.hid hst1; have HMK2 := Lib.hid hmk2; have HBFS2 := Lib.hid hbfs2; have HX0 := Lib.hid hX0r
        have HSHL := Lib.hid hshl
        clear hst1 hmk2 hbfs2 hX0r hna a1 a2 hshl
        by_cases hbig : 524287 < na
        · have hb2 : decide ((524287 : Int) < (na : Int)) = true := by simp; omega
          go_wp2
          refine marks_leave (w := w) (D :: Ds) W' HMK2.out (fun W2 hS => ⟨_, results_tmp2 rfl _ _ _, ?_⟩)
          exact ⟨hS.bel HMK2.out HST1.out.bel, .inr ⟨by omega, rfl⟩⟩
        · have hb2 : decide ((524287 : Int) < (na : Int)) = false := by simp; omega
          obtain ⟨sv, s1, s2, s3⟩ := HST1.out.shp
          obtain ⟨As, cs, rfl⟩ := own_slice s2
          obtain ⟨nsh, hnsh⟩ : ∃ nsh, (shapeOf ks ++ ys.map (fun _ => true)).length = nsh := ⟨_, rfl⟩
          have hlenS : nsh ≤ 1048575 := by
            have h1 := HSHL.out
            have h2 := HBFS2.out.len
            rw [HNA.out, List.length_append, HI.out] at h2
            simp only [List.length_cons, List.length_nil] at h2
            rw [← List.length_append, hnsh] at h1
            omega
          rw [hnsh] at s1 s2 s3
          have hcs1 : W'.cell? ⟨Bsh, 0, none⟩ = some (.slice As nsh cs) := s1.cell 0
          have HNSH := Lib.hid hnsh; have HS1 := Lib.hid s1; have HS2 := Lib.hid s2; have HS3 := Lib.hid s3
          have hw' : w.heap.size ≤ W'.heap.size := HST1.out.bel.size
          clear hnsh s1 s2 s3
          obtain ⟨ib, hib, hzb0, hzb1, hzb2⟩ := info_parts B.infoBool
          go_wp2_with (at_builtin; refine wpList_append_lies _ rfl _ _ 79 rfl w.heap.size 4 ib (.bool false) 1 1 Try.underlying79 hib hzb0 hzb1 hzb2 rfl (by decide) (.slice As nsh cs) nsh ((shapeOf ks ++ ys.map (fun _ => true)).map Value.bool) rfl (HS2.out.alloc _) ⟨W'.heap.size, 0, none⟩ 1 1 [_] rfl rfl (cell_one_new _ _ _) one_boolv (by decide) (by unfold maxLen; omega) (by omega) (by simp; omega) (W'.heap.size + 1) (by simp) ?_; intro g1 cap1 W1 hown1 hgrow1 hat1 hlt1;
                       have hr1 : Row W1 Bsh 79 #[.slice As nsh cs] := (HS1.out.alloc _).grown hgrow1 (fun e => own_row HS2.out HS1.out (by decide) e.symm);
                       have hc1 : W1.cell? ⟨Bsh, 0, none⟩ = some (.slice As nsh cs) := hr1.cell 0;
                       have hf1 := hr1.frozen 0;
                       have HO1 := Lib.hid hown1; have HG1 := Lib.hid hgrow1; have HAT1 := Lib.hid hat1; clear hown1 hgrow1 hat1 hr1)
          obtain ⟨W2, hW2⟩ : ∃ W2, W1.setCell ⟨Bsh, 0, none⟩ (.slice (some ⟨g1, 0, none⟩) (nsh + 1) cap1) = W2 := ⟨_, rfl⟩
          have H2 : Hid (BSt w W2 A n c Bl Bt Bb Bsh Bal nB (shapeOf (ks ++ [ys])) (allOf L (ks ++ [ys])) ((ks ++ [ys]).flatten.map (labelOf L)) (nodA L n (seen L ks)) ((seen L ks).map (isAt L)) (idsOf L (seen L ks)) isv idv) := Lib.hid (by
            rw [← hW2, shapeOf_snoc]
            refine HST1.out.pushShape HS1.out (by rw [HNSH.out]; exact HS2.out) HS3.out ?_ HG1.out (HAT1.out.elim (fun h => .inl h.symm) (fun h => .inr (by rw [h]; rfl)))
            rw [HNSH.out]; exact HO1.out)
          have K2 := Lib.hid (keep_rows (w := w) (i := 0) (u := .slice (some ⟨g1, 0, none⟩) (nsh + 1) cap1) HG1.out HS2.out HS1.out)
          rw [hW2] at K2 ⊢
          have HX02 := Lib.hid (K2.out.1 _ _ _ HX0.out (by decide) (by decide))
          have HMK3 := Lib.hid (K2.out.2.2 _ HMK2.out)
          clear hc1 hf1 hlt1 hcs1 HO1 HG1 HAT1 K2 HS1 HS2 HS3 HX0 HMK2 hW2 HST1
          have hok := HBFS.out.ok HG.out x (List.mem_of_getElem? HX.out)
          have c0 : W2.cell? ⟨W.heap.size, 0, none⟩ = some (.int .i64 (x.f : Nat)) := HX02.out.cell 0
          have c1 : W2.cell? ⟨W.heap.size, 1, none⟩ = some (.int .i64 (x.t : Nat)) := HX02.out.cell 1
          have c2 : W2.cell? ⟨W.heap.size, 2, none⟩ = some (.int .i64 (x.d : Nat)) := HX02.out.cell 2
          have c3 : W2.cell? ⟨Bl, 0, none⟩ = some (.slice A n c) := H2.out.rl.cell 0
          have HOK := Lib.hid hok; clear hok
          obtain ⟨hr, hhr⟩ : ∃ hr, isAt L x = hr := ⟨_, rfl⟩
          have HHR := Lib.hid hhr; clear hhr
          by_cases hft : x.f < x.t
          · have hd1 : decide ((x.f : Int) < (x.t : Int)) = true := by simp; omega
            have hxt := HOK.out.le
            obtain ⟨b, off, str, hA, hcstr, hastr⟩ : ∃ b off s, A = some ⟨b, off, none⟩ ∧ W2.cell? ⟨b, off + x.f, none⟩ = some (.string s) ∧ at_ L x.f = bytesOf s := by
              obtain ⟨b, off, u, hA, _, hu, hc⟩ := (HS.out.below H2.out.bel).at_ (k := x.f) (by have := HLEN.out; omega)
              rw [List.getElem?_map] at hu
              obtain ⟨s, hs1, rfl⟩ := Option.map_eq_some_iff.1 hu
              exact ⟨b, off, s, hA, hc, by rw [← HL.out]; exact at_bytes hs1⟩
            have f1 : (0 : Int) ≤ (x.f : Int) := by omega
            have f2 : (x.f : Int) < (n : Int) := by have := HLEN.out; omega
            have hd2 : ((str.size : Int) == (x.d : Int)) = hr := by
              rw [← HHR.out]; unfold isAt; rw [hastr, bytesOf_len]
              simp only [hft, decide_true, Bool.true_and]
              rw [Bool.eq_iff_iff]; simp; omega
            clear hastr
            subst hA
            go_quiet (fail)
            obtain ⟨W3, hW3⟩ : ∃ W3, W2.drewN nq = W3 := ⟨_, rfl⟩
            have H3 : Hid (BSt w W3 _ n c Bl Bt Bb Bsh Bal nB (shapeOf (ks ++ [ys])) (allOf L (ks ++ [ys])) ((ks ++ [ys]).flatten.map (labelOf L)) (nodA L n (seen L ks)) ((seen L ks).map (isAt L)) (idsOf L (seen L ks)) isv idv) := Lib.hid (by rw [← hW3]; exact H2.out.drewN nq)
            have HX03 : Hid (Row W3 W.heap.size 82 (spanA x)) := Lib.hid (by rw [← hW3]; exact HX02.out)
            have HMK4 : Hid (Marks w W3 (D :: Ds)) := Lib.hid (by rw [← hW3]; exact HMK3.out)
            rw [hW3]
            clear hW3 H2 HX02 HMK3 c0 c1 c2 c3
            have hil : ((seen L ks).map (isAt L)).length = i := by rw [List.length_map, seen_len HBFS.out, HI.out]
            have HOI : Hid (W3.ownsRow w.heap.size 4 1 isv i (((seen L ks).map (isAt L)).map Value.bool)) := Lib.hid (by rw [← hil]; exact H3.out.ois)
            have HIL := Lib.hid hil; clear hil
            have hw3 : w.heap.size ≤ W3.heap.size := H3.out.bel.size
            cases hr with
            | false =>
              go_wp2_with (at_builtin; refine wpList_append_lies _ rfl _ _ 79 rfl w.heap.size 4 ib (.bool false) 1 1 Try.underlying79 hib hzb0 hzb1 hzb2 rfl (by decide) isv i (((seen L ks).map (isAt L)).map Value.bool) rfl (HOI.out.alloc _) ⟨W3.heap.size, 0, none⟩ 1 1 [_] rfl rfl (cell_one_new _ _ _) one_boolv (by decide) (by unfold maxLen; omega) (by omega) (by simp; omega) (W3.heap.size + 1) (by simp) ?_; intro g3 cap3 W4 hown3 hgrow3 hat3 hlt3;
                           have HO3 := Lib.hid hown3; have HG3 := Lib.hid hgrow3; have HAT3 := Lib.hid hat3; clear hown3 hgrow3 hat3)
              have K4 := keep_plain (w := w) HG3.out HOI.out
              have H4 := H3.out.pushIs (isv' := .slice (some ⟨g3, 0, none⟩) (i + 1) cap3) (by rw [HIL.out]; exact HO3.out) HG3.out (HAT3.out.elim (fun h => .inl h.symm) (fun h => .inr (by rw [h]; rfl)))
              have HREL := Lib.hid (brel_snoc HBFS.out (by rw [HI.out]; exact HX.out) HBFS2.out (by rw [HNA.out]; omega) (K4.2 _ HMK4.out) HHR.out (by simpa using H4))
              refine ⟨⟨ks ++ [ys], D :: Ds, ?_⟩, ?_⟩
              · (repeat apply Exists.intro)
                refine ⟨HREL.out, ?_, rfl⟩
                rw [List.length_append, HI.out]; rfl
              · show 5200000 - ((i : Int) + 1).toNat < 5200000 - ((i : Int)).toNat
                omega
            | true =>
              go_wp2_with (at_builtin; refine wpList_append_lies _ rfl _ _ 79 rfl w.heap.size 4 ib (.bool false) 1 1 Try.underlying79 hib hzb0 hzb1 hzb2 rfl (by decide) isv i (((seen L ks).map (isAt L)).map Value.bool) rfl (HOI.out.alloc _) ⟨W3.heap.size, 0, none⟩ 1 1 [_] rfl rfl (cell_one_new _ _ _) one_boolv (by decide) (by unfold maxLen; omega) (by omega) (by simp; omega) (W3.heap.size + 1) (by simp) ?_; intro g3 cap3 W4 hown3 hgrow3 hat3 hlt3;
                           have HO3 := Lib.hid hown3; have HG3 := Lib.hid hgrow3; have HAT3 := Lib.hid hat3; clear hown3 hgrow3 hat3)
              have K4 := Lib.hid (keep_plain (w := w) HG3.out HOI.out)
              have H4 := Lib.hid (H3.out.pushIs (isv' := .slice (some ⟨g3, 0, none⟩) (i + 1) cap3) (by rw [HIL.out]; exact HO3.out) HG3.out (HAT3.out.elim (fun h => .inl h.symm) (fun h => .inr (by rw [h]; rfl))))
              have HX04 := Lib.hid (K4.out.1 _ _ _ HX03.out (by decide))
              have HMK5 := Lib.hid (K4.out.2 _ HMK4.out)
              clear K4 HX03 HMK4 H3 HO3 HG3 HAT3 hlt3 HOI
              obtain ⟨lv, t1, t2⟩ := H4.out.tr
              have c0 : W4.drew.cell? ⟨Bb, 0, none⟩ = some (.pointer (some ⟨Bt, 0, none⟩)) := H4.out.rb.cell 0
              have c1 : W4.drew.cell? ⟨Bt, 4, none⟩ = some (.slice (some ⟨nB, 0, none⟩) n n) := t1.cell 4
              have c2 : W4.drew.cell? ⟨W.heap.size, 0, none⟩ = some (.int .i64 (x.f : Nat)) := HX04.out.cell 0
              have hxn : x.f < (nodA L n (seen L ks)).size := by rw [nodA_size]; omega
              have hcn : W4.drew.cell? ⟨nB, x.f, none⟩ = some ((nodA L n (seen L ks))[x.f]) := (H4.out.rn.cell x.f).trans (Array.getElem?_eq_getElem hxn)
              have hfn : W4.drew.frozen? ⟨nB, x.f, none⟩ = false := H4.out.rn.frozen x.f
              obtain ⟨vn, hvn⟩ : ∃ vn, (nodA L n (seen L ks))[x.f] = vn := ⟨_, rfl⟩
              rw [hvn] at hcn
              have H5 : Hid (BSt w (W4.drew.setCell ⟨nB, x.f, none⟩ (.int .i64 (i : Nat))) _ n c Bl Bt Bb Bsh Bal nB (shapeOf (ks ++ [ys])) (allOf L (ks ++ [ys])) ((ks ++ [ys]).flatten.map (labelOf L)) _ _ _ _ idv) := Lib.hid ((H4.out.drewN 1).putNode x.f (.int .i64 (i : Nat)))
              have HX05 : Hid (Row (W4.drew.setCell ⟨nB, x.f, none⟩ (.int .i64 (i : Nat))) W.heap.size 82 (spanA x)) := Lib.hid (Row.eff (W := W4.drew) HX04.out (Eff.put _ _ _ _) ⟨fun e => (by cases e), row_row H4.out.rn HX04.out (by decide)⟩)
              have HMK6 : Hid (Marks w (W4.drew.setCell ⟨nB, x.f, none⟩ (.int .i64 (i : Nat))) (D :: Ds)) := Lib.hid (Marks.put (W := W4.drew) HMK5.out H4.out.rn _)
              clear hvn t1 t2
              refine wp_region_held_drew (S := fun w' => w'.cell? ⟨Bb, 0, none⟩ = some (.pointer (some ⟨Bt, 0, none⟩)) ∧ w'.cell? ⟨Bt, 4, none⟩ = some (.slice (some ⟨nB, 0, none⟩) n n) ∧ w'.cell? ⟨W.heap.size, 0, none⟩ = some (.int .i64 (x.f : Nat))) (by kernel_rfl) ⟨c0, c1, c2⟩ (fun hHeld => ?_)
              refine wpAnyH_take (i := 0) (oi := _) (v := ?_) rfl (by kernel_rfl) (by kernel_rfl) (by kernel_rfl) (fun _ _ _ h => h) (Or.inl ⟨by rfl, ?_⟩) hHeld ?_
              rotate_left
              · (intro w hSw; (try dsimp only at hSw); simp only [List.getElem_toArray, List.getElem_cons_zero]; go_simp; try with_reducible rfl)
              simp only [List.getElem_toArray, List.getElem_cons_zero, Act.put, List.setIfInBounds_toArray, List.set_cons_zero, List.set_cons_succ]
              refine wpAnyH_take (i := 1) (oi := _) (v := ?_) rfl (by kernel_rfl) (by kernel_rfl) (by kernel_rfl) (fun _ _ _ h => h) (Or.inl ⟨by rfl, ?_⟩) hHeld ?_
              rotate_left
              · (intro w hSw; (try dsimp only at hSw); simp only [List.getElem_toArray, List.getElem_cons_zero, List.getElem_cons_succ]; go_simp; try with_reducible rfl)
              simp only [List.getElem_toArray, List.getElem_cons_zero, List.getElem_cons_succ, Act.put, List.setIfInBounds_toArray, List.set_cons_zero, List.set_cons_succ]
              refine wpAnyH_take (i := 2) (oi := _) (v := ?_) rfl (by kernel_rfl) (by kernel_rfl) (by kernel_rfl) (fun _ _ _ h => h) (Or.inl ⟨by rfl, ?_⟩) hHeld ?_
              rotate_left
              · (intro w hSw; (try dsimp only at hSw); simp only [List.getElem_toArray, List.getElem_cons_zero, List.getElem_cons_succ]; go_simp; try with_reducible rfl)
              simp only [List.getElem_toArray, List.getElem_cons_zero, List.getElem_cons_succ, Act.put, List.setIfInBounds_toArray, List.set_cons_zero, List.set_cons_succ]
              refine wpAnyH_take (i := 3) (oi := _) (v := ?_) rfl (by kernel_rfl) (by kernel_rfl) (by kernel_rfl) (fun _ _ _ h => h) (Or.inl ⟨by rfl, ?_⟩) hHeld ?_
              rotate_left
              · (intro w hSw; (try dsimp only at hSw); simp only [List.getElem_toArray, List.getElem_cons_zero, List.getElem_cons_succ]; go_simp; try with_reducible rfl)
              simp only [List.getElem_toArray, List.getElem_cons_zero, List.getElem_cons_succ, Act.put, List.setIfInBounds_toArray, List.set_cons_zero, List.set_cons_succ]
              refine wpAnyH_take (i := 4) (oi := _) (v := ?_) rfl (by kernel_rfl) (by kernel_rfl) (by kernel_rfl) (fun _ _ _ h => h) (Or.inl ⟨by rfl, ?_⟩) hHeld ?_
              rotate_left
              · (intro w hSw; (try dsimp only at hSw); simp only [List.getElem_toArray, List.getElem_cons_zero, List.getElem_cons_succ]; go_simp; try with_reducible rfl)
              simp only [List.getElem_toArray, List.getElem_cons_zero, List.getElem_cons_succ, Act.put, List.setIfInBounds_toArray, List.set_cons_zero, List.set_cons_succ]
              refine wpAnyH_take (i := 5) (oi := _) (v := ?_) rfl (by kernel_rfl) (by kernel_rfl) (by kernel_rfl) (fun _ _ _ h => h) (Or.inl ⟨by rfl, ?_⟩) hHeld ?_
              rotate_left
              · (intro w hSw; (try dsimp only at hSw); simp only [List.getElem_toArray, List.getElem_cons_zero, List.getElem_cons_succ]; go_simp; try with_reducible rfl)
              simp only [List.getElem_toArray, List.getElem_cons_zero, List.getElem_cons_succ, Act.put, List.setIfInBounds_toArray, List.set_cons_zero, List.set_cons_succ]
              refine wpAnyH_take (i := 6) (oi := _) (v := ?_) rfl (by kernel_rfl) (by kernel_rfl) (by kernel_rfl) (fun _ _ _ h => h) (Or.inl ⟨by rfl, ?_⟩) hHeld ?_
              rotate_left
              · (intro w hSw; (try dsimp only at hSw); simp only [List.getElem_toArray, List.getElem_cons_zero, List.getElem_cons_succ]; go_simp; try with_reducible rfl)
              simp only [List.getElem_toArray, List.getElem_cons_zero, List.getElem_cons_succ, Act.put, List.setIfInBounds_toArray, List.set_cons_zero, List.set_cons_succ]
              refine wpAnyH_take (i := 7) (oi := _) (v := ?_) rfl (by kernel_rfl) (by kernel_rfl) (by kernel_rfl) (fun _ _ _ h => h) (Or.inl ⟨by rfl, ?_⟩) hHeld ?_
              rotate_left
              · (intro w hSw; (try dsimp only at hSw); simp only [List.getElem_toArray, List.getElem_cons_zero, List.getElem_cons_succ]; go_simp; try with_reducible rfl)
              simp only [List.getElem_toArray, List.getElem_cons_zero, List.getElem_cons_succ, Act.put, List.setIfInBounds_toArray, List.set_cons_zero, List.set_cons_succ]
              refine wpAnyH_ready (rs := [8]) (by kernel_rfl) (by simp) ?_
              refine AllReadyH.cons (o := _) rfl (fun K hK => ?_) AllReadyH.nil
              go_simp
              refine hK.out _ _ (⟨H5.out.rb.cell 0, by (obtain ⟨lv', t1, _⟩ := H5.out.tr; exact t1.cell 4), HX05.out.cell 0⟩) (fun hHeld => ?_)
              clear hK K
              try simp only [Act.put, List.setIfInBounds_toArray, List.set_cons_zero, List.set_cons_succ]
              refine wpAnyH_done (by kernel_rfl) ?_ _
              have hdw : W4.drew.setCell ⟨nB, x.f, none⟩ (.int .i64 (i : Nat)) = (W4.setCell ⟨nB, x.f, none⟩ (.int .i64 (i : Nat))).drew := by first | rfl | simp
              rw [hdw] at H5 HX05 HMK6
              clear hdw
              obtain ⟨W5, hW5⟩ : ∃ W5, (W4.setCell ⟨nB, x.f, none⟩ (.int .i64 (i : Nat))).drew = W5 := ⟨_, rfl⟩
              rw [hW5] at H5 HX05 HMK6
              rw [hW5]
              clear hW5 hcn hfn hHeld c0 c1 c2 H4 HX04 HMK5 hxn
              obtain ⟨q, hq⟩ : ∃ q, (idsOf L (seen L ks)).length = q := ⟨_, rfl⟩
              have hq2 : q ≤ 524287 := by
                have h1 : (idsOf L (seen L ks)).length ≤ (seen L ks).length := by unfold idsOf; rw [List.length_map]; exact List.length_filter_le _ _
                rw [seen_len HBFS.out, HI.out, hq] at h1
                have := HSMALL.out
                rw [HM.out] at this
                omega
              have HOD : Hid (W5.ownsRow w.heap.size 87 1 idv q ((idsOf L (seen L ks)).map B.u64v)) := Lib.hid (by rw [← hq]; exact H5.out.oid)
              have HQ := Lib.hid hq; clear hq
              have c0 : W5.cell? ⟨W.heap.size, 0, none⟩ = some (.int .i64 (x.f : Nat)) := HX05.out.cell 0
              have hw5 : w.heap.size ≤ W5.heap.size := H5.out.bel.size
              obtain ⟨iu, hiu, hzu0, hzu1, hzu2⟩ := info_parts B.infoU64
              have hwr : (x.f : Int) % 18446744073709551616 = (x.f : Int) := by omega
              go_wp2_with (at_builtin; refine wpList_append_lies _ rfl _ _ 80 rfl w.heap.size 87 iu (.int .u64 0) 1 8 Try.underlying80 hiu hzu0 hzu1 hzu2 rfl (by decide) idv q ((idsOf L (seen L ks)).map B.u64v) rfl (HOD.out.alloc _) ⟨W5.heap.size, 0, none⟩ 1 1 [.int .u64 (x.f : Int)] rfl rfl (cell_one_new _ _ _) one_oneCell (by decide) (by unfold maxLen; omega) (by omega) (by simp; omega) (W5.heap.size + 1) (by simp) ?_; intro g6 cap6 W6 hown6 hgrow6 hat6 hlt6;
                           have HO6 := Lib.hid hown6; have HG6 := Lib.hid hgrow6; have HAT6 := Lib.hid hat6; clear hown6 hgrow6 hat6)
              have K7 := keep_plain (w := w) HG6.out HOD.out
              have H7 := H5.out.pushIds (idv' := .slice (some ⟨g6, 0, none⟩) (q + 1) cap6) (v := x.f) (by rw [HQ.out]; exact HO6.out) HG6.out
              have HREL := Lib.hid (brel_snoc HBFS.out (by rw [HI.out]; exact HX.out) HBFS2.out (by rw [HNA.out]; omega) (K7.2 _ HMK6.out) HHR.out (by simp only [if_true, HI.out]; exact H7))
              refine ⟨⟨ks ++ [ys], D :: Ds, ?_⟩, ?_⟩
              · (repeat apply Exists.intro)
                refine ⟨HREL.out, ?_, rfl⟩
                rw [List.length_append, HI.out]; rfl
              · show 5200000 - ((i : Int) + 1).toNat < 5200000 - ((i : Int)).toNat
                omega
          · have hd1 : decide ((x.f : Int) < (x.t : Int)) = false := by simp; omega
            obtain rfl : hr = false := by rw [← HHR.out]; unfold isAt; simp [hft]
            go_quiet (fail)
            obtain ⟨W3, hW3⟩ : ∃ W3, W2.drewN nq = W3 := ⟨_, rfl⟩
            have H3 : Hid (BSt w W3 _ n c Bl Bt Bb Bsh Bal nB (shapeOf (ks ++ [ys])) (allOf L (ks ++ [ys])) ((ks ++ [ys]).flatten.map (labelOf L)) (nodA L n (seen L ks)) ((seen L ks).map (isAt L)) (idsOf L (seen L ks)) isv idv) := Lib.hid (by rw [← hW3]; exact H2.out.drewN nq)
            have HX03 : Hid (Row W3 W.heap.size 82 (spanA x)) := Lib.hid (by rw [← hW3]; exact HX02.out)
            have HMK4 : Hid (Marks w W3 (D :: Ds)) := Lib.hid (by rw [← hW3]; exact HMK3.out)
            rw [hW3]
            clear hW3 H2 HX02 HMK3 c0 c1 c2 c3
            have hil : ((seen L ks).map (isAt L)).length = i := by rw [List.length_map, seen_len HBFS.out, HI.out]
            have HOI : Hid (W3.ownsRow w.heap.size 4 1 isv i (((seen L ks).map (isAt L)).map Value.bool)) := Lib.hid (by rw [← hil]; exact H3.out.ois)
            have HIL := Lib.hid hil; clear hil
            have hw3 : w.heap.size ≤ W3.heap.size := H3.out.bel.size
            go_wp2_with (at_builtin; refine wpList_append_lies _ rfl _ _ 79 rfl w.heap.size 4 ib (.bool false) 1 1 Try.underlying79 hib hzb0 hzb1 hzb2 rfl (by decide) isv i (((seen L ks).map (isAt L)).map Value.bool) rfl (HOI.out.alloc _) ⟨W3.heap.size, 0, none⟩ 1 1 [_] rfl rfl (cell_one_new _ _ _) one_boolv (by decide) (by unfold maxLen; omega) (by omega) (by simp; omega) (W3.heap.size + 1) (by simp) ?_; intro g3 cap3 W4 hown3 hgrow3 hat3 hlt3;
                         have HO3 := Lib.hid hown3; have HG3 := Lib.hid hgrow3; have HAT3 := Lib.hid hat3; clear hown3 hgrow3 hat3)
            have K4 := keep_plain (w := w) HG3.out HOI.out
            have H4 := H3.out.pushIs (isv' := .slice (some ⟨g3, 0, none⟩) (i + 1) cap3) (by rw [HIL.out]; exact HO3.out) HG3.out (HAT3.out.elim (fun h => .inl h.symm) (fun h => .inr (by rw [h]; rfl)))
            have HREL := Lib.hid (brel_snoc HBFS.out (by rw [HI.out]; exact HX.out) HBFS2.out (by rw [HNA.out]; omega) (K4.2 _ HMK4.out) HHR.out (by simpa using H4))
            refine ⟨⟨ks ++ [ys], D :: Ds, ?_⟩, ?_⟩
            · (repeat apply Exists.intro)
              refine ⟨HREL.out, ?_, rfl⟩
              rw [List.length_append, HI.out]; rfl
            · show 5200000 - ((i : Int) + 1).toNat < 5200000 - ((i : Int)).toNat
              omega
    · have hb1 : decide (i < m) = false := by simp; omega
      have him : m = i := by omega
      subst him
      have hfull : (allOf L ks).length = ks.length := by rw [HM.out, HI.out]
      have hso := seen_full hfull
      have HSO := Lib.hid hso
      clear hso
      have HFULL := Lib.hid hfull; clear hfull
      obtain ⟨sv, s1, s2, s3⟩ := HST.out.shp
      obtain ⟨As, cs, rfl⟩ := own_slice s2
      obtain ⟨lv, t1, t2⟩ := HST.out.tr
      have hX0 : Hid (XSt w W n Bt Bb nB (ks.flatten.map (labelOf L)) (nodA L n (seen L ks)) ((seen L ks).map (isAt L)) (idsOf L (seen L ks)) isv idv lv (.pointer none) (.pointer none) (.pointer none) Ds) := Lib.hid ⟨HST.out.rb, t1, t2, HST.out.rn, HST.out.ois, HST.out.oid, HST.out.bel, HST.out.lo.2.1, HMK.out⟩
      have hnsh : (shapeOf ks).length = 1 + m + m := by rw [shapeOf_len L, HM.out, HI.out]
      rw [hnsh] at s1 s2
      have hsm := HSMALL.out
      rw [HM.out] at hsm
      obtain ⟨nsh, hN⟩ : ∃ nsh, 1 + m + m = nsh := ⟨_, rfl⟩
      rw [hN] at s1 s2
      have HN := Lib.hid hN; have HS1 := Lib.hid s1; have HS2 := Lib.hid s2
      have hil : ((seen L ks).map (isAt L)).length = m := by rw [List.length_map, seen_len HBFS.out, HI.out]
      obtain ⟨q, hq⟩ : ∃ q, (idsOf L (seen L ks)).length = q := ⟨_, rfl⟩
      have hq2 : q ≤ m := by
        have h1 : (idsOf L (seen L ks)).length ≤ (seen L ks).length := by unfold idsOf; rw [List.length_map]; exact List.length_filter_le _ _
        rw [seen_len HBFS.out, HI.out, hq] at h1
        exact h1
      obtain ⟨Ai, ci, hisv⟩ := own_slice HST.out.ois
      obtain ⟨Ad, cd, hidv⟩ := own_slice HST.out.oid
      rw [hil] at hisv
      rw [hq] at hidv
      subst hisv hidv
      have HIL := Lib.hid hil; have HQ := Lib.hid hq
      clear hil hq
      have c0 : W.drew.cell? ⟨Bb, 0, none⟩ = some (.pointer (some ⟨Bt, 0, none⟩)) := hX0.out.rb.cell 0
      have c1 : W.drew.cell? ⟨Bsh, 0, none⟩ = some (.slice As nsh cs) := s1.cell 0
      have hnn : nsh ≤ 1048576 := by omega
      clear s1 s2 s3 t1 t2 hN hnsh hcl hcl1
      go_wp2_with fail
      refine wp_region_held_drew (S := fun w' => w'.cell? ⟨Bb, 0, none⟩ = some (.pointer (some ⟨Bt, 0, none⟩)) ∧ w'.cell? ⟨Bsh, 0, none⟩ = some (.slice As nsh cs)) (by kernel_rfl) ⟨c0, c1⟩ (fun hHeld => ?_)
      refine wpAnyH_take (i := 0) (oi := _) (v := ?_) rfl (by kernel_rfl) (by kernel_rfl) (by kernel_rfl) (fun _ _ _ h => h) (Or.inl ⟨by rfl, ?_⟩) hHeld ?_
      rotate_left
      · (intro w hSw; (try dsimp only at hSw); simp only [List.getElem_toArray, List.getElem_cons_zero]; go_simp; try with_reducible rfl)
      simp only [List.getElem_toArray, List.getElem_cons_zero, Act.put, List.setIfInBounds_toArray, List.set_cons_zero, List.set_cons_succ]
      refine wpAnyH_take (i := 1) (oi := _) (v := ?_) rfl (by kernel_rfl) (by kernel_rfl) (by kernel_rfl) (fun _ _ _ h => h) (Or.inl ⟨by rfl, ?_⟩) hHeld ?_
      rotate_left
      · (intro w hSw; (try dsimp only at hSw); simp only [List.getElem_toArray, List.getElem_cons_zero, List.getElem_cons_succ]; go_simp; try with_reducible rfl)
      simp only [List.getElem_toArray, List.getElem_cons_zero, List.getElem_cons_succ, Act.put, List.setIfInBounds_toArray, List.set_cons_zero, List.set_cons_succ]
      refine wpAnyH_ready (rs := [2]) (by kernel_rfl) (by simp) ?_
      refine AllReadyH.cons (o := _) rfl (fun K hK => ?_) AllReadyH.nil
      go_simp
      refine (B.bnew_any W.drew As nsh cs (shapeOf ks) hnn (Sl.of_own (w := W.drew) HS2.out)).mono ?_
      rintro e W1 ⟨b1, rfl, hbv1, hB1⟩
      have HB1 := Lib.hid hB1; have HBV1 := Lib.hid hbv1
      have d0 : W1.cell? ⟨Bb, 0, none⟩ = some (.pointer (some ⟨Bt, 0, none⟩)) := (hB1.cell (p := ⟨Bb, 0, none⟩) hX0.out.rb.lt).trans c0
      have d1 : W1.cell? ⟨Bsh, 0, none⟩ = some (.slice As nsh cs) := (hB1.cell (p := ⟨Bsh, 0, none⟩) HS1.out.lt).trans c1
      have hrt : Row W1 Bt 66 _ := (hB1.block Bt hX0.out.tr.lt).trans hX0.out.tr
      have hcn : W1.cell? ⟨Bt, 0, none⟩ = some (.pointer none) := hrt.cell 0
      have hfn : W1.frozen? ⟨Bt, 0, none⟩ = false := hrt.frozen 0
      have hX1 := Lib.hid (hX0.out.drew.next (W1 := W1) HB1.out 0 (.pointer (some ⟨b1, 0, none⟩)) rfl)
      have HS12 := Lib.hid (Row.eff (W := W.drew) HS1.out (Eff.callPut (W := W.drew) HB1.out Bt 0 (.pointer (some ⟨b1, 0, none⟩))) ⟨fun e => (by cases e), row_row hX0.out.tr HS1.out (by decide)⟩)
      clear hB1 hbv1 hrt
      go_wp2_with fail
      refine hK.out _ _ (⟨d0, d1⟩) (fun hHeld => ?_)
      clear hK K
      try simp only [Act.put, List.setIfInBounds_toArray, List.set_cons_zero, List.set_cons_succ]
      refine wpAnyH_take (i := 3) (oi := _) (v := ?_) rfl (by kernel_rfl) (by kernel_rfl) (by kernel_rfl) (fun _ _ _ h => h) (Or.inl ⟨by rfl, ?_⟩) hHeld ?_
      rotate_left
      · (intro w hSw; (try dsimp only at hSw); simp only [List.getElem_toArray, List.getElem_cons_zero, List.getElem_cons_succ]; go_simp; try with_reducible rfl)
      simp only [List.getElem_toArray, List.getElem_cons_zero, List.getElem_cons_succ, Act.put, List.setIfInBounds_toArray, List.set_cons_zero, List.set_cons_succ]
      refine wpAnyH_take (i := 4) (oi := _) (v := ?_) rfl (by kernel_rfl) (by kernel_rfl) (by kernel_rfl) (fun _ _ _ h => h) (Or.inl ⟨by rfl, ?_⟩) hHeld ?_
      rotate_left
      · (intro w hSw; (try dsimp only at hSw); simp only [List.getElem_toArray, List.getElem_cons_zero, List.getElem_cons_succ]; go_simp; try with_reducible rfl)
      simp only [List.getElem_toArray, List.getElem_cons_zero, List.getElem_cons_succ, Act.put, List.setIfInBounds_toArray, List.set_cons_zero, List.set_cons_succ]
      refine wpAnyH_take (i := 5) (oi := _) (v := ?_) rfl (by kernel_rfl) (by kernel_rfl) (by kernel_rfl) (fun _ _ _ h => h) (Or.inl ⟨by rfl, ?_⟩) hHeld ?_
      rotate_left
      · (intro w hSw; (try dsimp only at hSw); simp only [List.getElem_toArray, List.getElem_cons_zero, List.getElem_cons_succ]; go_simp; try with_reducible rfl)
      simp only [List.getElem_toArray, List.getElem_cons_zero, List.getElem_cons_succ, Act.put, List.setIfInBounds_toArray, List.set_cons_zero, List.set_cons_succ]
      refine wpAnyH_take (i := 6) (oi := _) (v := ?_) rfl (by kernel_rfl) (by kernel_rfl) (by kernel_rfl) (fun _ _ _ h => h) (Or.inl ⟨by rfl, ?_⟩) hHeld ?_
      rotate_left
      · (intro w hSw; (try dsimp only at hSw); simp only [List.getElem_toArray, List.getElem_cons_zero, List.getElem_cons_succ]; go_simp; try with_reducible rfl)
      simp only [List.getElem_toArray, List.getElem_cons_zero, List.getElem_cons_succ, Act.put, List.setIfInBounds_toArray, List.set_cons_zero, List.set_cons_succ]
      refine wpAnyH_take (i := 7) (oi := _) (v := ?_) rfl (by kernel_rfl) (by kernel_rfl) (by kernel_rfl) (fun _ _ _ h => h) (Or.inl ⟨by rfl, ?_⟩) hHeld ?_
      rotate_left
      · (intro w hSw; (try dsimp only at hSw); simp only [List.getElem_toArray, List.getElem_cons_zero, List.getElem_cons_succ]; go_simp; try with_reducible rfl)
      simp only [List.getElem_toArray, List.getElem_cons_zero, List.getElem_cons_succ, Act.put, List.setIfInBounds_toArray, List.set_cons_zero, List.set_cons_succ]
      refine wpAnyH_ready (rs := [8]) (by kernel_rfl) (by simp) ?_
      refine AllReadyH.cons (o := _) rfl (fun K hK => ?_) AllReadyH.nil
      go_simp
      refine hK.out _ _ (⟨hX1.out.rb.cell 0, HS12.out.cell 0⟩) (fun hHeld => ?_)
      clear hK K
      try simp only [Act.put, List.setIfInBounds_toArray, List.set_cons_zero, List.set_cons_succ]
      refine wpAnyH_done (by kernel_rfl) ?_ _
      obtain ⟨W2, hW2⟩ : ∃ W2, W1.setCell ⟨Bt, 0, none⟩ (.pointer (some ⟨b1, 0, none⟩)) = W2 := ⟨_, rfl⟩
      have HBV2 := Lib.hid (bv_set (i := 0) HBV1.out (show Bt < W.drew.heap.size from hX0.out.tr.lt) (.pointer (some ⟨b1, 0, none⟩)))
      have hz2 : W2.heap.size = W1.heap.size := by rw [← hW2]; simp [World.setCell]
      have hz1 : W.heap.size ≤ W1.heap.size := HB1.out.size
      rw [hW2] at hX1 HBV2 ⊢
      clear hW2 hcn hfn d0 d1 c0 c1 HBV1 HB1 HS12 HS1 HS2
      have c0 : W2.drew.cell? ⟨Bb, 0, none⟩ = some (.pointer (some ⟨Bt, 0, none⟩)) := hX1.out.rb.cell 0
      go_wp2_with fail
      refine wp_region_held_drew (S := fun w' => w'.cell? ⟨Bb, 0, none⟩ = some (.pointer (some ⟨Bt, 0, none⟩))) (by kernel_rfl) c0 (fun hHeld => ?_)
      refine wpAnyH_take (i := 0) (oi := _) (v := ?_) rfl (by kernel_rfl) (by kernel_rfl) (by kernel_rfl) (fun _ _ _ h => h) (Or.inl ⟨by rfl, ?_⟩) hHeld ?_
      rotate_left
      · (intro w hSw; (try dsimp only at hSw); simp only [List.getElem_toArray, List.getElem_cons_zero]; go_simp; try with_reducible rfl)
      simp only [List.getElem_toArray, List.getElem_cons_zero, Act.put, List.setIfInBounds_toArray, List.set_cons_zero, List.set_cons_succ]
      refine wpAnyH_take (i := 1) (oi := _) (v := ?_) rfl (by kernel_rfl) (by kernel_rfl) (by kernel_rfl) (fun _ _ _ h => h) (Or.inl ⟨by rfl, ?_⟩) hHeld ?_
      rotate_left
      · (intro w hSw; (try dsimp only at hSw); simp only [List.getElem_toArray, List.getElem_cons_zero, List.getElem_cons_succ]; go_simp; try with_reducible rfl)
      simp only [List.getElem_toArray, List.getElem_cons_zero, List.getElem_cons_succ, Act.put, List.setIfInBounds_toArray, List.set_cons_zero, List.set_cons_succ]
      refine wpAnyH_ready (rs := [2]) (by kernel_rfl) (by simp) ?_
      refine AllReadyH.cons (o := _) rfl (fun K hK => ?_) AllReadyH.nil
      go_simp
      refine (B.bnew_any W2.drew Ai m ci ((seen L ks).map (isAt L)) (by omega) (by have h := hX1.out.ois; rw [HIL.out] at h; exact Sl.of_own (w := W2.drew) h)).mono ?_
      rintro e W3 ⟨b2, rfl, hbv3, hB3⟩
      have HB3 := Lib.hid hB3; have HBV3 := Lib.hid hbv3
      have d0 : W3.cell? ⟨Bb, 0, none⟩ = some (.pointer (some ⟨Bt, 0, none⟩)) := (hB3.cell (p := ⟨Bb, 0, none⟩) hX1.out.rb.lt).trans c0
      have hrt : Row W3 Bt 66 _ := (hB3.block Bt hX1.out.tr.lt).trans hX1.out.tr
      have hcn : W3.cell? ⟨Bt, 1, none⟩ = some (.pointer none) := hrt.cell 1
      have hfn : W3.frozen? ⟨Bt, 1, none⟩ = false := hrt.frozen 1
      have hX3 := Lib.hid (hX1.out.drew.next (W1 := W3) HB3.out 1 (.pointer (some ⟨b2, 0, none⟩)) rfl)
      clear hB3 hbv3 hrt
      go_wp2_with fail
      refine hK.out _ _ (d0) (fun hHeld => ?_)
      clear hK K
      try simp only [Act.put, List.setIfInBounds_toArray, List.set_cons_zero, List.set_cons_succ]
      refine wpAnyH_take (i := 3) (oi := _) (v := ?_) rfl (by kernel_rfl) (by kernel_rfl) (by kernel_rfl) (fun _ _ _ h => h) (Or.inl ⟨by rfl, ?_⟩) hHeld ?_
      rotate_left
      · (intro w hSw; (try dsimp only at hSw); simp only [List.getElem_toArray, List.getElem_cons_zero, List.getElem_cons_succ]; go_simp; try with_reducible rfl)
      simp only [List.getElem_toArray, List.getElem_cons_zero, List.getElem_cons_succ, Act.put, List.setIfInBounds_toArray, List.set_cons_zero, List.set_cons_succ]
      refine wpAnyH_take (i := 4) (oi := _) (v := ?_) rfl (by kernel_rfl) (by kernel_rfl) (by kernel_rfl) (fun _ _ _ h => h) (Or.inl ⟨by rfl, ?_⟩) hHeld ?_
      rotate_left
      · (intro w hSw; (try dsimp only at hSw); simp only [List.getElem_toArray, List.getElem_cons_zero, List.getElem_cons_succ]; go_simp; try with_reducible rfl)
      simp only [List.getElem_toArray, List.getElem_cons_zero, List.getElem_cons_succ, Act.put, List.setIfInBounds_toArray, List.set_cons_zero, List.set_cons_succ]
      refine wpAnyH_take (i := 5) (oi := _) (v := ?_) rfl (by kernel_rfl) (by kernel_rfl) (by kernel_rfl) (fun _ _ _ h => h) (Or.inl ⟨by rfl, ?_⟩) hHeld ?_
      rotate_left
      · (intro w hSw; (try dsimp only at hSw); simp only [List.getElem_toArray, List.getElem_cons_zero, List.getElem_cons_succ]; go_simp; try with_reducible rfl)
      simp only [List.getElem_toArray, List.getElem_cons_zero, List.getElem_cons_succ, Act.put, List.setIfInBounds_toArray, List.set_cons_zero, List.set_cons_succ]
      refine wpAnyH_take (i := 6) (oi := _) (v := ?_) rfl (by kernel_rfl) (by kernel_rfl) (by kernel_rfl) (fun _ _ _ h => h) (Or.inl ⟨by rfl, ?_⟩) hHeld ?_
      rotate_left
      · (intro w hSw; (try dsimp only at hSw); simp only [List.getElem_toArray, List.getElem_cons_zero, List.getElem_cons_succ]; go_simp; try with_reducible rfl)
      simp only [List.getElem_toArray, List.getElem_cons_zero, List.getElem_cons_succ, Act.put, List.setIfInBounds_toArray, List.set_cons_zero, List.set_cons_succ]
      refine wpAnyH_take (i := 7) (oi := _) (v := ?_) rfl (by kernel_rfl) (by kernel_rfl) (by kernel_rfl) (fun _ _ _ h => h) (Or.inl ⟨by rfl, ?_⟩) hHeld ?_
      rotate_left
      · (intro w hSw; (try dsimp only at hSw); simp only [List.getElem_toArray, List.getElem_cons_zero, List.getElem_cons_succ]; go_simp; try with_reducible rfl)
      simp only [List.getElem_toArray, List.getElem_cons_zero, List.getElem_cons_succ, Act.put, List.setIfInBounds_toArray, List.set_cons_zero, List.set_cons_succ]
      refine wpAnyH_ready (rs := [8]) (by kernel_rfl) (by simp) ?_
      refine AllReadyH.cons (o := _) rfl (fun K hK => ?_) AllReadyH.nil
      go_simp
      refine hK.out _ _ (hX3.out.rb.cell 0) (fun hHeld => ?_)
      clear hK K
      try simp only [Act.put, List.setIfInBounds_toArray, List.set_cons_zero, List.set_cons_succ]
      refine wpAnyH_done (by kernel_rfl) ?_ _
      obtain ⟨W4, hW4⟩ : ∃ W4, W3.setCell ⟨Bt, 1, none⟩ (.pointer (some ⟨b2, 0, none⟩)) = W4 := ⟨_, rfl⟩
      have HBV4 := Lib.hid (bv_set (i := 1) HBV3.out (show Bt < W2.drew.heap.size from hX1.out.tr.lt) (.pointer (some ⟨b2, 0, none⟩)))
      have HBVa := Lib.hid (bv_set (i := 1) (B.Bv.below (w := W2.drew) HBV2.out HB3.out (by rw [← hz2]; exact Nat.le_refl _)) (show Bt < W.drew.heap.size from hX0.out.tr.lt) (.pointer (some ⟨b2, 0, none⟩)))
      have hz4 : W4.heap.size = W3.heap.size := by rw [← hW4]; simp [World.setCell]
      have hz3 : W2.heap.size ≤ W3.heap.size := HB3.out.size
      rw [hW4] at hX3 HBV4 HBVa ⊢
      clear hW4 hcn hfn d0 c0 HBV3 HB3 HBV2
      have c0 : W4.drew.cell? ⟨Bb, 0, none⟩ = some (.pointer (some ⟨Bt, 0, none⟩)) := hX3.out.rb.cell 0
      go_wp2_with fail
      refine wp_region_held_drew (S := fun w' => w'.cell? ⟨Bb, 0, none⟩ = some (.pointer (some ⟨Bt, 0, none⟩))) (by kernel_rfl) c0 (fun hHeld => ?_)
      refine wpAnyH_take (i := 0) (oi := _) (v := ?_) rfl (by kernel_rfl) (by kernel_rfl) (by kernel_rfl) (fun _ _ _ h => h) (Or.inl ⟨by rfl, ?_⟩) hHeld ?_
      rotate_left
      · (intro w hSw; (try dsimp only at hSw); simp only [List.getElem_toArray, List.getElem_cons_zero]; go_simp; try with_reducible rfl)
      simp only [List.getElem_toArray, List.getElem_cons_zero, Act.put, List.setIfInBounds_toArray, List.set_cons_zero, List.set_cons_succ]
      refine wpAnyH_take (i := 1) (oi := _) (v := ?_) rfl (by kernel_rfl) (by kernel_rfl) (by kernel_rfl) (fun _ _ _ h => h) (Or.inl ⟨by rfl, ?_⟩) hHeld ?_
      rotate_left
      · (intro w hSw; (try dsimp only at hSw); simp only [List.getElem_toArray, List.getElem_cons_zero, List.getElem_cons_succ]; go_simp; try with_reducible rfl)
      simp only [List.getElem_toArray, List.getElem_cons_zero, List.getElem_cons_succ, Act.put, List.setIfInBounds_toArray, List.set_cons_zero, List.set_cons_succ]
      refine wpAnyH_ready (rs := [2]) (by kernel_rfl) (by simp) ?_
      refine AllReadyH.cons (o := _) rfl (fun K hK => ?_) AllReadyH.nil
      go_simp
      refine (pnew_walk W4.drew Ad q cd (idsOf L (seen L ks)) (by omega) (idsOf_lt HG.out (by rw [HSO.out]; exact HBFS.out.ok HG.out)) (by have h := hX3.out.oid; rw [HQ.out] at h; exact Sl.of_own (w := W4.drew) h)).mono ?_
      rintro e W5 ⟨b4, g4, rfl, hpr, hb4, hg4, hB5⟩
      have HB5 := Lib.hid hB5; have HPR := Lib.hid hpr
      have d0 : W5.cell? ⟨Bb, 0, none⟩ = some (.pointer (some ⟨Bt, 0, none⟩)) := (hB5.cell (p := ⟨Bb, 0, none⟩) hX3.out.rb.lt).trans c0
      have hrt : Row W5 Bt 66 _ := (hB5.block Bt hX3.out.tr.lt).trans hX3.out.tr
      have hcn : W5.cell? ⟨Bt, 3, none⟩ = some (.pointer none) := hrt.cell 3
      have hfn : W5.frozen? ⟨Bt, 3, none⟩ = false := hrt.frozen 3
      have hX5 := Lib.hid (hX3.out.drew.next (W1 := W5) HB5.out 3 (.pointer (some ⟨b4, 0, none⟩)) rfl)
      clear hB5 hpr hrt
      go_wp2_with fail
      refine hK.out _ _ (d0) (fun hHeld => ?_)
      clear hK K
      try simp only [Act.put, List.setIfInBounds_toArray, List.set_cons_zero, List.set_cons_succ]
      refine wpAnyH_take (i := 3) (oi := _) (v := ?_) rfl (by kernel_rfl) (by kernel_rfl) (by kernel_rfl) (fun _ _ _ h => h) (Or.inl ⟨by rfl, ?_⟩) hHeld ?_
      rotate_left
      · (intro w hSw; (try dsimp only at hSw); simp only [List.getElem_toArray, List.getElem_cons_zero, List.getElem_cons_succ]; go_simp; try with_reducible rfl)
      simp only [List.getElem_toArray, List.getElem_cons_zero, List.getElem_cons_succ, Act.put, List.setIfInBounds_toArray, List.set_cons_zero, List.set_cons_succ]
      refine wpAnyH_take (i := 4) (oi := _) (v := ?_) rfl (by kernel_rfl) (by kernel_rfl) (by kernel_rfl) (fun _ _ _ h => h) (Or.inl ⟨by rfl, ?_⟩) hHeld ?_
      rotate_left
      · (intro w hSw; (try dsimp only at hSw); simp only [List.getElem_toArray, List.getElem_cons_zero, List.getElem_cons_succ]; go_simp; try with_reducible rfl)
      simp only [List.getElem_toArray, List.getElem_cons_zero, List.getElem_cons_succ, Act.put, List.setIfInBounds_toArray, List.set_cons_zero, List.set_cons_succ]
      refine wpAnyH_take (i := 5) (oi := _) (v := ?_) rfl (by kernel_rfl) (by kernel_rfl) (by kernel_rfl) (fun _ _ _ h => h) (Or.inl ⟨by rfl, ?_⟩) hHeld ?_
      rotate_left
      · (intro w hSw; (try dsimp only at hSw); simp only [List.getElem_toArray, List.getElem_cons_zero, List.getElem_cons_succ]; go_simp; try with_reducible rfl)
      simp only [List.getElem_toArray, List.getElem_cons_zero, List.getElem_cons_succ, Act.put, List.setIfInBounds_toArray, List.set_cons_zero, List.set_cons_succ]
      refine wpAnyH_take (i := 6) (oi := _) (v := ?_) rfl (by kernel_rfl) (by kernel_rfl) (by kernel_rfl) (fun _ _ _ h => h) (Or.inl ⟨by rfl, ?_⟩) hHeld ?_
      rotate_left
      · (intro w hSw; (try dsimp only at hSw); simp only [List.getElem_toArray, List.getElem_cons_zero, List.getElem_cons_succ]; go_simp; try with_reducible rfl)
      simp only [List.getElem_toArray, List.getElem_cons_zero, List.getElem_cons_succ, Act.put, List.setIfInBounds_toArray, List.set_cons_zero, List.set_cons_succ]
      refine wpAnyH_take (i := 7) (oi := _) (v := ?_) rfl (by kernel_rfl) (by kernel_rfl) (by kernel_rfl) (fun _ _ _ h => h) (Or.inl ⟨by rfl, ?_⟩) hHeld ?_
      rotate_left
      · (intro w hSw; (try dsimp only at hSw); simp only [List.getElem_toArray, List.getElem_cons_zero, List.getElem_cons_succ]; go_simp; try with_reducible rfl)
      simp only [List.getElem_toArray, List.getElem_cons_zero, List.getElem_cons_succ, Act.put, List.setIfInBounds_toArray, List.set_cons_zero, List.set_cons_succ]
      refine wpAnyH_ready (rs := [8]) (by kernel_rfl) (by simp) ?_
      refine AllReadyH.cons (o := _) rfl (fun K hK => ?_) AllReadyH.nil
      go_simp
      refine hK.out _ _ (hX5.out.rb.cell 0) (fun hHeld => ?_)
      clear hK K
      try simp only [Act.put, List.setIfInBounds_toArray, List.set_cons_zero, List.set_cons_succ]
      refine wpAnyH_done (by kernel_rfl) ?_ _
      obtain ⟨W6, hW6⟩ : ∃ W6, W5.setCell ⟨Bt, 3, none⟩ (.pointer (some ⟨b4, 0, none⟩)) = W6 := ⟨_, rfl⟩
      have HBVb := Lib.hid (bv_set (i := 3) (B.Bv.below (w := W4.drew) HBVa.out HB5.out (show W1.heap.size ≤ W4.heap.size by omega)) (show Bt < W.drew.heap.size from hX0.out.tr.lt) (.pointer (some ⟨b4, 0, none⟩)))
      have HBVc := Lib.hid (bv_set (i := 3) (B.Bv.below (w := W4.drew) HBV4.out HB5.out (show W3.heap.size ≤ W4.heap.size by omega)) (show Bt < W2.drew.heap.size from hX1.out.tr.lt) (.pointer (some ⟨b4, 0, none⟩)))
      have hz6 : W6.heap.size = W5.heap.size := by rw [← hW6]; simp [World.setCell]
      have hz5 : W4.heap.size ≤ W5.heap.size := HB5.out.size
      have HPR6 : Hid (PR W6 b4 g4 q _ _) := Lib.hid (by
        have hlt : Bt < W4.heap.size := hX3.out.tr.lt
        rw [← hW6]
        exact ⟨(Below.heap_setCell W5 _ _ b4 (fun e => by have : b4 = Bt := e; have : W4.heap.size ≤ b4 := hb4; omega)).trans HPR.out.1, (Below.heap_setCell W5 _ _ g4 (fun e => by have : g4 = Bt := e; have : W4.heap.size ≤ g4 := hg4; omega)).trans HPR.out.2⟩)
      rw [hW6] at hX5 HBVb HBVc ⊢
      clear hW6 hcn hfn d0 c0 HBVa HBV4 HB5 HPR
      have c0 : W6.cell? ⟨Bb, 0, none⟩ = some (.pointer (some ⟨Bt, 0, none⟩)) := hX5.out.rb.cell 0
      go_wp2
      refine marks_leave (w := w) Ds W6 hX5.out.mks (fun W7 hS => ⟨_, results_tmp2 rfl _ _ _, ?_⟩)
      have hm := hX5.out.mks
      have hz7 := hS.size
      have hlt := HMK.out.lt
      have hw0 : w.heap.size ≤ W.heap.size := HST.out.bel.size
      obtain ⟨A3, c3, hlv⟩ := own_slice hX5.out.olv
      have hrow := hS.row hm hX5.out.tr
      have hown := hS.own hm hX5.out.olv
      have hrn := hS.row hm hX5.out.rn
      have hp1 := hS.row hm HPR6.out.1
      have hp2 := hS.row hm HPR6.out.2
      have hb4' : W4.heap.size ≤ b4 := hb4
      have hg4' : W4.heap.size ≤ g4 := hg4
      rw [hlv] at hrow hown
      rw [List.length_map] at hrow hown
      rw [HSO.out] at hrn
      refine ⟨hS.bel hm hX5.out.bel, .inl ⟨?_, Bt, ks, rfl, HBFS.out, HFULL.out, ?_, hX5.out.lo, hrow.lt, b1, b2, A3, c3, b4, g4, some ⟨nB, 0, none⟩, n, ?_, ?_, ?_, SlR.of_own hown, ?_, by omega, hp1.lt, by omega, hp2.lt, ?_⟩⟩
      · have := HBFS.out.full HG.out (by rw [HFULL.out])
        rw [← this, HM.out]; exact hsm
      · rw [HI.out]; exact hsm
      · rw [HLEN.out]; exact hrow
      · have h := (HBVb.out.agree (hS.agree (S := W.heap.size) hlt)).mono hw0 (E' := W7.heap.size) (by omega)
        rw [HI.out, HN.out]; exact h
      · have h := (HBVc.out.agree (hS.agree (S := W2.heap.size) (fun D hD => by have := hlt D hD; omega))).mono (show w.heap.size ≤ W2.heap.size by omega) (E' := W7.heap.size) (by omega)
        rw [HI.out, ← HSO.out]; exact h
      · have h : PR W7 b4 g4 q _ _ := ⟨hp1, hp2⟩
        rw [← HSO.out, HQ.out]; exact h
      · rw [HLEN.out]
        exact (SlR.of_row hrn _ rfl n (nodA_size L n _)).mono HST.out.lo.2.2.2.2.2 (show nB + 1 ≤ W7.heap.size from hrn.lt)
end Go.Proofs.Ytpnkjfjkeoleaaa.LD
