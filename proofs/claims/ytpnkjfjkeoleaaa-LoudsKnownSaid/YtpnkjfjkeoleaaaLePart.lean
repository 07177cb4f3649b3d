/- louds: part, of the program and of the reference. -/
import Derived.Test.YtpnkjfjkeoleaaaLcUniq
import Derived.Test.YtpnkjfjkeoleaaaGPkB
set_option linter.unusedVariables false
set_option maxRecDepth 100000
namespace Go.Proofs.Ytpnkjfjkeoleaaa.LD
open Go.RowKit HK
open Go.Proofs.Ytpnkjfjkeoleaaa.B (bytesOf bytesOf_len bytesOf_lt PutInv infoU8)

theorem cells_new (w : World) (t : TypeId) (cs : Array Value) (j : Nat) (u : Value) (h : cs.toList[j]? = some u) : (w.alloc (.cells cs t)).cell? ((⟨w.heap.size, 0, none⟩ : Addr).add j) = some u := by
  have hadd : (⟨w.heap.size, 0, none⟩ : Addr).add j = ⟨w.heap.size, j, none⟩ := by unfold Addr.add; split <;> simp_all
  rw [hadd, (Row.new w t cs).cell]
  simpa using h
theorem u8s_one (l : List Nat) : ∀ u ∈ l.map B.u8v, u.oneCell' = true := by
  intro u hu
  obtain ⟨s, _, rfl⟩ := List.mem_map.1 hu
  rfl
theorem four_one {a b c d : Int} : ∀ u ∈ (#[Value.int .u8 a, .int .u8 b, .int .u8 c, .int .u8 d] : Array Value).toList, u.oneCell' = true := by
  intro u hu
  simp at hu
  rcases hu with rfl | rfl | rfl | rfl <;> rfl
/-- A slice that lies apart from the row that has grown. -/
theorem Sl.apart {w w' : World} {B : Nat} {A : Option Addr} {n : Nat} {xs : List Value} {row : Option Nat} (h : Sl w B A n xs) (hg : w.grownBy w' row) (hB : B ≤ w.heap.size) (hr : ∀ a, A = some a → 0 < n → row ≠ some a.block) : Sl w' B A n xs :=
  ⟨h.1, fun hn => by
    obtain ⟨b, off, e, hb, hc⟩ := h.2 hn
    exact ⟨b, off, e, hb, fun j u hu => (World.cell?_of_block (a := ⟨b, off + j, none⟩) (hg.block b (by omega) (fun e2 => hr _ e hn e2.symm))).trans (hc j u hu)⟩⟩
def PartPost (w : World) (base M : Nat) (pre bl : List Nat) (e : Ending) (w' : World) : Prop := ∃ v, e = .returned v ∧ PutInv w w' base v (M + 4 + bl.length) (pre ++ partL bl)

theorem part_cells (n : Nat) (h : n ≤ 16777215) : (#[Value.int .u8 ((n : Int) % 256), .int .u8 ((n : Int) / 256 % 256), .int .u8 ((n : Int) / 65536), .int .u8 ((n : Int) / 16777216)] : Array Value).toList = (bytesN n 4).map B.u8v := by
  have e : bytesN n 4 = [n % 256, n / 256 % 256, n / 65536, n / 16777216] := by
    simp [bytesN, List.range_succ]
    omega
  rw [e]
  simp [B.u8v]
theorem part_list (pre bl : List Nat) {n : Nat} (hl : bl.length = n) (h : n ≤ 16777215) :
    (pre ++ partL bl).map B.u8v = pre.map B.u8v ++ (#[Value.int .u8 ((n : Int) % 256), .int .u8 ((n : Int) / 256 % 256), .int .u8 ((n : Int) / 65536), .int .u8 ((n : Int) / 16777216)] : Array Value).toList ++ bl.map B.u8v := by
  rw [part_cells n h]
  unfold partL
  rw [hl, List.map_append, List.map_append, List.append_assoc]
set_option maxHeartbeats 2000000 in
theorem lpart_any (w : World) (base : Nat) (o : Value) (M : Nat) (pre : List Nat) (A : Option Addr) (n c : Nat) (bl : List Nat) (hbase : base ≤ w.heap.size) (hM : M ≤ 1073741824) (hn : n ≤ 16777215)
    (ho : w.ownsRow base 5 1 o M (pre.map B.u8v)) (hs : Sl w w.heap.size A n (bl.map B.u8v)) (hsep : ∀ a, A = some a → 0 < n → o.ownBlock ≠ some a.block) :
    Calls Try.prog 38 #[o, .slice A n c] w (PartPost w base M pre bl) := by
  have HLEN : Hid (bl.length = n) := Lib.hid (by have := hs.1; simpa using this)
  have HO := Lib.hid ho; have HS := Lib.hid hs; have HSEP := Lib.hid hsep
  obtain ⟨i0, hi, hz0, hz1, hz2⟩ := info_parts infoU8
  clear ho hs hsep
  go_enter Try.func38, Try.ntmps38
  go_wp2_with (first
    | (at_builtin; refine wpList_append_own _ rfl _ _ 26 rfl base 5 i0 (.int .u8 0) 1 1 Try.underlying26 hi hz0 hz1 hz2 rfl (by decide) _ _ _ rfl (HO.out.alloc _) ⟨w.heap.size, 0, none⟩ 4 4 _ rfl (by rfl) (cells_new _ _ _) four_one (by unfold maxLen; omega) (by omega) (by simp; omega) ?_; intro v1 w1 hown1 hgrow1 _; have HS1 := Lib.hid (Sl.apart (HS.out.alloc (Nat.le_refl _) _) hgrow1 (by simp) HSEP.out); have HB1 := Lib.hid (bel_app (Below.refl base w) hbase HO.out hgrow1); have HO1 := Lib.hid hown1; have hs1 := Nat.le_trans hbase HB1.out.size; clear hown1 hgrow1)
    | (at_builtin; refine wpList_append_sl _ rfl _ _ 26 rfl base 5 i0 (.int .u8 0) 1 Try.underlying26 hi hz0 hz1 hz2 rfl _ _ _ rfl HO1.out w.heap.size _ _ _ _ rfl HS1.out (u8s_one bl) (by unfold maxLen; omega) (by omega) hs1 ?_; intro v2 w2 hown2 hgrow2 _; have HB2 := Lib.hid (HB1.out.grown hgrow2 hs1 (fun q e => (HO1.out.lt q e).1)); have HO2 := Lib.hid hown2; clear hown2 hgrow2))
  go_ret
  refine ⟨_, rfl, ?_, HB2.out⟩
  rw [HLEN.out, show M + 4 + n = M + 4 + n from rfl, part_list pre bl HLEN.out hn]
  exact HO2.out
set_option maxHeartbeats 2000000 in
theorem rpart_any (w : World) (base : Nat) (o : Value) (M : Nat) (pre : List Nat) (A : Option Addr) (n c : Nat) (bl : List Nat) (hbase : base ≤ w.heap.size) (hM : M ≤ 1073741824) (hn : n ≤ 16777215)
    (ho : w.ownsRow base 5 1 o M (pre.map B.u8v)) (hs : Sl w w.heap.size A n (bl.map B.u8v)) (hsep : ∀ a, A = some a → 0 < n → o.ownBlock ≠ some a.block) :
    Calls Try.prog 59 #[o, .slice A n c] w (PartPost w base M pre bl) := by
  have HLEN : Hid (bl.length = n) := Lib.hid (by have := hs.1; simpa using this)
  have HO := Lib.hid ho; have HS := Lib.hid hs; have HSEP := Lib.hid hsep
  obtain ⟨i0, hi, hz0, hz1, hz2⟩ := info_parts infoU8
  clear ho hs hsep
  go_enter Try.func59, Try.ntmps59
  go_wp2_with (first
    | (at_builtin; refine wpList_append_own _ rfl _ _ 26 rfl base 5 i0 (.int .u8 0) 1 1 Try.underlying26 hi hz0 hz1 hz2 rfl (by decide) _ _ _ rfl (HO.out.alloc _) ⟨w.heap.size, 0, none⟩ 4 4 _ rfl (by rfl) (cells_new _ _ _) four_one (by unfold maxLen; omega) (by omega) (by simp; omega) ?_; intro v1 w1 hown1 hgrow1 _; have HS1 := Lib.hid (Sl.apart (HS.out.alloc (Nat.le_refl _) _) hgrow1 (by simp) HSEP.out); have HB1 := Lib.hid (bel_app (Below.refl base w) hbase HO.out hgrow1); have HO1 := Lib.hid hown1; have hs1 := Nat.le_trans hbase HB1.out.size; clear hown1 hgrow1)
    | (at_builtin; refine wpList_append_sl _ rfl _ _ 26 rfl base 5 i0 (.int .u8 0) 1 Try.underlying26 hi hz0 hz1 hz2 rfl _ _ _ rfl HO1.out w.heap.size _ _ _ _ rfl HS1.out (u8s_one bl) (by unfold maxLen; omega) (by omega) hs1 ?_; intro v2 w2 hown2 hgrow2 _; have HB2 := Lib.hid (HB1.out.grown hgrow2 hs1 (fun q e => (HO1.out.lt q e).1)); have HO2 := Lib.hid hown2; clear hown2 hgrow2))
  go_ret
  refine ⟨_, rfl, ?_, HB2.out⟩
  rw [HLEN.out, show M + 4 + n = M + 4 + n from rfl, part_list pre bl HLEN.out hn]
  exact HO2.out
end Go.Proofs.Ytpnkjfjkeoleaaa.LD
