/- bitvec: Len, count. -/
import Derived.Test.YtofeemmmdbdjdaaBvMem
set_option linter.unusedVariables false
namespace Go.Proofs.Ytofeemmmdbdjdaa.B
open Go.RowKit HK

theorem blen_any (w : World) (b : Nat) (n : Int) (hc : w.cell? ⟨b, 0, none⟩ = some (.int .i64 n)) :
    Calls Try.prog 18 #[.pointer (some ⟨b, 0, none⟩)] w fun e w' => e = .returned (.int .i64 n) ∧ w' = w := by
  go_enter Try.func18, Try.ntmps18
  go_wp2
  go_ret
  exact ⟨rfl, rfl⟩
theorem blen_nil (w : World) : Calls Try.prog 18 #[.pointer none] w fun e w' => e = .returned (.int .i64 0) ∧ w' = w := by
  go_enter Try.func18, Try.ntmps18
  go_wp2
  go_ret
  exact ⟨rfl, rfl⟩

theorem _root_.Go.World.grownBy.trans_put {w wr w1 : World} {b n : Nat} {e : TypeId} {o : Obj} {v u : Value} {xs : List Value} (h : w.grownBy wr (some b)) (hown : wr.ownsRow w.heap.size e 1 v n xs) (hb : b < w.heap.size) (hg : (wr.alloc o).grownBy w1 v.ownBlock) {i : Nat} :
    w.grownBy (w1.setCell ⟨b, i, none⟩ u) (some b) := by
  refine ⟨hg.os.trans h.os, hg.tape.trans h.tape, hg.output.trans h.output, ?_, fun k hk hne => ?_⟩
  · have h1 := hg.size; have h2 := h.size
    simp [World.setCell] at h1 ⊢
    omega
  · have h2 := h.size
    rw [Below.heap_setCell w1 _ _ k (fun e => hne (by rw [e])), hg.block k (by simp; omega) (fun e => by have := (hown.lt k e.symm).1; omega), Below.heap_alloc wr o k (by omega)]
    exact h.block k hk hne
theorem grown_put {w w1 : World} {b : Nat} {row : Option Nat} (h : w.grownBy w1 row) (hr : ∀ k, row = some k → w.heap.size ≤ k) (i : Nat) (u : Value) : w.grownBy (w1.setCell ⟨b, i, none⟩ u) (some b) :=
  ⟨h.os, h.tape, h.output, by simpa [World.setCell] using h.size, fun k hk hne => (Below.heap_setCell w1 _ _ k (fun e => hne (by rw [e]))).trans (h.block k hk (fun e => by have := hr k e.symm; omega))⟩

def CntPost (w : World) (b n m c1 : Nat) (A1 : Option Addr) (N k : Nat) (wr : World) : Prop :=
  ∃ A2 c2, Row wr b 47 #[.int .i64 n, .slice A1 m c1, .slice A2 ((k + 7) / 8) c2] ∧ wr.ownsRow w.heap.size 3 1 (.slice A2 ((k + 7) / 8) c2) ((k + 7) / 8) (cntsL N ((k + 7) / 8)) ∧ w.grownBy wr (some b)

set_option maxHeartbeats 1000000 in
theorem bcount_any (w : World) (b n m c1 : Nat) (A1 : Option Addr) (N : Nat) (hm : m ≤ 16384) (hr : Row w b 47 #[.int .i64 n, .slice A1 m c1, .slice none 0 0]) (hs : SlX w b A1 m (wordsL N m)) :
    Calls Try.prog 26 #[.pointer (some ⟨b, 0, none⟩)] w fun e w' => e = .returned (.tuple #[]) ∧ CntPost w b n m c1 A1 N m w' := by
  have hc1 : w.cell? ⟨b, 1, none⟩ = some (.slice A1 m c1) := hr.cell 1
  have hb : b < w.heap.size := hr.lt
  have HR := Lib.hid hr; clear hr
  have HS := Lib.hid hs; clear hs
  obtain ⟨i0, hi, hz0, hz1, hz2⟩ := info_parts infoInt
  go_enter Try.func26, Try.ntmps26
  go_wp2
  clear hc1
  go_loopw [2, 10] (fun a i wr => ∃ k : Nat, k ≤ m ∧ i = .int .i64 k ∧ a = .int .i64 (cnt N (64 * k) : Nat) ∧ CntPost w b n m c1 A1 N k wr) (fun _ i _ => m - (intOf i).toNat)
  case atStart => exact ⟨0, Nat.zero_le _, rfl, rfl, none, 0, HR.out, ⟨rfl, .inl ⟨rfl, rfl⟩⟩, World.grownBy.refl _ _⟩
  case round =>
    obtain ⟨k, hk, rfl, rfl, hP⟩ := hrel
    have hcb : cnt N (64 * k) ≤ 64 * k := cnt_le _ _
    by_cases hlt : k < m
    · obtain ⟨A2, c2, hrow, hown, hgr⟩ := hP
      obtain ⟨g, off, u, rfl, hg, hu, hc⟩ := (HS.out.grown hgr).at_ hlt
      rw [wordsL_at N m k hlt] at hu
      obtain rfl : Value.int .u64 (word N k) = u := by injection hu
      have HG := Lib.hid hgr; clear hgr
      have hones := Lib.hid (ones_any (word N k))
      have hadd : Hid (cnt N (64 * k) + cnt (word N k) 64 = cnt N (64 * (k + 1))) := Lib.hid (by rw [cnt_word N k 64 (Nat.le_refl _), Nat.mul_succ])
      have hc64 : cnt (word N k) 64 ≤ 64 := cnt_le _ _
      by_cases h8 : k % 8 = 0
      · have hb8 : ((k : Int) % 8 == 0) = true := by simp; omega
        have hself : ∀ q, (Value.slice A2 ((k + 7) / 8) c2).ownBlock = some q → w.heap.size ≤ q := fun q e => (hown.lt q e).1
        have hd2 : wr.cell? ⟨b, 2, none⟩ = some (.slice A2 ((k + 7) / 8) c2) := hrow.cell 2
        have hsz : w.heap.size ≤ wr.heap.size := HG.out.size
        have hfr : wr.frozen? ⟨b, 2, none⟩ = false := hrow.frozen 2
        have HW := Lib.hid hrow; clear hrow
        have HO := Lib.hid hown; clear hown
        have hkl : (k + 7) / 8 + 1 ≤ maxLen := by unfold maxLen; omega
        go_wp2_with (at_builtin; refine wpList_append_own _ rfl _ _ 45 rfl w.heap.size 3 i0 (.int .i64 0) 1 8 Try.underlying45 hi hz0 hz1 hz2 rfl (by decide) _ _ _ rfl (HO.out.alloc _) ⟨wr.heap.size, 0, none⟩ 1 1 [_] rfl rfl (cell_one_new _ _ _) one_oneCell (by unfold maxLen; omega) (by omega) (by simp; omega) ?_; intro v' w1 hown1 hgrow1 _;
                          obtain ⟨A3, c3, rfl, -, -⟩ := own_shape hown1;
                          have hrow1 := (HW.out.alloc _).grown hgrow1 (fun e => by have := hself b e.symm; omega);
                          have hcell1 : w1.cell? ⟨b, 2, none⟩ = some (.slice A2 ((k + 7) / 8) c2) := hrow1.cell 2;
                          have hfr1 := hrow1.frozen 2;
                          have HO1 := Lib.hid hown1; clear hown1;
                          have HW1 := Lib.hid hrow1; clear hrow1;
                          have HG1 := Lib.hid hgrow1; clear hgrow1)
        refine (hones.out _ (word_lt _ _)).mono ?_
        rintro e w' ⟨rfl, rfl⟩
        go_wp2
        go_roundw
        case rel =>
          have e8 : (k + 1 + 7) / 8 = (k + 7) / 8 + 1 := by omega
          refine ⟨k + 1, by omega, by go_num, by rw [← hadd.out]; go_num, A3, c3, ?_, ?_, ?_⟩
          · rw [e8]
            exact HW1.out.put 2 _
          · rw [e8, cntsL_snoc, show 512 * ((k + 7) / 8) = 64 * k by omega]
            exact ownsRow_setCell_below HO1.out hb _
          · exact (HG.out).trans_put HO.out hb HG1.out
        case measure => simp [intOf]; omega
      · have hb8 : ((k : Int) % 8 == 0) = false := by simp; omega
        have HW := Lib.hid hrow; clear hrow
        have HO := Lib.hid hown; clear hown
        go_wp2_with (fail)
        refine (hones.out _ (word_lt _ _)).mono ?_
        rintro e w' ⟨rfl, rfl⟩
        go_wp2
        go_roundw
        case rel =>
          have e8 : (k + 1 + 7) / 8 = (k + 7) / 8 := by omega
          refine ⟨k + 1, by omega, by go_num, by rw [← hadd.out]; go_num, A2, c2, ?_, ?_, ?_⟩
          · rw [e8]
            exact HW.out
          · rw [e8]
            exact HO.out
          · exact HG.out
        case measure => simp [intOf]; omega
    · obtain rfl : k = m := by omega
      go_wp2
      go_end0
      exact ⟨rfl, hP⟩
end Go.Proofs.Ytofeemmmdbdjdaa.B
