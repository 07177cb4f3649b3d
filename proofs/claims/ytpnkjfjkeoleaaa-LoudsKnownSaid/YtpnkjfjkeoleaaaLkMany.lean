/- louds, the law's helpers refused and many. -/
import Derived.Test.YtpnkjfjkeoleaaaLkPlain
import Derived.Deep.DeepCutAuto
import Derived.Deep.CutBlock
set_option linter.unusedVariables false
set_option maxRecDepth 100000
namespace Go.Proofs.Ytpnkjfjkeoleaaa.LD
open Go.RowKit HK
open Go.Proofs.Ytpnkjfjkeoleaaa.B (bytesOf bytesOf_len bytesOf_lt)

def RefPost (w : World) (e : Ending) (w' : World) : Prop := e = .returned (.bool true) ∧ Below w.heap.size w w'
def NoPost (w : World) (x : Int) (e : Ending) (w' : World) : Prop := e = .returned (.tuple #[.pointer none, .int .i64 x]) ∧ Below w.heap.size w w'
theorem refused_any (w : World) (A : Option Addr) (n c : Nat) (x : Int) (h : Calls Try.prog 23 #[.slice A n c] w (NoPost w x)) :
    Calls Try.prog 22 #[.slice A n c, .int .i64 x] w (RefPost w) := by
  have H := Lib.hid h
  clear h
  go_enter Try.func22, Try.ntmps22
  go_wp2_with fail
  refine H.out.mono ?_
  rintro e w1 ⟨rfl, hB⟩
  have HB := Lib.hid hB
  have g : (x == x) = true := by simp
  clear hB
  go_wp2
  go_ret
  exact ⟨rfl, HB.out⟩
theorem no_bad (w : World) (A : Option Addr) (n c : Nat) (ss : List ByteArray) (hn : n ≤ 20000) (hbad : ¬ Good (ss.map bytesOf)) (hz : ∀ s ∈ ss, s.size ≤ maxLen) (hs : Sl w w.heap.size A n (ss.map Value.string)) :
    Calls Try.prog 23 #[.slice A n c] w (NoPost w 1) := by
  refine (lbuild_bad w A n c ss _ rfl (.inr hbad) (by unfold maxLen; omega) hz hs).mono ?_
  rintro e w' ⟨hB, ⟨h, _⟩ | ⟨_, rfl⟩⟩
  · omega
  · exact ⟨rfl, hB⟩
theorem no_long (w : World) (A : Option Addr) (n c : Nat) (ss : List ByteArray) (hn : 20000 < n) (hm : n ≤ maxLen) (hz : ∀ s ∈ ss, s.size ≤ maxLen) (hs : Sl w w.heap.size A n (ss.map Value.string)) :
    Calls Try.prog 23 #[.slice A n c] w (NoPost w 2) := by
  refine (lbuild_bad w A n c ss _ rfl (.inl hn) hm hz hs).mono ?_
  rintro e w' ⟨hB, ⟨_, rfl⟩ | ⟨h, _⟩⟩
  · exact ⟨rfl, hB⟩
  · omega
theorem no_great (w : World) (A : Option Addr) (n c : Nat) (ss : List ByteArray) (hg : Good (ss.map bytesOf)) (hw : 524287 < wt (ss.map bytesOf) (LD.root (ss.map bytesOf))) (hm : n ≤ maxLen) (hz : ∀ s ∈ ss, s.size ≤ maxLen) (hs : Sl w w.heap.size A n (ss.map Value.string)) :
    Calls Try.prog 23 #[.slice A n c] w (NoPost w 2) := by
  refine (lbuild_good w A n c ss _ rfl hg hm hz hs).mono ?_
  rintro e w' ⟨h1, ⟨h2, _⟩ | ⟨_, h2⟩⟩
  · omega
  · exact ⟨h2, h1⟩
theorem made_u8 (n : Nat) : madeCells #[Value.int .u8 0] n = ((List.replicate n 0).map B.u8v).toArray := by
  apply Array.ext'
  rw [toList_madeCells_one]
  simp [B.u8v]
theorem mStr_row (i : Nat) : (((List.replicate 256 0).map B.u8v).set 0 (.int .u8 ((i / 256 : Nat) : Int))).set 1 (.int .u8 ((i % 256 : Nat) : Int)) = (mStr i).map B.u8v := by
  unfold mStr
  rw [show List.replicate 256 0 = 0 :: 0 :: List.replicate 254 0 from rfl, List.map_cons, List.map_cons, List.set_cons_zero, List.set_cons_succ, List.set_cons_zero]
  rfl
theorem sl_take {w : World} {B n m : Nat} {A : Option Addr} {vs : List Value} (h : Sl w B A n vs) (hm : m ≤ n) : Sl w B A m (vs.take m) := by
  refine ⟨?_, fun h0 => ?_⟩
  · have := h.1; rw [List.length_take]; omega
  · obtain ⟨b, off, e, hb, hc⟩ := h.2 (by omega)
    refine ⟨b, off, e, hb, fun k v hk => hc k v ?_⟩
    rw [List.getElem?_take] at hk
    split at hk
    · exact hk
    · cases hk

set_option maxHeartbeats 8000000 in
theorem many_any (w : World) : Calls Try.prog 25 #[] w (RefPost w) := by
  obtain ⟨ib, hib, hb0z, hb1z, hb2z⟩ := info_parts infoStr
  obtain ⟨N0, hN0⟩ : ∃ N0, madeCells #[Value.int .u8 0] 256 = N0 := ⟨_, rfl⟩
  have hmk : ∀ W : World, (Instr.makeSlice 26 (.int .i64 256) (.int .i64 256)).run Try.prog W = .ok (.slice (some ⟨W.heap.size, 0, none⟩) 256 256) (W.alloc (.cells N0 5)) := fun W => by
    have h := run_make_row' (P := Try.prog) 26 5 (.int .u8 0) 1 Try.underlying26 B.infoU8 rfl .i64 .i64 256 (by omega) (by omega) W
    rw [hN0] at h
    exact h
  have HN0 : Hid (N0 = ((List.replicate 256 0).map B.u8v).toArray) := Lib.hid (by rw [← hN0]; exact made_u8 256)
  clear hN0
  go_enter Try.func25, Try.ntmps25
  go_wp2
  go_loopw [1, 4] (fun l iv wr => ∃ i : Nat, iv = .int .i64 i ∧ i ≤ 2100 ∧ Hid (wr.ownsRow w.heap.size 9 1 l i ((mS i).map Value.string)) ∧ Hid (Below w.heap.size w wr)) (fun _ iv _ => 2100 - (intOf iv).toNat)
  case atStart => exact ⟨0, rfl, by omega, Lib.hid (World.ownsRow_nil _ _ _ _), Lib.hid (Below.refl _ _)⟩
  case round =>
    obtain ⟨i, rfl, hi, HO, HB⟩ := hrel
    have hsw := HB.out.size
    by_cases hlt : i < 2100
    · have hb1 : decide ((i : Int) < 2100) = true := by simp; omega
      have HR0 : Hid (Row (wr.alloc (.cells N0 5)) wr.heap.size 5 ((List.replicate 256 0).map B.u8v).toArray) := Lib.hid (by rw [← HN0.out]; exact Row.new _ _ _)
      have k0 : (wr.alloc (.cells N0 5)).cell? ⟨wr.heap.size, 0, none⟩ = some (.int .u8 0) := HR0.out.cell 0
      have f0 := HR0.out.frozen 0
      have HR1 : Hid (Row (wr.alloc (.cells (N0.setIfInBounds 0 (.int .u8 ((i : Int) / 256))) 5)) wr.heap.size 5 (N0.setIfInBounds 0 (.int .u8 ((i : Int) / 256)))) := Lib.hid (Row.new _ _ _)
      have k1 : (wr.alloc (.cells (N0.setIfInBounds 0 (.int .u8 ((i : Int) / 256))) 5)).cell? ⟨wr.heap.size, 1, none⟩ = some (.int .u8 0) := by
        rw [HR1.out.cell 1, HN0.out]; rfl
      have f1 := HR1.out.frozen 1
      have HR2 : Hid (Row (wr.alloc (.cells ((N0.setIfInBounds 0 (.int .u8 ((i : Int) / 256))).setIfInBounds 1 (.int .u8 ((i : Int) % 256))) 5)) wr.heap.size 5 ((mStr i).map B.u8v).toArray) := Lib.hid (by
        rw [← mStr_row, HN0.out, ← List.setIfInBounds_toArray, ← List.setIfInBounds_toArray]
        exact Row.new _ _ _)
      have HBA : Hid (Below w.heap.size w (wr.alloc (.cells ((N0.setIfInBounds 0 (.int .u8 ((i : Int) / 256))).setIfInBounds 1 (.int .u8 ((i : Int) % 256))) 5))) := Lib.hid (HB.out.alloc hsw _)
      have HOA : Hid ((wr.alloc (.cells ((N0.setIfInBounds 0 (.int .u8 ((i : Int) / 256))).setIfInBounds 1 (.int .u8 ((i : Int) % 256))) 5)).ownsRow w.heap.size 9 1 u1 i ((mS i).map Value.string)) := Lib.hid (HO.out.alloc _)
      go_upto_region 7 with fail
      clear k0 k1 f0 f1
      obtain ⟨w2, hw2⟩ : ∃ w2, wr.alloc (.cells ((N0.setIfInBounds 0 (.int .u8 ((i : Int) / 256))).setIfInBounds 1 (.int .u8 ((i : Int) % 256))) 5) = w2 := ⟨_, rfl⟩
      rw [hw2] at HR2 HBA HOA ⊢
      obtain ⟨H, hH⟩ : ∃ H, wr.heap.size = H := ⟨_, rfl⟩
      rw [hH] at HR2 ⊢
      clear hw2 hH HR0 HR1
      have hs2 := HBA.out.size
      have hcv : (convert 26 9 (.slice (some ⟨H, 0, none⟩) 256 256)).run Try.prog w2 = .ok (.string (bs (mStr i))) w2 := by
        have h := Sl.of_row HR2.out 256 (by rw [List.size_toArray, List.length_map, mStr_len]; exact Nat.le_refl _)
        rw [List.take_of_length_le (by rw [List.length_map, mStr_len]; exact Nat.le_refl _)] at h
        exact conv_sl (P := Try.prog) 26 5 9 Try.underlying26 Try.underlying5 Try.underlying9 h 256
      obtain ⟨T, hT⟩ : ∃ T, bs (mStr i) = T := ⟨_, rfl⟩
      rw [hT] at hcv
      have HT := Lib.hid hT
      clear hT
      go_upto_region 8 with (at_builtin; refine wpList_append_own _ rfl _ _ 22 rfl w.heap.size 9 ib _ 1 16 Try.underlying22 hib hb0z hb1z hb2z rfl (by decide) _ _ _ rfl (HOA.out.alloc _) ⟨w2.heap.size, 0, none⟩ 1 1 [_] rfl rfl (cell_one_new _ _ _) one_str (by unfold maxLen; omega) (by omega) (by simp; omega) ?_; intro v' w4 hown4 hgrow4 _)
      have HO4 := Lib.hid hown4
      have HB4 := Lib.hid (bel_app HBA.out (Nat.le_refl _) HOA.out hgrow4)
      clear hown4 hgrow4 hcv
      go_wp2
      go_roundw
      case rel => exact ⟨i + 1, by go_num, hlt, Lib.hid (by rw [mS_snoc, List.map_append, HT.out]; exact HO4.out), HB4⟩
      case measure => simp [intOf]; omega
    · have hb1 : decide ((i : Int) < 2100) = false := by simp; omega
      have hi2 : 2100 ≤ i := by omega
      obtain ⟨g, c, rfl, hc, hcm⟩ := own_some HO.out (by omega)
      have hS := Sl.of_own HO.out
      have hmi : i ≤ 20000 := by omega
      have HRF := Lib.hid (refused_any wr (some ⟨g, 0, none⟩) i c 2 (no_great wr (some ⟨g, 0, none⟩) i c (mS i) (by rw [mS_L (by omega)]; exact mL_good hmi) (by rw [mS_L (by omega)]; have := mL_wt i; omega) (by unfold maxLen; omega) (fun s h => by have := mS_size s h; unfold maxLen; omega) hS))
      have HS := Lib.hid hS
      have j1 : (2000 : Int) ≤ (c : Int) := by omega
      clear hS
      go_wp2_with fail
      refine HRF.out.mono ?_
      rintro e w1 ⟨rfl, hB1⟩
      have hS1 : Sl w1 w1.heap.size (some ⟨g, 0, none⟩) 2000 ((mS 2000).map Value.string) := by
        have h := sl_take ((HS.out.below hB1).more hB1.size) (show 2000 ≤ i by omega)
        rw [← List.map_take, mS_take (by omega)] at h
        exact h
      have HBD := Lib.hid (lwbuild_any w1 (some ⟨g, 0, none⟩) 2000 c (mS 2000) (mL 2000) (mS_L (by omega)) (mL_good (by omega)) (wt_small (mL_good (by omega)) (by rw [mL_len]; omega)) (by unfold maxLen; omega) (fun s h => by have := mS_size s h; unfold maxLen; omega) hS1)
      have HB1 := Lib.hid (HB.out.trans (hB1.mono HB.out.size))
      clear hB1 hS1
      go_wp2_with fail
      refine HBD.out.mono ?_
      rintro e w2 ⟨tb, ks, rfl, hT, hB2⟩
      have HB2 := Lib.hid (HB1.out.trans (hB2.mono HB1.out.size))
      clear hT hB2
      go_wp2
      go_ret
      exact ⟨rfl, HB2.out⟩
end Go.Proofs.Ytpnkjfjkeoleaaa.LD
