/- bitvec: Encode. -/
import Derived.Test.YtofeemmmdbdjdaaBvPut
import Derived.Deep.RegionHeld3
set_option linter.unusedVariables false
namespace Go.Proofs.Ytofeemmmdbdjdaa.B
open Go.RowKit HK

def wordsN (N m : Nat) : List Nat := (List.range m).map fun k => word N k
def cntsN (N m : Nat) : List Nat := (List.range m).map fun k => cnt N (512 * k)
theorem wordsN_map (N m : Nat) : (wordsN N m).map u64v = wordsL N m := by simp [wordsN, wordsL, u64v]
theorem cntsN_len (N m : Nat) : (cntsN N m).length = m := by simp [cntsN]
theorem cntsN_snoc (N m : Nat) : cntsN N (m + 1) = cntsN N m ++ [cnt N (512 * m)] := by simp [cntsN, List.range_succ]
/-- The code of a vector. -/
def bhead (n N : Nat) : List Nat := putL 4 [n] ++ putL 8 (wordsN N ((n + 63) / 64))
def bcode (n N : Nat) : List Nat := bhead n N ++ putL 4 (cntsN N (((n + 63) / 64 + 7) / 8))
theorem bhead_len (n N : Nat) : (bhead n N).length = 4 + 8 * ((n + 63) / 64) := by simp [bhead, putL_len, wordsN]
theorem bcode_len (n N : Nat) : (bcode n N).length = 4 + 8 * ((n + 63) / 64) + 4 * (((n + 63) / 64 + 7) / 8) := by simp [bcode, bhead_len, putL_len, cntsN]
theorem wrap_u64_small (n : Nat) (h : n ≤ 4611686018427387904) : IntKind.u64.wrap (n : Int) = (n : Int) := by rw [IntKind.wrap_u64]; omega

theorem putL_one (size x : Nat) : putL size [x] = bytesN x size := by simp [putL]
theorem bput_one (W : World) (base g : Nat) (o : Value) (M : Nat) (pre : List Nat) (size x : Nat) (hbase : base ≤ W.heap.size) (hsz : size ≤ 8) (hM : M ≤ 1073741824) (hr : Row W g 48 #[.int .u64 (x : Int)]) (ho : W.ownsRow base 5 1 o M (pre.map u8v)) :
    Calls Try.prog 30 #[o, .int .i64 size, .slice (some ⟨g, 0, none⟩) 1 1] W fun e w' => ∃ v, e = .returned v ∧ PutInv W w' base v (M + size) (pre ++ bytesN x size) := by
  have hs : Sl W W.heap.size (some ⟨g, 0, none⟩) 1 ([x].map u64v) := Sl.of_row hr 1 (Nat.le_refl _)
  have := bput_any W base o M pre size (some ⟨g, 0, none⟩) 1 1 [x] hbase hsz (by omega) hM ho hs (.inl (Nat.le_refl _))
  rwa [Nat.mul_one, putL_one] at this
theorem bput_four (W : World) (base g : Nat) (o : Value) (M : Nat) (pre : List Nat) (x : Nat) (hbase : base ≤ W.heap.size) (hM : M ≤ 1073741824) (hr : Row W g 48 #[.int .u64 (x : Int)]) (ho : W.ownsRow base 5 1 o M (pre.map u8v)) :
    Calls Try.prog 30 #[o, .int .i64 4, .slice (some ⟨g, 0, none⟩) 1 1] W fun e w' => ∃ v, e = .returned v ∧ PutInv W w' base v (M + 4) (pre ++ bytesN x 4) := bput_one W base g o M pre 4 x hbase (by omega) hM hr ho
theorem bput_words (W : World) (base : Nat) (o : Value) (M : Nat) (pre : List Nat) (A : Option Addr) (n c : Nat) (l : List Nat) (hbase : base ≤ W.heap.size) (hn : n ≤ 16384) (hM : M ≤ 1073741824)
    (ho : W.ownsRow base 5 1 o M (pre.map u8v)) (hs2 : Sl W base A n (l.map u64v)) :
    Calls Try.prog 30 #[o, .int .i64 8, .slice A n c] W fun e w' => ∃ v, e = .returned v ∧ PutInv W w' base v (M + 8 * n) (pre ++ putL 8 l) := bput_any W base o M pre 8 A n c l hbase (by omega) hn hM ho (hs2.more hbase) (.inr hs2)
theorem own_nil (W : World) (base : Nat) : W.ownsRow base 5 1 (.slice none 0 0) 0 (([] : List Nat).map u8v) := ⟨rfl, .inl ⟨rfl, rfl⟩⟩
theorem bel_al (w : World) (o : Obj) : Below w.heap.size w (w.alloc o).drew := ((Below.refl _ _).alloc (Nat.le_refl _) _).drew
theorem Sl.toB {w : World} {S E : Nat} {A : Option Addr} {n : Nat} {xs : List Value} (h : SlR w S E A n xs) {B : Nat} (hB : E ≤ B) {w' : World} (hb : Below B w w') : Sl w' B A n xs := (h.sl.more hB).below hb

set_option maxHeartbeats 2000000 in
theorem benc_any (w : World) (S E b n N : Nat) (h : Bv w S E b n N) (hE : E ≤ w.heap.size) :
    Calls Try.prog 23 #[.pointer (some ⟨b, 0, none⟩)] w fun e w' => ∃ v, e = .returned v ∧ PutInv w w' w.heap.size v (4 + 8 * ((n + 63) / 64) + 4 * (((n + 63) / 64 + 7) / 8)) (bcode n N) := by
  obtain ⟨hn, h2, h3, h4, A1, c1, A2, c2, hr, hw, hc⟩ := h
  have hc0 : w.cell? ⟨b, 0, none⟩ = some (.int .i64 n) := hr.cell 0
  have hc1 : w.cell? ⟨b, 1, none⟩ = some (.slice A1 ((n + 63) / 64) c1) := hr.cell 1
  have hc2 : w.cell? ⟨b, 2, none⟩ = some (.slice A2 (((n + 63) / 64 + 7) / 8) c2) := hr.cell 2
  have hb : b < w.heap.size := hr.lt
  have hu : IntKind.u64.wrap (n : Int) = (n : Int) := wrap_u64_small n (by omega)
  have HW := Lib.hid hw; clear hw h2 hr
  have HC := Lib.hid hc; clear hc
  go_enter Try.func23, Try.ntmps23
  go_wp2_with fail
  go_region_held3 (fun w' => w'.cell? ⟨b, 0, none⟩ = some (.int .i64 n) ∧ w'.cell? ⟨b, 1, none⟩ = some (.slice A1 ((n + 63) / 64) c1))
    (first
      | go_keep
      | (exact ⟨(hB2.cell (p := ⟨b, 0, none⟩) hb).trans hc0, (hB2.cell (p := ⟨b, 1, none⟩) hb).trans hc1⟩)
      | (exact ⟨(hB1.cell (p := ⟨b, 0, none⟩) hb).trans hc0, (hB1.cell (p := ⟨b, 1, none⟩) hb).trans hc1⟩))
    (first
      | (go_at_call_of 30 (Value.int IntKind.i64 4); refine (bput_four _ w.heap.size w.heap.size (.slice none 0 0) 0 [] n (bel_al _ _).size (by omega) (Row.new w _ _).drew (own_nil _ _)).mono ?_; rintro e w1 ⟨v1, rfl, hP1⟩; have hB1 := (bel_al w _).trans hP1.2; have HP1 := Lib.hid hP1; clear hP1; have HB1 := Lib.hid hB1)
      | (go_at_call_of 30 (Value.int IntKind.i64 8); refine (bput_words _ w.heap.size v1 (0 + 4) ([] ++ bytesN n 4) A1 ((n + 63) / 64) c1 (wordsN N ((n + 63) / 64)) HB1.out.size (by omega) (by omega) HP1.out.1 (by rw [wordsN_map]; exact Sl.toB HW.out hE HB1.out)).mono ?_; rintro e w2 ⟨v2, rfl, hP2⟩; have hB2 := HB1.out.trans hP2.2; have HP2 := Lib.hid hP2; clear hP2; have HB2 := Lib.hid hB2))
  have hd2 : w2.cell? ⟨b, 2, none⟩ = some (.slice A2 (((n + 63) / 64 + 7) / 8) c2) := (HB2.out.cell (p := ⟨b, 2, none⟩) hb).trans hc2
  have hI : Hid (PutInv w w2 w.heap.size v2 (4 + 8 * ((n + 63) / 64)) (bhead n N)) := Lib.hid ⟨by
    have h1 := HP2.out.1
    rw [show 0 + 4 + 8 * ((n + 63) / 64) = 4 + 8 * ((n + 63) / 64) by omega, List.nil_append, ← putL_one] at h1
    exact h1, HB2.out⟩
  clear hc0 hc1 hc2 hB1 hB2
  go_wp2
  clear hd2
  go_loopw [3, 25] (fun o i wr => ∃ k : Nat, k ≤ ((n + 63) / 64 + 7) / 8 ∧ i = .int .i64 k ∧ PutInv w wr w.heap.size o (4 + 8 * ((n + 63) / 64) + 4 * k) (bhead n N ++ putL 4 (cntsN N k))) (fun _ i _ => ((n + 63) / 64 + 7) / 8 - (intOf i).toNat)
  case atStart => exact ⟨0, Nat.zero_le _, rfl, by simpa [putL, cntsN] using hI.out⟩
  case round =>
    obtain ⟨k, hk, rfl, hown, hB⟩ := hrel
    by_cases hlt : k < ((n + 63) / 64 + 7) / 8
    · obtain ⟨g, off, u, rfl, hg, hu2, hcc⟩ := (Sl.toB HC.out hE hB).at_ hlt
      rw [cntsL_at N _ k hlt] at hu2
      obtain rfl : Value.int .i64 (cnt N (512 * k)) = u := by injection hu2
      have hcb : cnt N (512 * k) ≤ 512 * k := cnt_le _ _
      have hcu : IntKind.u64.wrap ((cnt N (512 * k) : Nat) : Int) = ((cnt N (512 * k) : Nat) : Int) := wrap_u64_small _ (by omega)
      have hBs := hB.size
      have HBB := Lib.hid hB; clear hB
      have HOO := Lib.hid hown; clear hown
      go_wp2_with fail
      refine (bput_four _ w.heap.size wr.heap.size _ (4 + 8 * ((n + 63) / 64) + 4 * k) (bhead n N ++ putL 4 (cntsN N k)) (cnt N (512 * k)) (by simp; omega) (by omega) (Row.new wr _ _) (HOO.out.alloc _)).mono ?_
      rintro e w3 ⟨v3, rfl, hP3⟩
      have HP3 := Lib.hid hP3; clear hP3
      go_wp2
      go_roundw
      case rel =>
        refine ⟨k + 1, by omega, by go_num, ?_, ?_⟩
        · rw [cntsN_snoc, putL_snoc, ← List.append_assoc]
          exact HP3.out.1
        · exact (HBB.out.alloc hBs _).trans HP3.out.2
      case measure => simp [intOf]; omega
    · obtain rfl : k = ((n + 63) / 64 + 7) / 8 := by omega
      go_wp2
      go_ret
      exact ⟨_, rfl, hown, hB⟩
end Go.Proofs.Ytofeemmmdbdjdaa.B
