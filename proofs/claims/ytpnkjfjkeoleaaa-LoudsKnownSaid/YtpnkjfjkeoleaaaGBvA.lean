/- GBvA: several texts in one: math/bits.OnesCount64. bitvec: the words of a vector in memory. bitvec: Len, count. bitvec: New. A string as a slice of bytes: []byte(s). Conditions: those each theorem names. -/
import Derived.Test.YtpnkjfjkeoleaaaProg
import Derived.Test.YtpnkjfjkeoleaaaBvPlain
import Derived.Test.YtpnkjfjkeoleaaaGMem
import Derived.WalkKit
import Derived.Outline
import Derived.WalkSpells
import Derived.WalkLawsBesides
import Derived.Deep.QuietTactic
import Derived.BigQuiet
import Derived.Laws.BitsAllLaws
import Derived.Lib.Hide
import Derived.Deep.OwnRows
import Derived.RegionTactic
import Derived.Laws.IdiomStrings
/-! math/bits.OnesCount64. -/
set_option linter.unusedVariables false
set_option maxRecDepth 100000
namespace Go.Proofs.Ytpnkjfjkeoleaaa
open Go.RowKit HK

theorem dvp (x s : Nat) : (x : Int) / 2 ^ s = ((x / 2 ^ s : Nat) : Int) := by simp
theorem oc_and (x : Nat) (m : Nat) (hx : x < 2 ^ 64) (hm : m < 2 ^ 64) : bits .and .u64 (x : Int) (m : Int) = ((x &&& m : Nat) : Int) := u64_and_nat x m hx hm
theorem oc1 (x : Nat) (hx : x < 2 ^ 64) : IntKind.u64.wrap (bits .and .u64 ((x : Int) / 2) 6148914691236517205 + bits .and .u64 (x : Int) 6148914691236517205) = ((sw1 x : Nat) : Int) := by
  have e1 : (x : Int) / 2 = ((x / 2 : Nat) : Int) := by omega
  have h := (swar_all x hx).2.1
  rw [e1]
  have a1 : bits .and .u64 ((x / 2 : Nat) : Int) 6148914691236517205 = ((x / 2 &&& 6148914691236517205 : Nat) : Int) := oc_and (x / 2) 6148914691236517205 (by omega) (by decide)
  have a2 : bits .and .u64 (x : Int) 6148914691236517205 = ((x &&& 6148914691236517205 : Nat) : Int) := oc_and x 6148914691236517205 hx (by decide)
  rw [a1, a2, IntKind.wrap_u64]
  unfold sw1 at h ⊢
  generalize x / 2 &&& 6148914691236517205 = p at *
  generalize x &&& 6148914691236517205 = q at *
  omega
theorem oc2 (y : Nat) (hy : y < 2 ^ 64) (h : sw2 y < 2 ^ 63) : IntKind.u64.wrap (bits .and .u64 ((y : Int) / 4) 3689348814741910323 + bits .and .u64 (y : Int) 3689348814741910323) = ((sw2 y : Nat) : Int) := by
  have e1 : (y : Int) / 4 = ((y / 4 : Nat) : Int) := by omega
  rw [e1]
  have a1 : bits .and .u64 ((y / 4 : Nat) : Int) 3689348814741910323 = ((y / 4 &&& 3689348814741910323 : Nat) : Int) := oc_and (y / 4) 3689348814741910323 (by omega) (by decide)
  have a2 : bits .and .u64 (y : Int) 3689348814741910323 = ((y &&& 3689348814741910323 : Nat) : Int) := oc_and y 3689348814741910323 hy (by decide)
  rw [a1, a2, IntKind.wrap_u64]
  unfold sw2 at h ⊢
  generalize y / 4 &&& 3689348814741910323 = p at *
  generalize y &&& 3689348814741910323 = q at *
  omega
theorem oc3 (y : Nat) (hy : y < 2 ^ 63) : bits .and .u64 (IntKind.u64.wrap ((y : Int) / 16 + (y : Int))) 1085102592571150095 = ((sw3 y : Nat) : Int) := by
  have e1 : IntKind.u64.wrap ((y : Int) / 16 + (y : Int)) = ((y / 16 + y : Nat) : Int) := by rw [IntKind.wrap_u64]; omega
  rw [e1]
  have a1 : bits .and .u64 ((y / 16 + y : Nat) : Int) 1085102592571150095 = (((y / 16 + y) &&& 1085102592571150095 : Nat) : Int) := oc_and (y / 16 + y) 1085102592571150095 (by omega) (by decide)
  rw [a1]; rfl
theorem oc4 (y : Nat) (hy : y < 2 ^ 60) : IntKind.u64.wrap ((y : Int) + (y : Int) / 256) = ((sw4 y : Nat) : Int) := by rw [IntKind.wrap_u64]; unfold sw4; omega
theorem oc5 (y : Nat) (hy : y < 2 ^ 61) : IntKind.u64.wrap ((y : Int) + (y : Int) / 65536) = ((sw5 y : Nat) : Int) := by rw [IntKind.wrap_u64]; unfold sw5; omega
theorem oc6 (y : Nat) (hy : y < 2 ^ 62) : IntKind.u64.wrap ((y : Int) + (y : Int) / 4294967296) = ((sw6 y : Nat) : Int) := by rw [IntKind.wrap_u64]; unfold sw6; omega
theorem ofInt_i64m (a : Nat) (ha : a < 9223372036854775808) : (BitVec.ofInt 64 (a : Int)).toNat = a := by
  rw [BitVec.ofInt_natCast, BitVec.toNat_ofNat]; exact Nat.mod_eq_of_lt (by omega)
theorem oc7 (y : Nat) (hy : y < 2 ^ 63) : bits .and .i64 (wrap64 (y : Int)) 127 = ((y % 128 : Nat) : Int) := by
  have e1 : wrap64 (y : Int) = (y : Int) := IntWalk.wrap64_in _ ⟨by omega, by omega⟩
  rw [e1]
  have hx : y &&& 127 < 2 ^ 63 := Nat.and_lt_two_pow _ (by decide)
  show IntKind.i64.wrap ((BitVec.ofInt 64 (y : Int) &&& BitVec.ofInt 64 ((127 : Nat) : Int)).toNat : Int) = _
  rw [BitVec.toNat_and, ofInt_i64m y (by omega), ofInt_i64m 127 (by decide), IntKind.wrap_i64]
  have e2 : y &&& 127 = y % 128 := Nat.and_two_pow_sub_one_eq_mod y 7
  rw [e2]
  omega

set_option maxHeartbeats 1000000 in
theorem ones_any (x : Nat) (w : World) (hx : x < 2 ^ 64) : Calls Try.prog 78 #[.int .u64 (x : Int)] w fun e w' => e = .returned (.int .i64 (cnt x 64)) ∧ w = w' := by
  obtain ⟨h0, b1, b2, b3, b4, b5, b6⟩ := swar_all x hx
  have q1 := oc1 x hx
  obtain ⟨y1, hy1⟩ : ∃ y, sw1 x = y := ⟨_, rfl⟩
  rw [hy1] at q1 h0 b1 b2 b3 b4 b5 b6
  have q2 := oc2 y1 b1 b2
  obtain ⟨y2, hy2⟩ : ∃ y, sw2 y1 = y := ⟨_, rfl⟩
  rw [hy2] at q2 h0 b2 b3 b4 b5 b6
  have q3 := oc3 y2 b2
  obtain ⟨y3, hy3⟩ : ∃ y, sw3 y2 = y := ⟨_, rfl⟩
  rw [hy3] at q3 h0 b3 b4 b5 b6
  have q4 := oc4 y3 b3
  obtain ⟨y4, hy4⟩ : ∃ y, sw4 y3 = y := ⟨_, rfl⟩
  rw [hy4] at q4 h0 b4 b5 b6
  have q5 := oc5 y4 b4
  obtain ⟨y5, hy5⟩ : ∃ y, sw5 y4 = y := ⟨_, rfl⟩
  rw [hy5] at q5 h0 b5 b6
  have q6 := oc6 y5 b5
  obtain ⟨y6, hy6⟩ : ∃ y, sw6 y5 = y := ⟨_, rfl⟩
  rw [hy6] at q6 h0 b6
  have q7 := oc7 y6 b6
  rw [h0] at q7
  clear h0 b1 b2 b3 b4 b5 b6 hy1 hy2 hy3 hy4 hy5 hy6 hx
  go_enter Try.func78, Try.ntmps78
  go_wp2
  go_ret
  exact ⟨rfl, rfl⟩
end Go.Proofs.Ytpnkjfjkeoleaaa

/-! bitvec: the words of a vector in memory. -/
set_option linter.unusedVariables false
namespace Go.Proofs.Ytpnkjfjkeoleaaa.B
open Go.RowKit HK

theorem infoU64 : (Try.prog.info? 87).map (fun i => (i.zero, i.size, i.bytes)) = some (some (.int .u64 0), 1, 8) := by kernel_rfl
theorem infoInt : (Try.prog.info? 3).map (fun i => (i.zero, i.size, i.bytes)) = some (some (.int .i64 0), 1, 8) := by kernel_rfl
theorem infoU8 : (Try.prog.info? 5).map (fun i => (i.zero, i.size, i.bytes)) = some (some (.int .u8 0), 1, 1) := by kernel_rfl
theorem infoBool : (Try.prog.info? 4).map (fun i => (i.zero, i.size, i.bytes)) = some (some (.bool false), 1, 1) := by kernel_rfl

/-- The words of a number, as cells. -/
def wordsL (N m : Nat) : List Value := (List.range m).map fun k => Value.int .u64 (word N k)
def wordsA (N m : Nat) : Array Value := (wordsL N m).toArray
theorem wordsL_len (N m : Nat) : (wordsL N m).length = m := by simp [wordsL]
theorem wordsL_at (N m k : Nat) (h : k < m) : (wordsL N m)[k]? = some (.int .u64 (word N k)) := by simp [wordsL, h]
theorem wordsL_snoc (N m : Nat) : wordsL N (m + 1) = wordsL N m ++ [.int .u64 (word N m)] := by simp [wordsL, List.range_succ]
theorem wordsA_size (N m : Nat) : (wordsA N m).size = m := by simp [wordsA, wordsL_len]
theorem wordsA_at (N m k : Nat) (h : k < m) : (wordsA N m)[k]? = some (.int .u64 (word N k)) := by simp [wordsA, wordsL, h]
theorem wordsA_ext (a : Array Value) (N m : Nat) (hs : a.size = m) (h : ∀ k, k < m → a[k]? = some (.int .u64 (word N k))) : a = wordsA N m := by
  apply Array.ext_getElem?
  intro k
  by_cases hk : k < m
  · rw [h k hk, wordsA_at N m k hk]
  · rw [Array.getElem?_eq_none (by omega), Array.getElem?_eq_none (by rw [wordsA_size]; omega)]
theorem made_words (m : Nat) : madeCells #[Value.int .u64 0] m = wordsA 0 m := by
  apply wordsA_ext
  · exact size_madeCells _ _
  · intro k hk
    simp [madeCells, hk, Nat.mod_one, word]
/-- The counts before the groups. -/
def cntsL (N j : Nat) : List Value := (List.range j).map fun k => Value.int .i64 (cnt N (512 * k))
theorem cntsL_len (N j : Nat) : (cntsL N j).length = j := by simp [cntsL]
theorem cntsL_at (N j k : Nat) (h : k < j) : (cntsL N j)[k]? = some (.int .i64 (cnt N (512 * k))) := by simp [cntsL, h]
theorem cntsL_snoc (N j : Nat) : cntsL N (j + 1) = cntsL N j ++ [.int .i64 (cnt N (512 * j))] := by simp [cntsL, List.range_succ]

/-- A slice in blocks other than b. -/
def SlX (w : World) (b : Nat) (A : Option Addr) (n : Nat) (xs : List Value) : Prop :=
  xs.length = n ∧ (0 < n → ∃ g off, A = some ⟨g, off, none⟩ ∧ g < w.heap.size ∧ g ≠ b ∧ ∀ j u, xs[j]? = some u → w.cell? ⟨g, off + j, none⟩ = some u)
theorem SlX.grown {w w' : World} {b : Nat} {A : Option Addr} {n : Nat} {xs : List Value} (h : SlX w b A n xs) (hg : w.grownBy w' (some b)) : SlX w' b A n xs :=
  ⟨h.1, fun hn => by
    obtain ⟨g, off, e, h1, h2, hc⟩ := h.2 hn
    exact ⟨g, off, e, Nat.lt_of_lt_of_le h1 hg.size, h2, fun j u hu => (World.cell?_of_block (a := ⟨g, off + j, none⟩) (hg.block g h1 (fun e => h2 (by injection e)))).trans (hc j u hu)⟩⟩
theorem SlX.at_ {w : World} {b : Nat} {A : Option Addr} {n k : Nat} {xs : List Value} (h : SlX w b A n xs) (hk : k < n) : ∃ g off u, A = some ⟨g, off, none⟩ ∧ g < w.heap.size ∧ xs[k]? = some u ∧ w.cell? ⟨g, off + k, none⟩ = some u := by
  obtain ⟨g, off, e, h1, h2, hc⟩ := h.2 (by omega)
  have hl : k < xs.length := by have := h.1; omega
  exact ⟨g, off, xs[k], e, h1, List.getElem?_eq_getElem hl, hc k _ (List.getElem?_eq_getElem hl)⟩

/-- A vector of n bits, the bits of N, in the blocks from S on and below E. -/
def Bv (w : World) (S E b n N : Nat) : Prop :=
  n ≤ 1048576 ∧ N < 2 ^ n ∧ S ≤ b ∧ b < E ∧ ∃ A1 c1 A2 c2, Row w b 106 #[.int .i64 n, .slice A1 ((n + 63) / 64) c1, .slice A2 (((n + 63) / 64 + 7) / 8) c2] ∧
    SlR w S E A1 ((n + 63) / 64) (wordsL N ((n + 63) / 64)) ∧ SlR w S E A2 (((n + 63) / 64 + 7) / 8) (cntsL N (((n + 63) / 64 + 7) / 8))
theorem Bv.agree {w w' : World} {S E b n N : Nat} (h : Bv w S E b n N) (ha : Agree S E w w') : Bv w' S E b n N := by
  obtain ⟨h1, h2, h3, h4, A1, c1, A2, c2, hr, hw, hc⟩ := h
  exact ⟨h1, h2, h3, h4, A1, c1, A2, c2, hr.agree ha h3 h4, hw.agree ha, hc.agree ha⟩
theorem Bv.drewN {w : World} {S E b n N : Nat} (h : Bv w S E b n N) (k : Nat) : Bv (w.drewN k) S E b n N := h
theorem Bv.mono {w : World} {S S' E E' b n N : Nat} (h : Bv w S E b n N) (hS : S' ≤ S) (hE : E ≤ E') : Bv w S' E' b n N := by
  obtain ⟨h1, h2, h3, h4, A1, c1, A2, c2, hr, hw, hc⟩ := h
  exact ⟨h1, h2, by omega, by omega, A1, c1, A2, c2, hr, hw.mono hS hE, hc.mono hS hE⟩
theorem Bv.lt {w : World} {S E b n N : Nat} (h : Bv w S E b n N) : b < w.heap.size := by
  obtain ⟨h1, h2, h3, h4, A1, c1, A2, c2, hr, hw, hc⟩ := h
  exact hr.lt
/-- What is true before a place, of either kind. -/
def rk (N : Nat) (b : Bool) (a : Nat) : Nat := if b then cnt N a else a - cnt N a
def clamp (i : Int) (n : Nat) : Nat := (max 0 (min i (n : Int))).toNat
end Go.Proofs.Ytpnkjfjkeoleaaa.B

/-! bitvec: Len, count. -/
set_option linter.unusedVariables false
namespace Go.Proofs.Ytpnkjfjkeoleaaa.B
open Go.RowKit HK

theorem blen_any (w : World) (b : Nat) (n : Int) (hc : w.cell? ⟨b, 0, none⟩ = some (.int .i64 n)) :
    Calls Try.prog 71 #[.pointer (some ⟨b, 0, none⟩)] w fun e w' => e = .returned (.int .i64 n) ∧ w' = w := by
  go_enter Try.func71, Try.ntmps71
  go_wp2
  go_ret
  exact ⟨rfl, rfl⟩
theorem blen_nil (w : World) : Calls Try.prog 71 #[.pointer none] w fun e w' => e = .returned (.int .i64 0) ∧ w' = w := by
  go_enter Try.func71, Try.ntmps71
  go_wp2
  go_ret
  exact ⟨rfl, rfl⟩

theorem _root_.Go.World.grownBy.trans_put {w wr w1 : World} {b n : Nat} {e : TypeId} {o : Obj} {v u : Value} {xs : List Value} (h : w.grownBy wr (some b)) (hown : wr.ownsRow w.heap.size e 1 v n xs) (hb : b < w.heap.size) (hg : (wr.alloc o).grownBy w1 v.ownBlock) {i : Nat} :
    w.grownBy (w1.setCell ⟨b, i, none⟩ u) (some b) := by
  refine ⟨hg.os.trans h.os, hg.tape.trans h.tape, hg.output.trans h.output, ?_, fun k hk hne => ?_⟩
  · have h1 := hg.size; have h2 := h.size
    simp [World.setCell] at h1 ⊢
    omega
  · have h2 := h.size
    rw [Below.heap_setCell w1 _ _ k (fun e => hne (by rw [e])), hg.block k (by simp; omega) (fun e => by have := (hown.lt k e.symm).1; omega), Below.heap_alloc wr o k (by omega)]
    exact h.block k hk hne
theorem grown_put {w w1 : World} {b : Nat} {row : Option Nat} (h : w.grownBy w1 row) (hr : ∀ k, row = some k → w.heap.size ≤ k) (i : Nat) (u : Value) : w.grownBy (w1.setCell ⟨b, i, none⟩ u) (some b) :=
  ⟨h.os, h.tape, h.output, by simpa [World.setCell] using h.size, fun k hk hne => (Below.heap_setCell w1 _ _ k (fun e => hne (by rw [e]))).trans (h.block k hk (fun e => by have := hr k e.symm; omega))⟩

def CntPost (w : World) (b n m c1 : Nat) (A1 : Option Addr) (N k : Nat) (wr : World) : Prop :=
  ∃ A2 c2, Row wr b 106 #[.int .i64 n, .slice A1 m c1, .slice A2 ((k + 7) / 8) c2] ∧ wr.ownsRow w.heap.size 3 1 (.slice A2 ((k + 7) / 8) c2) ((k + 7) / 8) (cntsL N ((k + 7) / 8)) ∧ w.grownBy wr (some b)

set_option maxHeartbeats 1000000 in
theorem bcount_any (w : World) (b n m c1 : Nat) (A1 : Option Addr) (N : Nat) (hm : m ≤ 16384) (hr : Row w b 106 #[.int .i64 n, .slice A1 m c1, .slice none 0 0]) (hs : SlX w b A1 m (wordsL N m)) :
    Calls Try.prog 68 #[.pointer (some ⟨b, 0, none⟩)] w fun e w' => e = .returned (.tuple #[]) ∧ CntPost w b n m c1 A1 N m w' := by
  have hc1 : w.cell? ⟨b, 1, none⟩ = some (.slice A1 m c1) := hr.cell 1
  have hb : b < w.heap.size := hr.lt
  have HR := Lib.hid hr; clear hr
  have HS := Lib.hid hs; clear hs
  obtain ⟨i0, hi, hz0, hz1, hz2⟩ := info_parts infoInt
  go_enter Try.func68, Try.ntmps68
  go_wp2
  clear hc1
  go_loopw [2, 10] (fun a i wr => ∃ k : Nat, k ≤ m ∧ i = .int .i64 k ∧ a = .int .i64 (cnt N (64 * k) : Nat) ∧ CntPost w b n m c1 A1 N k wr) (fun _ i _ => m - (intOf i).toNat)
  case atStart => exact ⟨0, Nat.zero_le _, rfl, rfl, none, 0, HR.out, ⟨rfl, .inl ⟨rfl, rfl⟩⟩, World.grownBy.refl _ _⟩
  case round =>
    obtain ⟨k, hk, rfl, rfl, hP⟩ := hrel
    have hcb : cnt N (64 * k) ≤ 64 * k := cnt_le _ _
    by_cases hlt : k < m
    · obtain ⟨A2, c2, hrow, hown, hgr⟩ := hP
      obtain ⟨g, off, u, rfl, hg, hu, hc⟩ := (HS.out.grown hgr).at_ hlt
      rw [wordsL_at N m k hlt] at hu
      obtain rfl : Value.int .u64 (word N k) = u := by injection hu
      have HG := Lib.hid hgr; clear hgr
      have hones := Lib.hid (ones_any (word N k))
      have hadd : Hid (cnt N (64 * k) + cnt (word N k) 64 = cnt N (64 * (k + 1))) := Lib.hid (by rw [cnt_word N k 64 (Nat.le_refl _), Nat.mul_succ])
      have hc64 : cnt (word N k) 64 ≤ 64 := cnt_le _ _
      by_cases h8 : k % 8 = 0
      · have hb8 : ((k : Int) % 8 == 0) = true := by simp; omega
        have hself : ∀ q, (Value.slice A2 ((k + 7) / 8) c2).ownBlock = some q → w.heap.size ≤ q := fun q e => (hown.lt q e).1
        have hd2 : wr.cell? ⟨b, 2, none⟩ = some (.slice A2 ((k + 7) / 8) c2) := hrow.cell 2
        have hsz : w.heap.size ≤ wr.heap.size := HG.out.size
        have hfr : wr.frozen? ⟨b, 2, none⟩ = false := hrow.frozen 2
        have HW := Lib.hid hrow; clear hrow
        have HO := Lib.hid hown; clear hown
        have hkl : (k + 7) / 8 + 1 ≤ maxLen := by unfold maxLen; omega
        go_wp2_with (at_builtin; refine wpList_append_own _ rfl _ _ 31 rfl w.heap.size 3 i0 (.int .i64 0) 1 8 Try.underlying31 hi hz0 hz1 hz2 rfl (by decide) _ _ _ rfl (HO.out.alloc _) ⟨wr.heap.size, 0, none⟩ 1 1 [_] rfl rfl (cell_one_new _ _ _) one_oneCell (by unfold maxLen; omega) (by omega) (by simp; omega) ?_; intro v' w1 hown1 hgrow1 _;
                          obtain ⟨A3, c3, rfl, -, -⟩ := own_shape hown1;
                          have hrow1 := (HW.out.alloc _).grown hgrow1 (fun e => by have := hself b e.symm; omega);
                          have hcell1 : w1.cell? ⟨b, 2, none⟩ = some (.slice A2 ((k + 7) / 8) c2) := hrow1.cell 2;
                          have hfr1 := hrow1.frozen 2;
                          have HO1 := Lib.hid hown1; clear hown1;
                          have HW1 := Lib.hid hrow1; clear hrow1;
                          have HG1 := Lib.hid hgrow1; clear hgrow1)
        refine (hones.out _ (word_lt _ _)).mono ?_
        rintro e w' ⟨rfl, rfl⟩
        go_wp2
        go_roundw
        case rel =>
          have e8 : (k + 1 + 7) / 8 = (k + 7) / 8 + 1 := by omega
          refine ⟨k + 1, by omega, by go_num, by rw [← hadd.out]; go_num, A3, c3, ?_, ?_, ?_⟩
          · rw [e8]
            exact HW1.out.put 2 _
          · rw [e8, cntsL_snoc, show 512 * ((k + 7) / 8) = 64 * k by omega]
            exact ownsRow_setCell_below HO1.out hb _
          · exact (HG.out).trans_put HO.out hb HG1.out
        case measure => simp [intOf]; omega
      · have hb8 : ((k : Int) % 8 == 0) = false := by simp; omega
        have HW := Lib.hid hrow; clear hrow
        have HO := Lib.hid hown; clear hown
        go_wp2_with (fail)
        refine (hones.out _ (word_lt _ _)).mono ?_
        rintro e w' ⟨rfl, rfl⟩
        go_wp2
        go_roundw
        case rel =>
          have e8 : (k + 1 + 7) / 8 = (k + 7) / 8 := by omega
          refine ⟨k + 1, by omega, by go_num, by rw [← hadd.out]; go_num, A2, c2, ?_, ?_, ?_⟩
          · rw [e8]
            exact HW.out
          · rw [e8]
            exact HO.out
          · exact HG.out
        case measure => simp [intOf]; omega
    · obtain rfl : k = m := by omega
      go_wp2
      go_end0
      exact ⟨rfl, hP⟩
end Go.Proofs.Ytpnkjfjkeoleaaa.B

/-! bitvec: New. -/
set_option linter.unusedVariables false
namespace Go.Proofs.Ytpnkjfjkeoleaaa.B
open Go.RowKit HK

theorem at_bool {l : List Bool} {k : Nat} {u : Value} (h : (l.map Value.bool)[k]? = some u) : ∃ v, l[k]? = some v ∧ u = .bool v := by
  rw [List.getElem?_map] at h
  obtain ⟨v, hv, rfl⟩ := Option.map_eq_some_iff.1 h
  exact ⟨v, hv, rfl⟩
theorem take_snoc_b {α : Type} (l : List α) (k : Nat) (v : α) (h : l[k]? = some v) : l.take (k + 1) = l.take k ++ [v] := by
  rw [List.take_add_one, h]; rfl
theorem bits_take_lt (l : List Bool) (k : Nat) : bitsN (l.take k) < 2 ^ k :=
  Nat.lt_of_lt_of_le (bitsN_lt _) (Nat.pow_le_pow_right (by decide) (by simp; omega))
theorem words_put (N n m k : Nat) (hN : N < 2 ^ k) (hk : k < 64 * m) : (wordsA N m).setIfInBounds (k / 64) (.int .u64 ((word N (k / 64) ||| 1 * 2 ^ (k % 64) % 2 ^ 64 : Nat) : Int)) = wordsA (N + 2 ^ k * 1) m := by
  apply wordsA_ext
  · simp [wordsA_size]
  · intro j hj
    rw [Array.getElem?_setIfInBounds]
    by_cases hkk : k / 64 = j
    · subst hkk; simp only [wordsA_size, hj, if_true, word_set_at N 1 k hN]
    · rw [if_neg hkk, wordsA_at N _ _ hj, word_set_other N 1 k 1 j hN (by decide) (by decide) (fun e => hkk e.symm) (fun e => by omega)]
theorem or_bit (x s : Nat) (hx : x < 2 ^ 64) : bits .or .u64 (x : Int) (IntKind.u64.wrap ((1 : Int) * 2 ^ s)) = ((x ||| 1 * 2 ^ s % 2 ^ 64 : Nat) : Int) := by
  have e : IntKind.u64.wrap ((1 : Int) * 2 ^ s) = ((1 * 2 ^ s % 2 ^ 64 : Nat) : Int) := by rw [IntKind.wrap_u64]; simp
  rw [e, u64_or_nat _ _ hx (Nat.mod_lt _ (by decide))]
theorem or_bit' (x s : Nat) (hx : x < 2 ^ 64) : bits .or .u64 (x : Int) (IntKind.u64.wrap ((2 : Int) ^ s)) = ((x ||| 1 * 2 ^ s % 2 ^ 64 : Nat) : Int) := by
  rw [← or_bit x s hx, Int.one_mul]

/-- Half way through New. -/
def Half (w wr : World) (n k : Nat) (l : List Bool) : Prop :=
  Row wr w.heap.size 87 (wordsA (bitsN (l.take k)) ((n + 63) / 64)) ∧ Row wr (w.heap.size + 1) 106 #[.int .i64 n, .slice (some ⟨w.heap.size, 0, none⟩) ((n + 63) / 64) ((n + 63) / 64), .slice none 0 0] ∧ Below w.heap.size w wr

set_option maxHeartbeats 1000000 in
theorem bnew_any (w : World) (A : Option Addr) (n c : Nat) (l : List Bool) (hn : n ≤ 1048576) (hs : Sl w w.heap.size A n (l.map Value.bool)) :
    Calls Try.prog 51 #[.slice A n c] w fun e w' => ∃ b, e = .returned (.tuple #[.pointer (some ⟨b, 0, none⟩), .int .i64 0]) ∧ Bv w' w.heap.size w'.heap.size b n (bitsN l) ∧ Below w.heap.size w w' := by
  have hlen : Hid (l.length = n) := Lib.hid (by have := hs.1; simpa using this)
  have hnb : decide ((1048576 : Int) < (n : Int)) = false := by simp; omega
  have HS := Lib.hid hs; clear hs
  have hmk := run_make_row' (P := Try.prog) 80 87 (.int .u64 0) 8 Try.underlying80 infoU64 rfl .i64 .i64 ((n + 63) / 64) (by omega) (by omega)
  have ec : (((n + 63) / 64 : Nat) : Int) = ((n : Int) + 63) / 64 := by omega
  rw [ec, made_words] at hmk
  clear ec
  go_enter Try.func51, Try.ntmps51
  go_wp2
  clear hmk
  go_loopw [21] (fun i wr => ∃ k : Nat, k ≤ n ∧ i = .int .i64 k ∧ Half w wr n k l) (fun i _ => n - (intOf i).toNat)
  case atStart => exact ⟨0, Nat.zero_le _, rfl, Row.alloc (Row.new w _ _) _, Row.new2 w _ _ _, ((Below.refl _ _).alloc (Nat.le_refl _) _).alloc (by simp) _⟩
  case round =>
    obtain ⟨k, hk, rfl, hH⟩ := hrel
    by_cases hlt : k < n
    · obtain ⟨b, off, u, rfl, hb, hu, hc⟩ := (HS.out.below hH.2.2).at_ hlt
      obtain ⟨v, hv, rfl⟩ := at_bool hu
      have HVV := Lib.hid hv; clear hv hu
      have htl : Hid ((l.take k).length = k) := Lib.hid (by rw [List.length_take, hlen.out]; omega)
      cases v with
      | false =>
        have HH := Lib.hid hH; clear hH
        go_wp2
        go_roundw
        case rel =>
          refine ⟨k + 1, by omega, by go_num, ?_⟩
          have h := HH.out
          unfold Half at h ⊢
          rw [take_snoc_b l k _ HVV.out, bitsN_snoc, htl.out]
          simpa using h
        case measure => simp [intOf]; omega
      | true =>
        have hc1 : wr.cell? ⟨w.heap.size + 1, 1, none⟩ = some (.slice (some ⟨w.heap.size, 0, none⟩) ((n + 63) / 64) ((n + 63) / 64)) := hH.2.1.cell 1
        have hx : wr.cell? ⟨w.heap.size, k / 64, none⟩ = some (.int .u64 (word (bitsN (l.take k)) (k / 64))) := (hH.1.cell (k / 64)).trans (wordsA_at _ _ _ (by omega))
        have hf : wr.frozen? ⟨w.heap.size, k / 64, none⟩ = false := hH.1.frozen _
        have HH := Lib.hid hH; clear hH
        have HV := Lib.hid (or_bit' (word (bitsN (l.take k)) (k / 64)) (k % 64) (word_lt _ _))
        have HN := Lib.hid (bits_take_lt l k)
        obtain ⟨x, hxx⟩ : ∃ x, word (bitsN (l.take k)) (k / 64) = x := ⟨_, rfl⟩
        rw [hxx] at hx HV
        have HX := Lib.hid hxx; clear hxx
        go_wp2
        go_region
        go_wp2
        go_roundw
        case rel =>
          refine ⟨k + 1, by omega, by go_num, ?_⟩
          have h := HH.out
          rw [HV.out, ← HX.out]
          refine ⟨?_, h.2.1.far (by show ¬ w.heap.size + 1 = w.heap.size; omega) _, bel_drewN (h.2.2.setCell (Nat.le_refl _) _) _⟩
          have h1 := h.1.put (k / 64) (.int .u64 ((word (bitsN (l.take k)) (k / 64) ||| 1 * 2 ^ (k % 64) % 2 ^ 64 : Nat) : Int))
          rw [words_put _ n _ _ HN.out (by omega)] at h1
          rw [take_snoc_b l k _ HVV.out, bitsN_snoc, htl.out]
          exact h1
        case measure => simp [intOf]; omega
    · obtain rfl : k = n := by omega
      obtain ⟨h1, h2, hB⟩ := hH
      rw [List.take_of_length_le (by rw [hlen.out]; exact Nat.le_refl _)] at h1
      have hcall := bcount_any wr (w.heap.size + 1) k ((k + 63) / 64) ((k + 63) / 64) (some ⟨w.heap.size, 0, none⟩) (bitsN l) (by omega) h2 (by
        refine ⟨wordsL_len _ _, fun _ => ⟨w.heap.size, 0, rfl, h1.lt, by omega, fun j u hu => ?_⟩⟩
        rw [Nat.zero_add, h1.cell]
        simpa [wordsA] using hu)
      have HC := Lib.hid hcall; clear hcall
      have H1 := Lib.hid h1; clear h1
      have H2 := Lib.hid h2; clear h2
      go_wp2_with fail
      refine HC.out.mono ?_
      rintro e w' ⟨rfl, hP⟩
      have HP := Lib.hid hP; clear hP
      go_wp2
      go_ret2
      obtain ⟨A2, c2, hrow, hown, hgr⟩ := HP.out
      have hsz := hB.size
      refine ⟨w.heap.size + 1, rfl, ⟨hn, ?_, by omega, hrow.lt, _, _, A2, c2, hrow, ?_, (SlR.of_own hown).mono hsz (Nat.le_refl _)⟩, hB.grown hgr hsz (fun q e => by cases e; omega)⟩
      · have := bitsN_lt l
        rwa [hlen.out] at this
      · have hr := H1.out.grown hgr (fun e => by injection e with e; omega)
        refine (SlR.of_row hr _ (by simp [wordsA]) _ (wordsA_size _ _)).mono (Nat.le_refl _) hr.lt
end Go.Proofs.Ytpnkjfjkeoleaaa.B

/-! A string as a slice of bytes: []byte(s). -/
set_option linter.unusedVariables false
namespace Go.Proofs.Ytpnkjfjkeoleaaa.B
open Go.RowKit HK

/-- The bytes of a string, as numbers. -/
def bytesOf (s : ByteArray) : List Nat := s.data.toList.map UInt8.toNat
theorem bytesOf_len (s : ByteArray) : (bytesOf s).length = s.size := by simp [bytesOf]
theorem bytesOf_lt (s : ByteArray) : ∀ v ∈ bytesOf s, v < 256 := by
  intro v hv
  obtain ⟨b, _, rfl⟩ := List.mem_map.1 hv
  exact b.toNat_lt
theorem bytesOf_bs (l : List Nat) (h : ∀ v ∈ l, v < 256) : bytesOf (bs l) = l := by
  unfold bytesOf
  rw [bs_data, List.map_map]
  conv => rhs; rw [← List.map_id l]
  apply List.map_congr_left
  intro v hv
  have := h v hv
  simp
  omega
theorem bs_bytesOf (s : ByteArray) : bs (bytesOf s) = s := by
  have h : (bs (bytesOf s)).data.toList = s.data.toList := by
    rw [bs_data]
    unfold bytesOf
    rw [List.map_map]
    conv => rhs; rw [← List.map_id s.data.toList]
    apply List.map_congr_left
    intro v hv
    simp
  cases hs : bs (bytesOf s) with
  | mk d =>
    rw [hs] at h
    cases s with
    | mk d' =>
      congr 1
      exact Array.toList_inj.1 h
theorem of_string (w : World) (s : ByteArray) (h : s.size ≤ maxLen) :
    ∃ A c w1, (convert 9 26 (.string s)).run Try.prog w = .ok (.slice A s.size c) w1 ∧ s.size ≤ c ∧ c ≤ maxLen ∧ Below w.heap.size w w1 ∧ Sl w1 w1.heap.size A s.size ((bytesOf s).map fun v : Nat => Value.int .u8 (v : Int)) := by
  refine ⟨_, _, _, run_bytes_of_string w 9 26 5 s Try.underlying9 Try.underlying26 Try.underlying5, grownCap_ge _ _ _ _, grownCap_le_maxLen _ _ _ _ h, ((Below.refl _ _).drew.alloc (Nat.le_refl _) _), by simp [bytesOf], fun _ => ⟨w.heap.size, 0, rfl, by simp, fun j u hu => ?_⟩⟩
  simp only [bytesOf, List.map_map, List.getElem?_map] at hu
  obtain ⟨b, hb, rfl⟩ := Option.map_eq_some_iff.1 hu
  have hj : j < s.data.size := by
    rcases Nat.lt_or_ge j s.data.size with h1 | h1
    · exact h1
    · rw [List.getElem?_eq_none (by simpa using h1)] at hb; cases hb
  have hbj : s.data[j] = b := by
    have : s.data.toList[j]? = some s.data[j] := by rw [List.getElem?_eq_getElem (by simpa using hj)]; simp
    rw [hb] at this
    injection this with this
    exact this.symm
  have hnew : (w.drew.alloc (.cells (bytesRow s (grownCap w s.size 0 5)) 5 ((bytesRow s (grownCap w s.size 0 5)).size, (bytesRow s (grownCap w s.size 0 5)).size + 1))).heap[w.heap.size]? = some _ := heap_alloc_new w.drew _
  rw [Nat.zero_add, cell_of_row _ w.heap.size j _ _ _ hnew, bytesRow_at s _ j hj, hbj]
  rfl
end Go.Proofs.Ytpnkjfjkeoleaaa.B
