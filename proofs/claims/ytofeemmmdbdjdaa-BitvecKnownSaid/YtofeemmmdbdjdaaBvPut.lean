/- bitvec: put. -/
import Derived.Test.YtofeemmmdbdjdaaBvGet
set_option linter.unusedVariables false
namespace Go.Proofs.Ytofeemmmdbdjdaa.B
open Go.RowKit HK

def u8v (v : Nat) : Value := .int .u8 (v : Int)
def u64v (v : Nat) : Value := .int .u64 (v : Int)
/-- The bytes that put appends. -/
def putL (size : Nat) (l : List Nat) : List Nat := l.flatMap fun x => bytesN x size
theorem putL_snoc (size : Nat) (l : List Nat) (x : Nat) : putL size (l ++ [x]) = putL size l ++ bytesN x size := by simp [putL]
theorem putL_len (size : Nat) (l : List Nat) : (putL size l).length = size * l.length := by
  induction l with
  | nil => simp [putL]
  | cons x l ih =>
    have h : (bytesN x size).length = size := by simp [bytesN]
    simp only [putL, List.flatMap_cons, List.length_append, List.length_cons] at *
    rw [h, ih, Nat.mul_succ]
    omega
theorem at_u64 {l : List Nat} {k : Nat} {u : Value} (h : (l.map u64v)[k]? = some u) : ∃ v, l[k]? = some v ∧ u = .int .u64 (v : Int) := by
  rw [List.getElem?_map] at h
  obtain ⟨v, hv, rfl⟩ := Option.map_eq_some_iff.1 h
  exact ⟨v, hv, rfl⟩
theorem byte_of (x j : Nat) : (x : Int) / 2 ^ (8 * j) % 256 = ((x / 2 ^ (8 * j) % 256 : Nat) : Int) := by
  rw [dvp]; simp

def PutInv (w wr : World) (base : Nat) (o : Value) (M : Nat) (xs : List Nat) : Prop := wr.ownsRow base 5 1 o M (xs.map u8v) ∧ Below base w wr

set_option maxHeartbeats 2000000 in
theorem bput_any (w : World) (base : Nat) (o : Value) (M : Nat) (pre : List Nat) (size : Nat) (A : Option Addr) (n c : Nat) (l : List Nat) (hbase : base ≤ w.heap.size) (hsz : size ≤ 8) (hn : n ≤ 16384) (hM : M ≤ 1073741824)
    (ho : w.ownsRow base 5 1 o M (pre.map u8v)) (hs : Sl w w.heap.size A n (l.map u64v)) (hs2 : n ≤ 1 ∨ Sl w base A n (l.map u64v)) :
    Calls Try.prog 30 #[o, .int .i64 size, .slice A n c] w fun e w' => ∃ v, e = .returned v ∧ PutInv w w' base v (M + size * n) (pre ++ putL size l) := by
  have hlen : Hid (l.length = n) := Lib.hid (by have := hs.1; simpa using this)
  have HS := Lib.hid hs; clear hs
  have HS2 := Lib.hid hs2; clear hs2
  have HO := Lib.hid ho; clear ho
  obtain ⟨i0, hi, hz0, hz1, hz2⟩ := info_parts infoU8
  go_enter Try.func30, Try.ntmps30
  go_wp2
  go_loopw [0, 12] (fun o i wr => ∃ k : Nat, k ≤ n ∧ i = .int .i64 k ∧ PutInv w wr base o (M + size * k) (pre ++ putL size (l.take k)) ∧ (k = 0 → wr = w)) (fun _ i _ => n - (intOf i).toNat)
  case atStart => exact ⟨0, Nat.zero_le _, rfl, ⟨by simpa [putL] using HO.out, Below.refl _ _⟩, fun _ => rfl⟩
  case round =>
    obtain ⟨k, hk, rfl, hP, hz⟩ := hrel
    by_cases hlt : k < n
    · have hat : ∃ b off x, A = some ⟨b, off, none⟩ ∧ l[k]? = some x ∧ wr.cell? ⟨b, off + k, none⟩ = some (.int .u64 (x : Nat)) := by
        by_cases hk0 : k = 0
        · rw [hz hk0]
          obtain ⟨b, off, u, hA, hb, hu, hc⟩ := HS.out.at_ hlt
          obtain ⟨v, hv, rfl⟩ := at_u64 hu
          exact ⟨b, off, v, hA, hv, hc⟩
        · rcases HS2.out with h | h
          · omega
          · obtain ⟨b, off, u, hA, hb, hu, hc⟩ := (h.below hP.2).at_ hlt
            obtain ⟨v, hv, rfl⟩ := at_u64 hu
            exact ⟨b, off, v, hA, hv, hc⟩
      obtain ⟨b, off, x, rfl, hx, hc⟩ := hat
      have HX := Lib.hid hx; clear hx hz
      have hbd : size * k ≤ 131072 := by
        have := Nat.mul_le_mul hsz (Nat.le_of_lt hlt)
        omega
      obtain ⟨T, hT⟩ : ∃ T, M + size * k = T := ⟨_, rfl⟩
      have hTb : T ≤ 1073872896 := by omega
      rw [hT] at hP
      have HT := Lib.hid hT; clear hT hbd
      have HP := Lib.hid hP; clear hP
      obtain ⟨wo, rfl⟩ : ∃ wo : World, wo = wr := ⟨_, rfl⟩
      go_wp2
      go_loopw [0, 9] (fun o i wr => ∃ j : Nat, j ≤ size ∧ i = .int .i64 j ∧ PutInv w wr base o (T + j) (pre ++ putL size (l.take k) ++ bytesN x j)) (fun _ i _ => size - (intOf i).toNat)
      case atStart => exact ⟨0, Nat.zero_le _, rfl, by simpa [bytesN] using HP.out⟩
      case round =>
        obtain ⟨j, hj, rfl, hown, hB⟩ := hrel
        by_cases hjs : j < size
        · have hBs := hB.size
          have HVB := Lib.hid (byte_of x j)
          have HBB := Lib.hid hB; clear hB
          have HOO := Lib.hid hown; clear hown
          go_wp2_with (at_builtin; refine wpList_append_own _ rfl _ _ 36 rfl base 5 i0 (.int .u8 0) 1 1 Try.underlying36 hi hz0 hz1 hz2 rfl (by decide) _ _ _ rfl (HOO.out.alloc _) ⟨wr.heap.size, 0, none⟩ 1 1 [_] rfl rfl (cell_one_new _ _ _) one_oneCell (by unfold maxLen; omega) (by omega) (by simp; omega) ?_; intro v' w1 hown1 hgrow1 _)
          have hB1 := bel_app HBB.out hbase HOO.out hgrow1
          have HO1 := Lib.hid hown1; clear hown1 hgrow1
          go_wp2
          go_roundw
          case rel =>
            refine ⟨j + 1, by omega, by go_num, ?_, hB1⟩
            have h1 := HO1.out
            rw [HVB.out] at h1
            rw [bytesN_succ, ← List.append_assoc, List.map_append]
            exact h1
          case measure => simp [intOf]; omega
        · obtain rfl : j = size := by omega
          have HOO := Lib.hid hown; clear hown
          have HBB := Lib.hid hB; clear hB
          go_wp2
          go_roundw
          case rel =>
            refine ⟨k + 1, by omega, by go_num, ⟨?_, HBB.out⟩, fun h => by omega⟩
            rw [take_snoc_b l k x HX.out, putL_snoc, Nat.mul_succ, ← Nat.add_assoc, HT.out, ← List.append_assoc]
            exact HOO.out
          case measure => simp [intOf]; omega
    · obtain rfl : k = n := by omega
      rw [List.take_of_length_le (by rw [hlen.out]; exact Nat.le_refl _)] at hP
      have HP := Lib.hid hP; clear hP
      go_wp2
      go_ret
      exact ⟨_, rfl, HP.out⟩
end Go.Proofs.Ytofeemmmdbdjdaa.B
