/- bitvec: the reference's Rank, Select. -/
import Derived.Test.YtofeemmmdbdjdaaBvWorks
set_option linter.unusedVariables false
namespace Go.Proofs.Ytofeemmmdbdjdaa.B
open Go.RowKit HK

theorem bit_at (l : List Bool) (k : Nat) (v : Bool) (h : l[k]? = some v) : (bitsN l).testBit k = v := by rw [bitsN_bit, List.getD_eq_getElem?_getD, h]; rfl
theorem rk_at (l : List Bool) (b : Bool) (k : Nat) (v : Bool) (h : l[k]? = some v) : rk (bitsN l) b (k + 1) = rk (bitsN l) b k + (v == b).toNat := by rw [rk_step, bit_at l k v h]

set_option maxHeartbeats 1000000 in
theorem rrank_any (w : World) (B : Nat) (A : Option Addr) (n c : Nat) (l : List Bool) (bb : Bool) (i : Int) (hn : n ≤ 4611686018427387904) (hi : (Lit.int .i64 i).wf = true) (hs : Sl w B A n (l.map Value.bool)) :
    Calls Try.prog 14 #[.slice A n c, .bool bb, .int .i64 i] w fun e w' => e = .returned (.int .i64 (rk (bitsN l) bb (clamp i n) : Nat)) ∧ w = w' := by
  have hri := rg_i64 i hi
  have HS := Lib.hid hs; clear hs
  have hcl : (clamp i n : Int) ≤ n := by unfold clamp; omega
  obtain ⟨C, hC⟩ : ∃ C, clamp i n = C := ⟨_, rfl⟩
  have hC1 : Hid (∀ k : Nat, k < C → (k : Int) < i ∧ k < n) := Lib.hid (by intro k hk; rw [← hC] at hk; unfold clamp at hk; omega)
  have hC2 : Hid (i ≤ (C : Int) ∨ n ≤ C) := Lib.hid (by rw [← hC]; unfold clamp; omega)
  rw [hC] at hcl ⊢
  clear hC
  go_enter Try.func14, Try.ntmps14
  go_wp2
  go_loop [7, 8] (fun x k => ∃ j : Nat, j ≤ C ∧ k = .int .i64 j ∧ x = .int .i64 (rk (bitsN l) bb j : Nat)) (fun _ k => C - (intOf k).toNat)
  case atStart => exact ⟨0, Nat.zero_le _, rfl, by rw [rk_zero]; rfl⟩
  case round =>
    obtain ⟨j, hj, rfl, rfl⟩ := hrel
    have hrj := rk_le (bitsN l) bb j
    by_cases hlt : j < C
    · have h12 := hC1.out j hlt
      have hb1 : decide ((j : Int) < i) = true := by simp; omega
      have hb2 : decide ((j : Int) < (n : Int)) = true := by simp; omega
      obtain ⟨b, off, u, rfl, hb, hu, hc⟩ := HS.out.at_ h12.2
      obtain ⟨v, hv, rfl⟩ := at_bool hu
      have HV := Lib.hid (rk_at l bb j v hv); clear hu hv
      cases hvb : (v == bb) with
      | true =>
        rw [hvb] at HV
        go_wp2
        go_round
        case rel => exact ⟨j + 1, by omega, by go_num, by rw [HV.out]; go_num⟩
        case measure => simp [intOf]; omega
      | false =>
        rw [hvb] at HV
        go_wp2
        go_round
        case rel => exact ⟨j + 1, by omega, by go_num, by rw [HV.out]; go_num⟩
        case measure => simp [intOf]; omega
    · obtain rfl : j = C := by omega
      by_cases h1 : i ≤ (j : Int)
      · have hb1 : decide ((j : Int) < i) = false := by simp; omega
        go_wp2
        go_ret
        exact ⟨rfl, rfl⟩
      · have hb1 : decide ((j : Int) < i) = true := by simp; omega
        obtain rfl : j = n := by have := hC2.out; omega
        go_wp2
        go_ret
        exact ⟨rfl, rfl⟩

def RSelPost (w : World) (N n : Nat) (bb : Bool) (k : Int) (e : Ending) (w' : World) : Prop := ∃ z, e = .returned (.int .i64 z) ∧ SelAt N n bb k z ∧ w = w'

set_option maxHeartbeats 1000000 in
theorem rsel_any (w : World) (B : Nat) (A : Option Addr) (n c : Nat) (l : List Bool) (bb : Bool) (k : Int) (hn : n ≤ 4611686018427387904) (hk : (Lit.int .i64 k).wf = true) (hs : Sl w B A n (l.map Value.bool)) :
    Calls Try.prog 17 #[.slice A n c, .bool bb, .int .i64 k] w (RSelPost w (bitsN l) n bb k) := by
  have hrk := rg_i64 k hk
  have HS := Lib.hid hs; clear hs
  go_enter Try.func17, Try.ntmps17
  go_wp2
  go_loop [7, 8] (fun x i => ∃ j : Nat, j ≤ n ∧ i = .int .i64 j ∧ x = .int .i64 (rk (bitsN l) bb j : Nat) ∧ Hid (k < 0 ∨ (rk (bitsN l) bb j : Int) ≤ k)) (fun _ i => n - (intOf i).toNat)
  case atStart => exact ⟨0, Nat.zero_le _, rfl, by rw [rk_zero]; rfl, Lib.hid (by rw [rk_zero]; omega)⟩
  case round =>
    obtain ⟨j, hj, rfl, rfl, HK⟩ := hrel
    have hrj := rk_le (bitsN l) bb j
    by_cases hlt : j < n
    · obtain ⟨b, off, u, rfl, hb, hu, hc⟩ := HS.out.at_ hlt
      obtain ⟨v, hv, rfl⟩ := at_bool hu
      have HV := Lib.hid (rk_at l bb j v hv); clear hu hv
      cases hvb : (v == bb) with
      | true =>
        rw [hvb] at HV
        by_cases hq : (rk (bitsN l) bb j : Int) = k
        · have hqb : ((rk (bitsN l) bb j : Int) == k) = true := by simp [hq]
          have HQ := Lib.hid hq; clear hq
          go_wp2
          go_ret
          exact ⟨j, rfl, .inr ⟨j, rfl, hlt, HQ.out, by rw [HV.out, ← HQ.out]; rfl⟩, rfl⟩
        · have hqb : ((rk (bitsN l) bb j : Int) == k) = false := by simp [hq]
          have HQ := Lib.hid hq; clear hq
          go_wp2
          go_round
          case rel => exact ⟨j + 1, by omega, by go_num, by rw [HV.out]; go_num, Lib.hid (by have h1 := HK.out; have h2 := HQ.out; rw [HV.out]; simp; omega)⟩
          case measure => simp [intOf]; omega
      | false =>
        rw [hvb] at HV
        go_wp2
        go_round
        case rel => exact ⟨j + 1, by omega, by go_num, by rw [HV.out]; go_num, Lib.hid (by have h1 := HK.out; rw [HV.out]; simpa using h1)⟩
        case measure => simp [intOf]; omega
    · obtain rfl : j = n := by omega
      go_wp2
      go_ret
      exact ⟨-1, rfl, .inl ⟨rfl, HK.out⟩, rfl⟩
end Go.Proofs.Ytofeemmmdbdjdaa.B
