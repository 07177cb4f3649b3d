/- The walk of PackedOrder. -/
import Derived.Test.YtjjhllbbkflnnaaWFinds
set_option linter.unusedVariables false
namespace Go.Proofs.Ytjjhllbbkflnnaa
open Go.RowKit HK

def u32v (v : Nat) : Value := .int .u32 (v : Int)
theorem at_u32 {l : List Nat} {k : Nat} {u : Value} (h : (l.map u32v)[k]? = some u) : ∃ v, l[k]? = some v ∧ u = .int .u32 (v : Int) := by
  rw [List.getElem?_map] at h
  obtain ⟨v, hv, rfl⟩ := Option.map_eq_some_iff.1 h
  exact ⟨v, hv, rfl⟩
def preS (ss : List Nat) (k : Nat) : Nat := (ss.take k).sum
def sumsL (ss : List Nat) (k : Nat) : List Nat := (List.range k).map fun j => preS ss (j + 1)
theorem sumsL_length (ss : List Nat) (k : Nat) : (sumsL ss k).length = k := by simp [sumsL]
theorem sumsL_succ (ss : List Nat) (k : Nat) : sumsL ss (k + 1) = sumsL ss k ++ [preS ss (k + 1)] := by simp [sumsL, List.range_succ]
theorem preS_succ (ss : List Nat) (k v : Nat) (h : ss[k]? = some v) : preS ss (k + 1) = preS ss k + v := by
  unfold preS
  rw [List.take_add_one, h]; simp
theorem preS_mono (ss : List Nat) (i : Nat) : ∀ j, i ≤ j → preS ss i ≤ preS ss j := by
  intro j
  induction j with
  | zero => intro h; have : i = 0 := by omega
            subst this; exact Nat.le_refl _
  | succ j ih =>
    intro h
    by_cases e : i = j + 1
    · subst e; exact Nat.le_refl _
    · have h1 := ih (by omega)
      rcases hq : ss[j]? with _ | v
      · have : preS ss (j + 1) = preS ss j := by unfold preS; rw [List.take_add_one, hq]; simp
        omega
      · rw [preS_succ ss j v hq]; omega
theorem sumsL_asc (ss : List Nat) (k : Nat) : Asc (sumsL ss k) := by
  intro i j hij hj
  rw [sumsL_length] at hj
  have e : ∀ q, q < k → (sumsL ss k).getD q 0 = preS ss (q + 1) := by
    intro q hq
    rw [List.getD_eq_getElem?_getD]
    simp [sumsL, hq]
  rw [e i (by omega), e j hj]
  exact preS_mono ss _ _ (by omega)
theorem preS_le (ss : List Nat) (h : ∀ v ∈ ss, v < 2 ^ 32) : ∀ k, preS ss k ≤ 4294967295 * k := by
  intro k
  induction k with
  | zero => simp [preS]
  | succ k ih =>
    rcases hq : ss[k]? with _ | v
    · have : preS ss (k + 1) = preS ss k := by unfold preS; rw [List.take_add_one, hq]; simp
      omega
    · rw [preS_succ ss k v hq]
      have := h v (List.mem_of_getElem? hq)
      omega
theorem order_of (l : List Nat) (x i v : Nat) (ha : Asc l) (hv : l[i]? = some v) : v < x ↔ i < l.findIdx (fun v => decide (x ≤ v)) := by
  obtain ⟨hi, rfl⟩ := List.getElem?_eq_some_iff.1 hv
  constructor
  · intro h
    rcases Nat.lt_or_ge i (l.findIdx (fun v => decide (x ≤ v))) with h1 | h1
    · exact h1
    · exfalso
      have hlt : l.findIdx (fun v => decide (x ≤ v)) < l.length := by omega
      have h2 : x ≤ l[l.findIdx (fun v => decide (x ≤ v))] := by
        have := List.findIdx_getElem (w := hlt)
        simpa using this
      have h3 := ha _ i h1 hi
      have e1 : l.getD i 0 = l[i] := by rw [List.getD_eq_getElem?_getD, List.getElem?_eq_getElem hi]; rfl
      have e2 : l.getD (l.findIdx (fun v => decide (x ≤ v))) 0 = l[l.findIdx (fun v => decide (x ≤ v))] := by rw [List.getD_eq_getElem?_getD, List.getElem?_eq_getElem hlt]; rfl
      omega
  · intro h
    have := List.not_of_lt_findIdx h
    simpa using this

set_option maxHeartbeats 2000000 in
theorem order_walk (w : World) (A : Option Addr) (n c x : Nat) (ss : List Nat) (hn : n ≤ 3000) (hl : ∀ v ∈ ss, v < 2 ^ 32) (hs : Sl w w.heap.size A n (ss.map u32v)) :
    Calls Try.prog 7 #[.slice A n c, .int .u64 (x : Int)] w fun e w' => e = .returned (.bool true) ∧ Below w.heap.size w w' := by
  have hnb : decide ((3000 : Int) < (n : Int)) = false := by simp; omega
  have hlen : Hid (ss.length = n) := Lib.hid (by have := hs.1; simpa using this)
  have HPL := Lib.hid (preS_le ss hl)
  have HL := Lib.hid hl; clear hl
  have HS := Lib.hid hs; clear hs
  obtain ⟨i0, hif, hz0, hz1, hz2⟩ := info_parts infoU64
  go_enter Try.func7, Try.ntmps7
  go_wp2
  go_loopw [5, 6, 7] (fun o sm ix wr => ∃ k s : Nat, k ≤ n ∧ s ≤ 12884901885000 ∧ Hid (s = preS ss k) ∧ ix = .int .i64 k ∧ sm = .int .u64 s ∧ wr.ownsRow w.heap.size 27 1 o k ((sumsL ss k).map u64v) ∧ Below w.heap.size w wr) (fun _ _ ix _ => n - (intOf ix).toNat)
  case atStart => exact ⟨0, 0, Nat.zero_le _, Nat.zero_le _, Lib.hid rfl, rfl, rfl, World.ownsRow_nil _ _ _ _, Below.refl _ _⟩
  case round =>
    obtain ⟨k, s, hk, hsm, HSM, rfl, rfl, hown, hB⟩ := hrel
    have HO := Lib.hid hown; clear hown
    by_cases hlt : k < n
    · obtain ⟨b, off, u, rfl, hb, hu, hcu⟩ := HS.out.at_ hlt
      obtain ⟨v, hv, rfl⟩ := at_u32 hu
      have hv32 : v ≤ 4294967295 := by have := HL.out v (List.mem_of_getElem? hv); omega
      have hcv : wr.cell? ⟨b, off + k, none⟩ = some (.int .u32 (v : Int)) := (hB.cell (p := ⟨b, off + k, none⟩) hb).trans hcu
      have HVV := Lib.hid hv; clear hu hv hcu
      have hsm2 : s + v ≤ 12884901885000 := by
        have h1 := HPL.out (k + 1)
        rw [preS_succ ss k v HVV.out, ← HSM.out] at h1
        omega
      go_wp2_with (at_builtin; refine wpList_append_own _ rfl _ _ 22 rfl w.heap.size 27 i0 (.int .u64 0) 1 8 Try.underlying22 hif hz0 hz1 hz2 rfl (by decide) _ _ _ rfl (HO.out.alloc _) ⟨wr.heap.size, 0, none⟩ 1 1 [_] rfl rfl (cell_one_new _ _ _) one_oneCell (by unfold maxLen; omega) (by omega) (by have := hB.size; simp; omega) ?_; intro v' w1 hown1 hgrow1 _)
      have hB1 := bel_app hB (Nat.le_refl _) HO.out hgrow1
      have HO1 := Lib.hid hown1; clear hown1 hgrow1
      go_wp2
      go_roundw
      case rel =>
        refine ⟨k + 1, s + v, by omega, hsm2, Lib.hid (by rw [preS_succ ss k v HVV.out, ← HSM.out]), by go_num, by go_num, ?_, hB1⟩
        have h1 := HO1.out
        rw [sumsL_succ, List.map_append, preS_succ ss k v HVV.out, ← HSM.out]
        have e1 : [u64v (s + v)] = [Value.int .u64 ((s : Int) + (v : Int))] := by unfold u64v; simp
        rw [List.map_cons, List.map_nil, e1]
        exact h1
      case measure => simp [intOf]; omega
    · obtain rfl : n = k := by omega
      obtain ⟨A1, c1, rfl, hc1, hcm1⟩ := own_shape HO.out
      obtain ⟨l, hl⟩ : ∃ l, sumsL ss n = l := ⟨_, rfl⟩
      have ha : Asc l := by rw [← hl]; exact sumsL_asc ss n
      have hll : Hid (l.length = n) := Lib.hid (by rw [← hl]; exact sumsL_length ss n)
      have hl64 : ∀ v ∈ l, v < 2 ^ 64 := by
        intro v hv
        rw [← hl] at hv
        obtain ⟨j, hj, rfl⟩ := List.mem_map.1 hv
        have h1 := HPL.out (j + 1)
        have h2 := List.mem_range.1 hj
        omega
      rw [hl] at HO
      clear hl
      have HA := Lib.hid ha; have HL64 := Lib.hid hl64; clear ha hl64 HPL HSM
      go_wp2_with fail
      refine (new_any wr A1 n c1 l (by omega) HL64.out (Sl.of_own HO.out)).mono ?_
      rintro e w1 ⟨b, g, rfl, hp, hB1⟩
      have HP := Lib.hid hp; clear hp
      have HO1 := Lib.hid (own_below HO.out hB1 (fun q e => (HO.out.lt q e).2))
      have hB1' := hB.trans (hB1.mono hB.size)
      clear hB1 hB HO
      go_wp2_with fail
      refine (find_any w1 _ b g x l (by rw [hll.out]; omega) HL64.out HA.out HP.out).mono ?_
      rintro e w2 ⟨rfl, hB2⟩
      have HO2 := Lib.hid (own_below HO1.out hB2 (fun q e => (HO1.out.lt q e).2))
      have hB2' := hB1'.trans (hB2.mono hB1'.size)
      clear hB2 hB1' HO1 HP
      have hor := order_of l x
      obtain ⟨r, hr⟩ : ∃ r, l.findIdx (fun v => decide (x ≤ v)) = r := ⟨_, rfl⟩
      have hrn : r ≤ n := by rw [← hr, ← hll.out]; exact List.findIdx_le_length
      rw [hr] at hor ⊢
      have HOR := Lib.hid hor; clear hor hr
      have hlt0 : decide ((r : Int) < 0) = false := by simp
      have hgt0 : decide (n < r) = false := by simp; omega
      have hgt1 : ¬ n < r := by omega
      go_wp2_with fail
      go_loop [11] (fun ix => ∃ k : Nat, k ≤ n ∧ ix = .int .i64 k) (fun ix => n - (intOf ix).toNat)
      case atStart => exact ⟨0, Nat.zero_le _, rfl⟩
      case round =>
        obtain ⟨k, hk, rfl⟩ := hrel
        by_cases hlt2 : k < n
        · obtain ⟨b1, off, u, rfl, hb1, hu, hcu⟩ := (Sl.of_own HO2.out).at_ hlt2
          obtain ⟨v, hv, rfl⟩ := at_u64 hu
          have hiff := HOR.out k v HA.out hv
          clear hu hv
          by_cases hkr : k < r
          · have hvx : v < x := hiff.2 hkr
            have HIFF := Lib.hid hiff; clear hiff
            go_wp2
            go_round
            case rel => exact ⟨k + 1, by omega, by go_num⟩
            case measure => simp [intOf]; omega
          · have hvx : ¬ v < x := fun h => hkr (hiff.1 h)
            have HIFF := Lib.hid hiff; clear hiff
            go_wp2
            go_round
            case rel => exact ⟨k + 1, by omega, by go_num⟩
            case measure => simp [intOf]; omega
        · go_wp2_with fail
          refine (works_true w2).mono ?_
          rintro e w6 ⟨rfl, hB6⟩
          go_wp2
          go_ret
          exact ⟨rfl, hB2'.trans (hB6.mono hB2'.size)⟩
set_option maxHeartbeats 1000000 in
theorem order_long (w : World) (A : Option Addr) (n c : Nat) (x : Int) (hn : 3000 < n) :
    Calls Try.prog 7 #[.slice A n c, .int .u64 x] w fun e w' => e = .returned (.bool true) ∧ Below w.heap.size w w' := by
  have hnb : decide ((3000 : Int) < (n : Int)) = true := by simp; omega
  go_enter Try.func7, Try.ntmps7
  go_wp2
  go_ret
  exact ⟨rfl, Below.refl _ _⟩
theorem order_all (a0 : Option Addr) (len0 cap0 : Nat) (z0 : List Int) (a1 : Int) (w : World) (w0 : ArgRow .u32 w a0 len0 cap0 z0) (w1 : (Lit.int .u64 a1).wf = true) :
    Calls Try.prog 7 #[.slice a0 len0 cap0, .int .u64 a1] w fun e w' => e = .returned (.bool true) ∧ Below w.heap.size w w' := by
  by_cases h : len0 ≤ 3000
  · obtain ⟨l, hl, hc, hcm, hw, hs⟩ := arg_sl w0 nn_u32
    obtain ⟨x, rfl⟩ := Int.eq_ofNat_of_zero_le (nn_u64 a1 w1)
    exact order_walk w a0 len0 cap0 x l h (fun v hv => lt_u32 v (hw v hv)) hs
  · exact order_long w a0 len0 cap0 a1 (by omega)
end Go.Proofs.Ytjjhllbbkflnnaa
