/- sort.Search with packed's closure; packed: Find; the reference's Find. -/
import Derived.Test.YtjjhllbbkflnnaaWEncodes
set_option linter.unusedVariables false
namespace Go.Proofs.Ytjjhllbbkflnnaa
open Go.RowKit HK

set_option maxHeartbeats 1000000 in
theorem search_p (w : World) (n : Nat) (p1 p2 : Value) (p : Nat → Bool) (hn : n ≤ 4611686018427387904) (hmono : ∀ i j, i ≤ j → p i = true → p j = true)
    (hf : ∀ q h, h < n → Calls Try.prog 29 #[.int .i64 (h : Nat), p1, p2] (w.drewN q) fun e w' => e = .returned (.bool (p h)) ∧ ∃ k, w' = w.drewN k) :
    Calls Try.prog 28 #[.int .i64 n, .func (.func 29) #[] #[p1, p2]] w fun e w' => ∃ r : Nat, e = .returned (.int .i64 r) ∧ r ≤ n ∧ (∀ x, x < r → p x = false) ∧ (∀ x, r ≤ x → x < n → p x = true) ∧ ∃ k, w' = w.drewN k := by
  have HF := Lib.hid hf; clear hf
  have HM := Lib.hid hmono; clear hmono
  go_enter Try.func28, Try.ntmps28
  go_wp2
  go_loopw [5, 6] (fun a b wr => ∃ i j : Nat, i ≤ j ∧ j ≤ n ∧ a = .int .i64 i ∧ b = .int .i64 j ∧ Hid ((∀ x, x < i → p x = false) ∧ (∀ x, j ≤ x → x < n → p x = true)) ∧ ∃ q, wr = w.drewN q) (fun a b _ => (intOf b).toNat - (intOf a).toNat)
  case atStart => exact ⟨0, n, Nat.zero_le _, Nat.le_refl _, rfl, rfl, Lib.hid ⟨fun x h => by omega, fun x h h2 => by omega⟩, 0, rfl⟩
  case round =>
    obtain ⟨i, j, hij, hjn, rfl, rfl, HI, q, rfl⟩ := hrel
    by_cases hlt : i < j
    · have hcall := HF.out q ((i + j) / 2) (by omega)
      have e1 : (((i + j) / 2 : Nat) : Int) = ((i : Int) + (j : Int)) / 2 := by omega
      rw [e1] at hcall
      have HC := Lib.hid hcall; clear hcall e1
      cases hp : p ((i + j) / 2) with
      | true =>
        have HP := Lib.hid hp; clear hp
        go_wp2_with (go_at_call 29; refine HC.out.mono ?_; rintro e w' ⟨rfl, q', hw'⟩; rw [hw', HP.out]; clear hw')
        go_roundw
        case rel => exact ⟨i, (i + j) / 2, by omega, by omega, rfl, by go_num, Lib.hid ⟨HI.out.1, fun x h1 h2 => HM.out _ x h1 HP.out⟩, _, rfl⟩
        case measure => simp [intOf]; omega
      | false =>
        have HP := Lib.hid hp; clear hp
        go_wp2_with (go_at_call 29; refine HC.out.mono ?_; rintro e w' ⟨rfl, q', hw'⟩; rw [hw', HP.out]; clear hw')
        go_roundw
        case rel =>
          refine ⟨(i + j) / 2 + 1, j, by omega, by omega, by go_num, rfl, Lib.hid ⟨fun x h1 => ?_, HI.out.2⟩, _, rfl⟩
          cases hx : p x with
          | false => rfl
          | true => have := HM.out x ((i + j) / 2) (by omega) hx; rw [HP.out] at this; cases this
        case measure => simp [intOf]; omega
    · obtain rfl : i = j := by omega
      go_wp2
      go_ret
      exact ⟨i, rfl, hjn, HI.out.1, HI.out.2, q, rfl⟩

theorem PR.drewN2 {w : World} {b g n wd N : Nat} (h : PR w b g n wd N) (k : Nat) : PR (w.drewN k) b g n wd N := h
set_option maxHeartbeats 1000000 in
theorem find1_any (W : World) (B1 B2 b g n wd N i x : Nat) (hn : n ≤ 1048576) (h64 : wd ≤ 64) (hi : i < n) (h : PR W b g n wd N) (hc1 : W.cell? ⟨B1, 0, none⟩ = some (.pointer (some ⟨b, 0, none⟩))) (hc2 : W.cell? ⟨B2, 0, none⟩ = some (.int .u64 (x : Int))) :
    Calls Try.prog 29 #[.int .i64 i, .pointer (some ⟨B1, 0, none⟩), .pointer (some ⟨B2, 0, none⟩)] W fun e w' => e = .returned (.bool (decide (x ≤ N / 2 ^ (i * wd) % 2 ^ wd))) ∧ ∃ k, w' = W.drewN k := by
  have hg : ∀ k, Calls Try.prog 27 #[.pointer (some ⟨b, 0, none⟩), .int .i64 i] (W.drewN k) fun e w' => e = .returned (.int .u64 ((N / 2 ^ (i * wd) % 2 ^ wd : Nat) : Int)) ∧ ∃ m, w' = (W.drewN k).drewN m := fun k => pget_any (W.drewN k) b g n wd i N hn h64 hi (h.drewN2 k)
  obtain ⟨y, hy⟩ : ∃ y, N / 2 ^ (i * wd) % 2 ^ wd = y := ⟨_, rfl⟩
  rw [hy] at hg ⊢
  have HG := Lib.hid hg
  clear hg hy h
  go_enter Try.func29, Try.ntmps29
  go_wp2_with fail
  go_quiet ((go_at_call 27; exact Calls.quiet_of (HG.out _)))
  go_wp2
  go_ret
  exact ⟨rfl, nq, rfl⟩

/-- The list does not descend. -/
def Asc (l : List Nat) : Prop := ∀ i j, i ≤ j → j < l.length → l.getD i 0 ≤ l.getD j 0
def geF (l : List Nat) (x i : Nat) : Bool := decide (x ≤ l.getD i 0) || decide (l.length ≤ i)
theorem geF_mono (l : List Nat) (x : Nat) (h : Asc l) (i j : Nat) (hij : i ≤ j) (hp : geF l x i = true) : geF l x j = true := by
  unfold geF at *
  simp only [Bool.or_eq_true, decide_eq_true_eq] at *
  by_cases hj : l.length ≤ j
  · exact .inr hj
  · have := h i j hij (by omega)
    rcases hp with hp | hp
    · exact .inl (by omega)
    · omega
theorem geF_at (l : List Nat) (x i : Nat) (hi : i < l.length) : geF l x i = decide (x ≤ l[i]) := by
  have e : decide (l.length ≤ i) = false := by simp; omega
  unfold geF
  rw [e, Bool.or_false, List.getD_eq_getElem?_getD, List.getElem?_eq_getElem hi]; rfl
theorem findIdx_of (l : List Nat) (x r : Nat) (hr : r ≤ l.length) (h1 : ∀ y, y < r → geF l x y = false) (h2 : ∀ y, r ≤ y → y < l.length → geF l x y = true) : l.findIdx (fun v => decide (x ≤ v)) = r := by
  by_cases hl : r = l.length
  · rw [hl]
    apply List.findIdx_eq_length.2
    intro v hv
    obtain ⟨i, hi, rfl⟩ := List.mem_iff_getElem.1 hv
    rw [← geF_at l x i hi]
    exact h1 i (by omega)
  · rw [List.findIdx_eq (by omega : r < l.length)]
    refine ⟨?_, fun j hj => ?_⟩
    · rw [← geF_at l x r (by omega)]; exact h2 r (Nat.le_refl _) (by omega)
    · rw [← geF_at l x j (by omega)]; exact h1 j hj

set_option maxHeartbeats 1000000 in
theorem find_any (w : World) (S b g x : Nat) (l : List Nat) (hn : l.length ≤ 1048576) (hl : ∀ v ∈ l, v < 2 ^ 64) (ha : Asc l) (h : IsP w S b g l) :
    Calls Try.prog 20 #[.pointer (some ⟨b, 0, none⟩), .int .u64 (x : Int)] w fun e w' => e = .returned (.int .i64 ((l.findIdx (fun v => decide (x ≤ v)) : Nat) : Int)) ∧ Below w.heap.size w w' := by
  have h64 := widthL_le_64 l hl
  have hpr : ∀ o1 o2, PR ((w.alloc o1).alloc o2) b g l.length (widthL l) (packN (widthL l) l) := fun o1 o2 => ⟨(h.1.1.alloc o1).alloc o2, (h.1.2.alloc o1).alloc o2⟩
  have hc0 : ((w.alloc (.cells #[.pointer (some ⟨b, 0, none⟩)] 23)).alloc (.cells #[.int .u64 (x : Int)] 27)).cell? ⟨b, 0, none⟩ = some (.int .i64 l.length) := (hpr _ _).1.cell 0
  have hk1 : ((w.alloc (.cells #[.pointer (some ⟨b, 0, none⟩)] 23)).alloc (.cells #[.int .u64 (x : Int)] 27)).cell? ⟨w.heap.size, 0, none⟩ = some (.pointer (some ⟨b, 0, none⟩)) := ((Row.new w _ _).alloc _).cell 0
  have hk2 : ((w.alloc (.cells #[.pointer (some ⟨b, 0, none⟩)] 23)).alloc (.cells #[.int .u64 (x : Int)] 27)).cell? ⟨w.heap.size + 1, 0, none⟩ = some (.int .u64 (x : Int)) := (Row.new2 w _ _ _).cell 0
  have hcl : ∀ q i, i < l.length → Calls Try.prog 29 #[.int .i64 (i : Nat), .pointer (some ⟨w.heap.size, 0, none⟩), .pointer (some ⟨w.heap.size + 1, 0, none⟩)] (((w.alloc (.cells #[.pointer (some ⟨b, 0, none⟩)] 23)).alloc (.cells #[.int .u64 (x : Int)] 27)).drewN q) fun e w' => e = .returned (.bool (geF l x i)) ∧ ∃ k, w' = ((w.alloc (.cells #[.pointer (some ⟨b, 0, none⟩)] 23)).alloc (.cells #[.int .u64 (x : Int)] 27)).drewN k := by
    intro q i hi
    refine (find1_any _ w.heap.size (w.heap.size + 1) b g l.length (widthL l) (packN (widthL l) l) i x hn h64 hi ((hpr _ _).drewN2 q) hk1 hk2).mono ?_
    rintro e w' ⟨rfl, k, rfl⟩
    refine ⟨?_, q + k, World.drewN_drewN _ _ _⟩
    rw [geF_at l x i hi, ← has_get l i l[i] (List.getElem?_eq_getElem hi)]
  have hse := search_p _ l.length _ _ (geF l x) (by omega) (geF_mono l x ha) hcl
  have HSE := Lib.hid hse
  clear hse hcl hk1 hk2 hpr h
  go_enter Try.func20, Try.ntmps20
  go_wp2_with fail
  refine (plen_any _ _ _ hc0).mono ?_
  rintro e w' ⟨rfl, rfl⟩
  go_wp2_with fail
  refine HSE.out.mono ?_
  rintro e w' ⟨r, rfl, hr, h1, h2, k, rfl⟩
  have hfin := findIdx_of l x r hr h1 h2
  have HFIN := Lib.hid hfin
  clear h1 h2 hfin
  go_wp2
  go_ret
  rw [HFIN.out]
  exact ⟨rfl, bel_drewN (((Below.refl _ _).alloc (Nat.le_refl _) _).alloc (by simp) _) _⟩
end Go.Proofs.Ytjjhllbbkflnnaa
