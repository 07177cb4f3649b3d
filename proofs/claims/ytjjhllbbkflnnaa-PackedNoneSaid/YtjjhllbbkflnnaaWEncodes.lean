/- The walk of PackedEncodes. -/
import Derived.Test.YtjjhllbbkflnnaaPkRefEnc
import Derived.Test.YtjjhllbbkflnnaaWKeeps
import Derived.Test.YtjjhllbbkflnnaaMem3
set_option linter.unusedVariables false
namespace Go.Proofs.Ytjjhllbbkflnnaa
open Go.RowKit HK

theorem code_eq (l : List Nat) : hdr l.length (widthL l) ++ bytesN (packN (widthL l) l) ((l.length * widthL l + 7) / 8) = code l := rfl
/-- What New leaves, for a list. -/
def IsP (w : World) (S b g : Nat) (l : List Nat) : Prop := PR w b g l.length (widthL l) (packN (widthL l) l) ∧ S ≤ b ∧ S ≤ g
theorem IsP.lt {w : World} {S b g : Nat} {l : List Nat} (h : IsP w S b g l) : b < w.heap.size ∧ g < w.heap.size := ⟨h.1.1.lt, h.1.2.lt⟩
theorem IsP.below {w w' : World} {S b g B : Nat} {l : List Nat} (h : IsP w S b g l) (hb : Below B w w') (hB : w.heap.size ≤ B) : IsP w' S b g l :=
  ⟨h.1.below hb (by have := h.lt; omega) (by have := h.lt; omega), h.2⟩
theorem IsP.grown {w w' : World} {S b g : Nat} {l : List Nat} {row : Option Nat} (h : IsP w S b g l) (hg : w.grownBy w' row) (h1 : row ≠ some b) (h2 : row ≠ some g) : IsP w' S b g l :=
  ⟨⟨h.1.1.grown hg (fun e => h1 e.symm), h.1.2.grown hg (fun e => h2 e.symm)⟩, h.2⟩
theorem new_any (w : World) (A : Option Addr) (n c : Nat) (l : List Nat) (hn : n ≤ 1048576) (hl : ∀ v ∈ l, v < 2 ^ 64) (hs : Sl w w.heap.size A n (l.map u64v)) :
    Calls Try.prog 11 #[.slice A n c] w fun e w' => ∃ b g, e = .returned (.tuple #[.pointer (some ⟨b, 0, none⟩), .int .i64 0]) ∧ IsP w' w.heap.size b g l ∧ Below w.heap.size w w' := by
  refine (pnew_walk w A n c l hn hl hs).mono ?_
  rintro e w' ⟨b, g, rfl, hpr, h1, h2, hB⟩
  have : l.length = n := by have := hs.1; simpa using this
  subst this
  exact ⟨b, g, rfl, ⟨hpr, h1, h2⟩, hB⟩
theorem enc_any (w : World) (S b g : Nat) (l : List Nat) (hn : l.length ≤ 1048576) (hl : ∀ v ∈ l, v < 2 ^ 64) (h : IsP w S b g l) :
    Calls Try.prog 17 #[.pointer (some ⟨b, 0, none⟩)] w fun e w' => ∃ A c, e = .returned (.slice A (code l).length c) ∧ w'.ownsRow w.heap.size 5 1 (.slice A (code l).length c) (code l).length ((code l).map u8v) ∧ Below w.heap.size w w' ∧ c ≤ maxLen := by
  refine (penc_walk w b g _ _ _ hn (widthL_le_64 l hl) h.1).mono ?_
  rintro e w' ⟨v, rfl, hown, hB⟩
  rw [code_eq, ← code_length] at hown
  obtain ⟨A, c, rfl, h1, h2⟩ := own_shape hown
  exact ⟨A, c, rfl, hown, hB, h2⟩
theorem renc_any (w : World) (A : Option Addr) (n c : Nat) (l : List Nat) (hn : n ≤ 1048576) (hl : ∀ v ∈ l, v < 2 ^ 64) (hs : Sl w w.heap.size A n (l.map u64v)) :
    Calls Try.prog 19 #[.slice A n c] w fun e w' => ∃ A c, e = .returned (.slice A (code l).length c) ∧ w'.ownsRow w.heap.size 5 1 (.slice A (code l).length c) (code l).length ((code l).map u8v) ∧ Below w.heap.size w w' ∧ c ≤ maxLen := by
  refine (renc_walk w A n c l hn hl hs).mono ?_
  rintro e w' ⟨v, rfl, hown, hB⟩
  obtain ⟨A, c, rfl, h1, h2⟩ := own_shape hown
  exact ⟨A, c, rfl, hown, hB, h2⟩
theorem has_any (w : World) (S b g : Nat) (A : Option Addr) (n c B : Nat) (l : List Nat) (hn : n ≤ 1048576) (hl : ∀ v ∈ l, v < 2 ^ 64) (h : IsP w S b g l) (hs : Sl w B A n (l.map u64v)) :
    Calls Try.prog 12 #[.pointer (some ⟨b, 0, none⟩), .slice A n c] w fun e w' => e = .returned (.bool true) ∧ ∃ k, w' = w.drewN k := by
  have : l.length = n := by have := hs.1; simpa using this
  subst this
  exact has_true w b g _ _ _ A c B l hn (widthL_le_64 l hl) h.1 hs (has_get l)
theorem code_len_le (l : List Nat) (hn : l.length ≤ 1048576) (hl : ∀ v ∈ l, v < 2 ^ 64) : (code l).length ≤ 8388613 := by
  rw [code_length]
  have := Nat.mul_le_mul hn (widthL_le_64 l hl)
  omega

set_option maxHeartbeats 2000000 in
theorem encodes_walk (w : World) (A : Option Addr) (n c : Nat) (l : List Nat) (hn : n ≤ 3000) (hl : ∀ v ∈ l, v < 2 ^ 64) (hs : Sl w w.heap.size A n (l.map u64v)) :
    Calls Try.prog 4 #[.slice A n c] w fun e w' => e = .returned (.bool true) ∧ Below w.heap.size w w' := by
  have hnb : decide ((3000 : Int) < (n : Int)) = false := by simp; omega
  have hlen : Hid (l.length = n) := Lib.hid (by have := hs.1; simpa using this)
  have hcl : (code l).length ≤ 8388613 := code_len_le l (by rw [hlen.out]; omega) hl
  have HL := Lib.hid hl; clear hl
  have HS := Lib.hid hs; clear hs
  go_enter Try.func4, Try.ntmps4
  go_wp2_with fail
  refine (new_any w A n c l (by omega) HL.out HS.out).mono ?_
  rintro e w1 ⟨b, g, rfl, hp, hB1⟩
  have HP := Lib.hid hp; clear hp
  have hbg := Lib.hid HP.out.lt
  go_wp2_with fail
  refine (enc_any w1 _ b g l (by rw [hlen.out]; omega) HL.out HP.out).mono ?_
  rintro e w2 ⟨A2, c2, rfl, hown2, hB2, hc2⟩
  have hB2' : Below w.heap.size w w2 := hB1.trans (hB2.mono hB1.size)
  have HP2 := Lib.hid (HP.out.below hB2 (Nat.le_refl _))
  have HO2 := Lib.hid hown2; clear hown2 HP
  go_wp2_with fail
  refine (renc_any w2 A n c l (by omega) HL.out ((HS.out.below hB2').more hB2'.size)).mono ?_
  rintro e w3 ⟨A3, c3, rfl, hown3, hB3, hc3⟩
  have hB3' : Below w.heap.size w w3 := hB2'.trans (hB3.mono hB2'.size)
  have HP3 := Lib.hid (HP2.out.below hB3 (Nat.le_refl _))
  have HO23 := Lib.hid (own_below HO2.out hB3 (fun q e => (HO2.out.lt q e).2))
  have hlt2 := Lib.hid HO2.out.lt
  have HO3 := Lib.hid hown3; clear hown3 HP2 HO2
  go_wp2_with fail
  refine (same_any w3 _ _ _ _ _ _ w3.heap.size (code l) (code l) (by unfold maxLen; omega) (by unfold maxLen; omega) (Sl.of_own HO23.out) (Sl.of_own HO3.out)).mono ?_
  rintro e w4 ⟨rfl, hq4⟩
  have hB4 := hB3'.trans (bel_quiet w.heap.size hq4)
  have HP4 := Lib.hid (HP3.out.below (bel_quiet w3.heap.size hq4) (Nat.le_refl _))
  have HO4 := Lib.hid (own_below HO23.out (bel_quiet w3.heap.size hq4) (fun q e => (HO23.out.lt q e).2))
  clear hq4 HP3 HO3 HO23
  have hdt : decide (code l = code l) = true := by simp
  rw [hdt]
  clear hdt
  have HBU : Hid (Bump 5 .u8 w4 w4 w1.heap.size (.slice A2 (code l).length c2) (code l).length) := Lib.hid (Bump.start (ys := code l) HO4.out)
  obtain ⟨m, hm⟩ : ∃ m, (code l).length = m := ⟨_, rfl⟩
  rw [hm] at HBU hlt2 hcl ⊢
  have HM := Lib.hid hm; clear hm HO4
  go_wp2_with fail
  go_loopw [6] (fun ix wr => ∃ k : Nat, k ≤ m ∧ ix = .int .i64 k ∧ Bump 5 .u8 w4 wr w1.heap.size (.slice A2 m c2) m) (fun ix _ => m - (intOf ix).toNat)
  case atStart => exact ⟨0, Nat.zero_le _, rfl, HBU.out⟩
  case round =>
    obtain ⟨k, hk, rfl, hst⟩ := hrel
    by_cases hlt : k < m
    · obtain ⟨gm, y, rfl, hcy, hfy, hnext⟩ := hst.at_ hlt
      have HN := Lib.hid hnext; clear hnext hst
      go_wp2
      go_roundw
      case rel =>
        refine ⟨k + 1, by omega, by go_num, ?_⟩
        have h1 := HN.out ((y + 1) % 256)
        have e1 : (((y + 1) % 256 : Nat) : Int) = ((y : Int) + 1) % 256 := by omega
        rw [e1] at h1
        exact h1
      case measure => simp [intOf]; omega
    · obtain rfl : m = k := by omega
      have HPr := Lib.hid (HP4.out.grown hst.2 (fun e => by have h1 := (hlt2.out _ e).1; have h2 := hbg.out.1; omega) (fun e => by have h1 := (hlt2.out _ e).1; have h2 := hbg.out.2; omega))
      have hBr := hB4.trans (hst.below hB1.size hB4.size)
      clear hst
      go_wp2_with fail
      refine (has_any wr _ b g A n c w.heap.size l (by omega) HL.out HPr.out (HS.out.below hBr)).mono ?_
      rintro e w5 ⟨rfl, hq5⟩
      have hB5 := hBr.trans (bel_quiet w.heap.size hq5)
      clear hq5
      go_wp2_with fail
      refine (works_true w5).mono ?_
      rintro e w6 ⟨rfl, hB6⟩
      go_wp2
      go_ret
      exact ⟨rfl, hB5.trans (hB6.mono hB5.size)⟩
set_option maxHeartbeats 1000000 in
theorem encodes_long (w : World) (A : Option Addr) (n c : Nat) (hn : 3000 < n) :
    Calls Try.prog 4 #[.slice A n c] w fun e w' => e = .returned (.bool true) ∧ Below w.heap.size w w' := by
  have hnb : decide ((3000 : Int) < (n : Int)) = true := by simp; omega
  go_enter Try.func4, Try.ntmps4
  go_wp2
  go_ret
  exact ⟨rfl, Below.refl _ _⟩
theorem encodes_all (a0 : Option Addr) (len0 cap0 : Nat) (z0 : List Int) (w : World) (w0 : ArgRow .u64 w a0 len0 cap0 z0) :
    Calls Try.prog 4 #[.slice a0 len0 cap0] w fun e w' => e = .returned (.bool true) ∧ Below w.heap.size w w' := by
  by_cases h : len0 ≤ 3000
  · obtain ⟨l, hl, hc, hcm, hw, hs⟩ := arg_sl w0 nn_u64
    exact encodes_walk w a0 len0 cap0 l h (fun v hv => lt_u64 v (hw v hv)) hs
  · exact encodes_long w a0 len0 cap0 (by omega)
end Go.Proofs.Ytjjhllbbkflnnaa
