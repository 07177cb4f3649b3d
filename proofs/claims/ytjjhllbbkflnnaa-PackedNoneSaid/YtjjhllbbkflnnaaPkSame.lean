/- packed laws: SameBytes, has, works; the reference's Width. -/
import Derived.Test.YtjjhllbbkflnnaaPkEnc
set_option linter.unusedVariables false
namespace Go.Proofs.Ytjjhllbbkflnnaa
open Go.RowKit HK

theorem eq_of_all {α : Type} (la lb : List α) (k n : Nat) (ha : la.length = n) (hb : lb.length = n) (h : la.take n = lb.take n) : la = lb := by
  rw [List.take_of_length_le (by omega), List.take_of_length_le (by omega)] at h
  exact h
theorem ne_of_at {la lb : List Nat} {k a b : Nat} (ha : la[k]? = some a) (hb : lb[k]? = some b) (h : a ≠ b) : ¬ la = lb := by
  rintro rfl
  rw [ha] at hb
  injection hb with hb
  exact h hb
theorem take_ext {la lb : List Nat} {k a b : Nat} (ha : la[k]? = some a) (hb : lb[k]? = some b) (h : a = b) (ht : la.take k = lb.take k) : la.take (k + 1) = lb.take (k + 1) := by
  rw [List.take_add_one, List.take_add_one, ha, hb, ht, h]

set_option maxHeartbeats 1000000 in
theorem same_any (w : World) (A A' : Option Addr) (n c n' c' B : Nat) (la lb : List Nat) (hn : n ≤ maxLen) (hn' : n' ≤ maxLen) (ha : Sl w B A n (la.map u8v)) (hb : Sl w B A' n' (lb.map u8v)) :
    Calls Try.prog 18 #[.slice A n c, .slice A' n' c'] w fun e w' => e = .returned (.bool (decide (la = lb))) ∧ ∃ k, w' = w.drewN k := by
  unfold maxLen at hn hn'
  have hla : Hid (la.length = n) := Lib.hid (by have := ha.1; simpa using this)
  have hlb : Hid (lb.length = n') := Lib.hid (by have := hb.1; simpa using this)
  have HA := Lib.hid ha; have HB := Lib.hid hb; clear ha hb
  by_cases hnn : n = n'
  · subst hnn
    go_enter Try.func18, Try.ntmps18
    go_wp2
    go_loopw [5] (fun i wr => ∃ k : Nat, k ≤ n ∧ i = .int .i64 k ∧ la.take k = lb.take k ∧ ∃ q, wr = w.drewN q) (fun i _ => n - (intOf i).toNat)
    case atStart => exact ⟨0, Nat.zero_le _, rfl, rfl, 0, rfl⟩
    case round =>
      obtain ⟨k, hk, rfl, htk, q, rfl⟩ := hrel
      have HT := Lib.hid htk; clear htk
      by_cases hlt : k < n
      · obtain ⟨b1, o1, u1, rfl, _, hu1, hc1⟩ := HA.out.at_ hlt
        obtain ⟨b2, o2, u2, rfl, _, hu2, hc2⟩ := HB.out.at_ hlt
        obtain ⟨v1, hv1, rfl⟩ := at_u8 hu1
        obtain ⟨v2, hv2, rfl⟩ := at_u8 hu2
        have HV1 := Lib.hid hv1; have HV2 := Lib.hid hv2; clear hu1 hu2 hv1 hv2
        have hli : (k : Int) < (n : Int) := by omega
        by_cases hv : v1 = v2
        · have hbne : ((v1 : Int) != (v2 : Int)) = false := by simp [hv]
          have HE := Lib.hid hv; clear hv
          go_wp2
          go_quiet (fail)
          go_wp2
          go_roundw
          case rel => exact ⟨k + 1, by omega, by go_num, take_ext HV1.out HV2.out HE.out HT.out, _, rfl⟩
          case measure => simp [intOf]; omega
        · have hbne : ((v1 : Int) != (v2 : Int)) = true := by simp; omega
          have HE := Lib.hid hv; clear hv
          go_wp2
          go_quiet (fail)
          go_wp2
          go_ret
          exact ⟨by rw [decide_eq_false (ne_of_at HV1.out HV2.out HE.out)]; rfl, q + nq, by first | rfl | exact World.drewN_drewN _ _ _⟩
      · obtain rfl : n = k := by omega
        go_wp2
        go_ret
        exact ⟨by rw [decide_eq_true (eq_of_all la lb 0 n hla.out hlb.out HT.out)]; rfl, q, rfl⟩
  · have hne : ((n : Int) != (n' : Int)) = true := by simp; omega
    go_enter Try.func18, Try.ntmps18
    go_wp2
    go_ret
    refine ⟨?_, 0, rfl⟩
    rw [decide_eq_false (fun e => hnn (by rw [← hla.out, ← hlb.out, e]))]; rfl

theorem PR.drewN {w : World} {b g n wd N : Nat} (h : PR w b g n wd N) (k : Nat) : PR (w.drewN k) b g n wd N := h

set_option maxHeartbeats 1000000 in
theorem has_true (w : World) (b g n wd N : Nat) (A : Option Addr) (c B : Nat) (l : List Nat) (hn : n ≤ 1048576) (h64 : wd ≤ 64) (h : PR w b g n wd N)
    (hs : Sl w B A n (l.map u64v)) (hl : ∀ i v, l[i]? = some v → v = N / 2 ^ (i * wd) % 2 ^ wd) :
    Calls Try.prog 12 #[.pointer (some ⟨b, 0, none⟩), .slice A n c] w fun e w' => e = .returned (.bool true) ∧ ∃ k, w' = w.drewN k := by
  have hc0 : w.cell? ⟨b, 0, none⟩ = some (.int .i64 n) := h.1.cell 0
  have H := Lib.hid h; clear h
  have HS := Lib.hid hs; clear hs
  have HL := Lib.hid hl; clear hl
  go_enter Try.func12, Try.ntmps12
  go_wp2_with (go_at_call 24; refine (plen_any _ _ _ hc0).mono ?_; rintro e w' ⟨rfl, rfl⟩)
  go_loopw [5] (fun i wr => ∃ k : Nat, k ≤ n ∧ i = .int .i64 k ∧ ∃ q, wr = w.drewN q) (fun i _ => n - (intOf i).toNat)
  case atStart => exact ⟨0, Nat.zero_le _, rfl, 0, rfl⟩
  case round =>
    obtain ⟨k, hk, rfl, q, rfl⟩ := hrel
    by_cases hlt : k < n
    · obtain ⟨b1, o1, u1, rfl, _, hu1, hc1⟩ := HS.out.at_ hlt
      obtain ⟨v1, hv1, rfl⟩ := at_u64 hu1
      have HV1 := Lib.hid hv1; clear hu1 hv1
      have hg := pget2_in b g n wd k N (w.drewN q) hn h64 hlt (H.out.drewN q)
      rw [← HL.out k v1 HV1.out] at hg
      have HG := Lib.hid hg; clear hg
      have hne : ((v1 : Int) != (v1 : Int)) = false := by simp
      go_wp2_with (go_at_call 15; refine HG.out.mono ?_; rintro e w' ⟨rfl, q', hw'⟩; rw [hw']; clear hw')
      go_roundw
      case rel => exact ⟨k + 1, by omega, by go_num, q + q', by first | rfl | exact World.drewN_drewN _ _ _⟩
      case measure => simp [intOf]; omega
    · obtain rfl : n = k := by omega
      go_wp2
      go_ret
      exact ⟨rfl, q, rfl⟩

theorem bel_quiet {w w' : World} (B : Nat) (h : ∃ k, w' = w.drewN k) : Below B w w' := by
  obtain ⟨k, rfl⟩ := h
  exact bel_drewN (Below.refl _ _) k
theorem size_quiet {w w' : World} (h : ∃ k, w' = w.drewN k) : w'.heap.size = w.heap.size := by
  obtain ⟨k, rfl⟩ := h
  rfl
theorem PR.quiet {w w' : World} {b g n wd N : Nat} (h : PR w b g n wd N) (hq : ∃ k, w' = w.drewN k) : PR w' b g n wd N := by
  obtain ⟨k, rfl⟩ := hq
  exact h
theorem PR.below {w w' : World} {b g n wd N B : Nat} (h : PR w b g n wd N) (hb : Below B w w') (h1 : b < B) (h2 : g < B) : PR w' b g n wd N := ⟨h.1.below hb h1, h.2.below hb h2⟩
theorem sl_lit {w : World} {t : TypeId} {cs : Array Value} {xs : List Value} (hx : cs.toList = xs) : Sl (w.alloc (.cells cs t)) (w.heap.size + 1) (some ⟨w.heap.size, 0, none⟩) cs.size xs := by
  have h := Sl.of_row (Row.new w t cs) cs.size (Nat.le_refl _)
  rw [World.size_alloc] at h
  rw [List.take_of_length_le (by simp), hx] at h
  exact h
set_option maxHeartbeats 1000000 in
theorem works_true (w : World) : Calls Try.prog 16 #[] w fun e w' => e = .returned (.bool true) ∧ Below w.heap.size w w' := by
  have hnew := pnew_walk (w.alloc (.cells #[.int .u64 5, .int .u64 0, .int .u64 3] 27)) (some ⟨w.heap.size, 0, none⟩) 3 3 [5, 0, 3] (by decide) (by decide) (by rw [World.size_alloc]; exact sl_lit (cs := #[.int .u64 5, .int .u64 0, .int .u64 3]) rfl)
  have e1 : widthL [5, 0, 3] = 3 := by decide +kernel
  have e2 : packN 3 [5, 0, 3] = 197 := by decide +kernel
  rw [e1, e2] at hnew
  clear e1 e2
  have HN := Lib.hid hnew; clear hnew
  go_enter Try.func16, Try.ntmps16
  go_wp2_with fail
  refine HN.out.mono ?_
  rintro e w1 ⟨b, g, rfl, hpr, hb, hg, hB⟩
  have H := Lib.hid hpr; clear hpr
  have hget := pget2_in b g 3 3 2 197 w1 (by decide) (by decide) (by decide) H.out
  have e3 : ((197 / 2 ^ (2 * 3) % 2 ^ 3 : Nat) : Int) = 3 := by decide
  rw [e3] at hget
  clear e3
  have HG := Lib.hid hget; clear hget
  go_wp2_with fail
  refine HG.out.mono ?_
  rintro e w2 ⟨rfl, hq2⟩
  have hB2 := bel_quiet w1.heap.size hq2
  have H2 := Lib.hid (H.out.quiet hq2)
  clear hq2
  have hc0 : w2.cell? ⟨b, 0, none⟩ = some (.int .i64 3) := H2.out.1.cell 0
  have hc1 : w2.cell? ⟨b, 1, none⟩ = some (.int .i64 3) := H2.out.1.cell 1
  go_wp2_with fail
  refine (plen_any _ 3 _ hc0).mono ?_
  rintro e w' ⟨rfl, rfl⟩
  go_wp2_with fail
  refine (pwidth_any _ 3 _ hc1).mono ?_
  rintro e w' ⟨rfl, rfl⟩
  go_wp2_with fail
  refine (penc_walk _ b g 3 3 197 (by decide) (by decide) H2.out).mono ?_
  rintro e w3 ⟨v, rfl, hown, hB3⟩
  obtain ⟨A, c, rfl, hc, hcm⟩ := own_shape hown
  have HO := Lib.hid hown; clear hown
  go_wp2_with fail
  refine (same_any _ _ _ _ _ _ _ (w3.heap.size + 1) _ [3, 0, 0, 0, 3, 197, 0] (by decide) (by decide) (((Sl.of_own HO.out).alloc (Nat.le_refl _) _).more (by omega)) (sl_lit (cs := #[.int .u8 3, .int .u8 0, .int .u8 0, .int .u8 0, .int .u8 3, .int .u8 197, .int .u8 0]) rfl)).mono ?_
  rintro e w4 ⟨rfl, hq4⟩
  have hB4 := bel_quiet w3.heap.size hq4
  clear hq4
  have e4 : decide (hdr 3 3 ++ bytesN 197 ((3 * 3 + 7) / 8) = [3, 0, 0, 0, 3, 197, 0]) = true := by decide +kernel
  rw [e4]
  clear e4
  go_wp2
  go_ret
  refine ⟨rfl, ?_⟩
  have hs1 := hB.size
  have hs2 := hB2.size
  have hs3 := hB3.size
  simp only [World.size_alloc] at hs1
  refine Below.trans ?_ (hB4.mono (by omega))
  refine Below.alloc ?_ (by omega) _
  refine Below.trans ?_ (hB3.mono (by omega))
  refine Below.trans ?_ (hB2.mono (by omega))
  exact Below.trans ((Below.refl _ w).alloc (Nat.le_refl _) _) (hB.mono (by simp))
end Go.Proofs.Ytjjhllbbkflnnaa
