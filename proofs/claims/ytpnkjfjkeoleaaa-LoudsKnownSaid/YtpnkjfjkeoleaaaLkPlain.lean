/- louds: plain facts of the examples and the limits. Nothing of the program. No conditions beyond those each theorem names. -/
import Derived.Test.YtpnkjfjkeoleaaaLwWorks
import Derived.Test.YtpnkjfjkeoleaaaLgDec
import Derived.Test.YtpnkjfjkeoleaaaLrPlain
set_option linter.unusedVariables false
set_option maxRecDepth 100000
namespace Go.Proofs.Ytpnkjfjkeoleaaa.LD
open HK
open B (bytesOf bytesOf_len num4b)

/-! Strings of 256 bytes that differ early. -/
def mStr (i : Nat) : Str := (i / 256) :: (i % 256) :: List.replicate 254 0
def mL (n : Nat) : List Str := (List.range n).map mStr
def mS (n : Nat) : List ByteArray := (List.range n).map (fun i => bs (mStr i))
theorem mStr_len (i : Nat) : (mStr i).length = 256 := by simp [mStr]
theorem mStr_lt {i : Nat} (h : i < 65536) : ∀ v ∈ mStr i, v < 256 := by
  intro v hv
  unfold mStr at hv
  rcases List.mem_cons.1 hv with rfl | hv
  · omega
  · rcases List.mem_cons.1 hv with rfl | hv
    · omega
    · rw [(List.mem_replicate.1 hv).2]; omega
theorem mS_L {n : Nat} (hn : n ≤ 65536) : (mS n).map bytesOf = mL n := by
  unfold mS mL
  rw [List.map_map]
  apply List.map_congr_left
  intro i hi
  exact B.bytesOf_bs _ (mStr_lt (by have := List.mem_range.1 hi; omega))
theorem mL_len (n : Nat) : (mL n).length = n := by simp [mL]
theorem mS_len (n : Nat) : (mS n).length = n := by simp [mS]
theorem mS_snoc (n : Nat) : mS (n + 1) = mS n ++ [bs (mStr n)] := by simp [mS, List.range_succ]
theorem mS_take {n m : Nat} (h : m ≤ n) : (mS n).take m = mS m := by
  unfold mS
  rw [← List.map_take, List.take_range, Nat.min_eq_left h]
theorem mS_size {n : Nat} : ∀ s ∈ mS n, s.size ≤ 256 := by
  intro s hs
  obtain ⟨i, _, rfl⟩ := List.mem_map.1 hs
  rw [bs_size, mStr_len]; omega
theorem mL_at {n j : Nat} (h : j < n) : at_ (mL n) j = mStr j := by
  unfold at_ mL
  rw [List.getD_eq_getElem?_getD, List.getElem?_map, List.getElem?_range h]; rfl
theorem mStr_asc (j : Nat) : ltS (mStr j) (mStr (j + 1)) = true := by
  unfold mStr
  simp only [ltS]
  by_cases h : j / 256 < (j + 1) / 256
  · rw [if_pos h]
  · rw [if_neg h, if_pos (by omega), if_pos (by omega)]
theorem mL_good {n : Nat} (h : n ≤ 20000) : Good (mL n) := by
  refine okJ_good (by rw [mL_len]; exact h) (fun s hs => ?_) (fun j hj => ?_)
  · obtain ⟨i, hi, rfl⟩ := List.mem_map.1 hs
    exact mStr_lt (by have := List.mem_range.1 hi; omega)
  · rw [mL_len] at hj
    refine ⟨by rw [mL_at hj, mStr_len]; omega, by rw [mL_at hj, mStr_len]; omega, fun h0 => ?_⟩
    rw [mL_at hj, mL_at (by omega)]
    have := mStr_asc (j - 1)
    rwa [show j - 1 + 1 = j by omega] at this
theorem mStr_com (j : Nat) : com (mStr j) (mStr (j + 1)) ≤ 1 := by
  unfold mStr
  simp only [com]
  by_cases h : j / 256 = (j + 1) / 256
  · rw [if_pos h, if_neg (by omega)]; omega
  · rw [if_neg h]; omega
theorem mL_wt (n : Nat) : 1 + 255 * n ≤ wt (mL n) (LD.root (mL n)) := by
  rw [wt_cnt, mL_len]
  have h : ∀ k, k ≤ n → 1 + 255 * k ≤ cntTo (mL n) k := by
    intro k hk
    induction k with
    | zero => simp [cntTo]
    | succ k ih =>
      have h1 := ih (by omega)
      simp only [cntTo]
      split
      · rw [mL_at (by omega), mStr_len]; omega
      · have h2 := cost_pos (L := mL n) k
        rw [mL_at (show k < n by omega), mL_at (show k - 1 < n by omega), mStr_len] at h2
        have h3 := mStr_com (k - 1)
        rw [show k - 1 + 1 = k by omega] at h3
        omega
  exact h n (Nat.le_refl _)

/-! The trie of no strings. -/
theorem good_nil : Good [] := okJ_good (by decide) (fun s h => by cases h) (fun j hj => by simp at hj)
theorem full_nil : Full [] [[]] := ⟨good_nil, Bfs.snoc (ks := []) (x := LD.root []) (xs := []) Bfs.nil rfl rfl, rfl, by decide⟩
def code0 : List Nat := [16, 0, 0, 0, 3, 0, 0, 0, 1, 0, 0, 0, 0, 0, 0, 0, 0, 0, 0, 0, 0, 0, 0, 0, 16, 0, 0, 0, 1, 0, 0, 0, 0, 0, 0, 0, 0, 0, 0, 0, 0, 0, 0, 0, 5, 0, 0, 0, 0, 0, 0, 0, 0]
theorem codeK_nil : codeK [] [[]] = code0 := by decide +kernel
theorem code0_lt : ∀ v ∈ code0, v < 256 := by decide +kernel
theorem code0_bs : bs code0 = ⟨#[16, 0, 0, 0, 3, 0, 0, 0, 1, 0, 0, 0, 0, 0, 0, 0, 0, 0, 0, 0, 0, 0, 0, 0, 16, 0, 0, 0, 1, 0, 0, 0, 0, 0, 0, 0, 0, 0, 0, 0, 0, 0, 0, 0, 5, 0, 0, 0, 0, 0, 0, 0, 0]⟩ := by decide +kernel
theorem full_nil_one {ks : List (List Span)} (F : Full [] ks) : codeK [] ks = code0 := by
  have e := F.one full_nil
  subst e
  exact codeK_nil
theorem no_code_nil (L : List Str) (ks : List (List Span)) (F : Full L ks) : codeK L ks ≠ [] := by
  intro e
  have h := codeK_len L ks
  rw [e] at h
  simp at h
  omega
def code1 : List Nat := [0, 0, 0, 0, 16, 0, 0, 0, 1, 0, 0, 0, 0, 0, 0, 0, 0, 0, 0, 0, 0, 0, 0, 0, 5, 0, 0, 0, 0, 0, 0, 0, 0, 0]
def code2 : List Nat := [16, 0, 0, 0, 1, 0, 0, 0, 0, 0, 0, 0, 0, 0, 0, 0, 0, 0, 0, 0, 5, 0, 0, 0, 0, 0, 0, 0, 0, 0]
def code3 : List Nat := [5, 0, 0, 0, 0, 0, 0, 0, 0, 0]
theorem code_c1 : (code0 ++ [0]).drop (4 + num4b (code0 ++ [0])) = code1 := by decide +kernel
theorem code_c2 : code1.drop (4 + num4b code1) = code2 := by decide +kernel
theorem code_c3 : code2.drop (4 + num4b code2) = code3 := by decide +kernel
theorem code_c4 : code3.drop (4 + num4b code3) = [0] := by decide +kernel
theorem no_code_more (L : List Str) (ks : List (List Span)) (F : Full L ks) : codeK L ks ≠ code0 ++ [0] := by
  intro e
  have hs := parts_short F
  rw [codeK_cat] at e
  have h1 := (cat_front e (hs _ (by simp))).2.2.2.2
  rw [code_c1] at h1
  have h2 := (cat_front h1 (hs _ (by simp))).2.2.2.2
  rw [code_c2] at h2
  have h3 := (cat_front h2 (hs _ (by simp))).2.2.2.2
  rw [code_c3] at h3
  have h4 := (cat_front h3 (hs _ (by simp))).2.2.2.2
  rw [code_c4] at h4
  simp [cat] at h4

/-! Strings that are no set; one string of zeros. -/
theorem bad_ba : ¬ Good [[98], [97]] := fun h => absurd (h.asc 0 1 (by decide) (by decide)) (by decide)
theorem bad_aa : ¬ Good [[97], [97]] := fun h => absurd (h.asc 0 1 (by decide) (by decide)) (by decide)
theorem bad_e : ¬ Good [[]] := fun h => absurd (h.len [] (by simp)).1 (by decide)
theorem bad_257 : ¬ Good [List.replicate 257 0] := fun h => by
  have := (h.len (List.replicate 257 0) (by simp)).2
  rw [List.length_replicate] at this
  omega
theorem zer_lt (n : Nat) : ∀ v ∈ List.replicate n 0, v < 256 := fun v hv => by rw [(List.mem_replicate.1 hv).2]; omega
theorem good_256 : Good [List.replicate 256 0] := by
  refine okJ_good (by simp) (fun s hs => ?_) (fun j hj => ?_)
  · rw [List.mem_singleton] at hs; rw [hs]; exact zer_lt 256
  · obtain rfl : j = 0 := by simp at hj; omega
    refine ⟨?_, ?_, fun h => by omega⟩
    · show 1 ≤ (List.replicate 256 0).length
      rw [List.length_replicate]; omega
    · show (List.replicate 256 0).length ≤ 256
      rw [List.length_replicate]; omega
theorem wFindC : findV wL (bytesOf ⟨#[99]⟩) = .tuple #[.int .i64 0, .bool false] := by
  unfold findV
  rw [idx_none (fun k hk e => by
    have : k = 0 ∨ k = 1 ∨ k = 2 := by simp [wL] at hk; omega
    rcases this with rfl | rfl | rfl <;> exact absurd e (by decide +kernel))]
theorem wFindE : findV wL (bytesOf ⟨#[]⟩) = .tuple #[.int .i64 0, .bool false] := by
  unfold findV
  rw [idx_none (fun k hk e => by
    have : k = 0 ∨ k = 1 ∨ k = 2 := by simp [wL] at hk; omega
    rcases this with rfl | rfl | rfl <;> exact absurd e (by decide +kernel))]
theorem wHitsE : hits wL (bytesOf ⟨#[]⟩) = [] := by decide +kernel
end Go.Proofs.Ytpnkjfjkeoleaaa.LD
