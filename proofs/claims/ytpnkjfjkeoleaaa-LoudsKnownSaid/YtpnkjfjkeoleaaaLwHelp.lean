/- louds, the laws' helpers: build, has, refused; Build of what is no set. -/
import Derived.Test.YtpnkjfjkeoleaaaGLdW
import Derived.Test.YtpnkjfjkeoleaaaLrHits
set_option linter.unusedVariables false
set_option maxRecDepth 100000
namespace Go.Proofs.Ytpnkjfjkeoleaaa.LD
open Go.RowKit HK
open Go.Proofs.Ytpnkjfjkeoleaaa.B (bytesOf bytesOf_len bytesOf_lt)

/-- What Build says of strings that are no set. -/
def BadPost (w : World) (n : Nat) (e : Ending) (w' : World) : Prop :=
  Below w.heap.size w w' ∧ ((20000 < n ∧ e = .returned (.tuple #[.pointer none, .int .i64 2])) ∨ (n ≤ 20000 ∧ e = .returned (.tuple #[.pointer none, .int .i64 1])))
set_option maxHeartbeats 2000000 in
theorem lbuild_bad (w : World) (A : Option Addr) (n c : Nat) (ss : List ByteArray) (L : List Str) (hL : ss.map bytesOf = L) (hbad : 20000 < n ∨ ¬ Good L) (hm : n ≤ maxLen) (hz : ∀ s ∈ ss, s.size ≤ maxLen) (hs : Sl w w.heap.size A n (ss.map Value.string)) :
    Calls Try.prog 23 #[.slice A n c] w (BadPost w n) := by
  have HCK := Lib.hid (lcheck_any (w.alloc (.cells #[.slice A n c] 22)) w.heap.size A n c ss L hL hm hz (hs.alloc (Nat.le_refl _) _))
  have HBAD := Lib.hid hbad
  clear hbad hz hs hL hm
  refine (callsIn_wide (n := 10)).1 (callsIn_of_wp_marks Try.func23 rfl trivial ?_ rfl)
  refine wpIn_mono (wpIn_wide.2 ?_) bodyQ_post
  simp only [Try.ntmps23, List.size_toArray, List.length_cons, List.length_nil, Nat.reduceAdd, Nat.reduceSub, Array.replicate_succ, Array.replicate_zero, List.push_toArray, List.append_toArray, List.nil_append, List.cons_append]
  go_wp2_with fail
  refine HCK.out.mono ?_
  rintro e w1 ⟨rfl, hP⟩
  have hm : Marks w (w.alloc (.cells #[.slice A n c] 22)) [] := ⟨List.nodup_nil, fun D h => by cases h⟩
  rcases hP with ⟨h, rfl⟩ | ⟨h1, h2, _⟩ | ⟨h1, h2, rfl⟩
  · go_wp2
    refine marks_leave (w := w) [] _ hm (fun W2 hS => ⟨_, results_tmp2 rfl _ _ _, ?_⟩)
    exact ⟨hS.bel hm ((Below.refl _ _).alloc (Nat.le_refl _) _), .inl ⟨h, rfl⟩⟩
  · rcases HBAD.out with h3 | h3
    · omega
    · exact (h3 h2).elim
  · go_wp2
    refine marks_leave (w := w) [] _ hm (fun W2 hS => ⟨_, results_tmp2 rfl _ _ _, ?_⟩)
    exact ⟨hS.bel hm ((Below.refl _ _).alloc (Nat.le_refl _) _), .inr ⟨h1, rfl⟩⟩

/-- A trie of L has been made. -/
def Made (w : World) (L : List Str) (e : Ending) (w' : World) : Prop :=
  ∃ tb ks, e = .returned (.pointer (some ⟨tb, 0, none⟩)) ∧ TR w' w.heap.size w'.heap.size tb L ks ∧ Below w.heap.size w w'
def Made2 (w : World) (L : List Str) (e : Ending) (w' : World) : Prop :=
  ∃ tb ks, e = .returned (.tuple #[.pointer (some ⟨tb, 0, none⟩), .int .i64 0]) ∧ TR w' w.heap.size w'.heap.size tb L ks ∧ Below w.heap.size w w'
theorem lbuild_made (w : World) (A : Option Addr) (n c : Nat) (ss : List ByteArray) (L : List Str) (hL : ss.map bytesOf = L) (hg : Good L) (hw : wt L (root L) ≤ 524287) (hm : n ≤ maxLen) (hz : ∀ s ∈ ss, s.size ≤ maxLen) (hs : Sl w w.heap.size A n (ss.map Value.string)) :
    Calls Try.prog 23 #[.slice A n c] w (Made2 w L) := by
  refine (lbuild_good w A n c ss L hL hg hm hz hs).mono ?_
  rintro e w' ⟨hB, ⟨_, tb, ks, rfl, hT⟩ | ⟨h, _⟩⟩
  · exact ⟨tb, ks, rfl, ⟨hg, Nat.le_refl _, hT⟩, hB⟩
  · omega
set_option maxHeartbeats 1000000 in
theorem lwbuild_any (w : World) (A : Option Addr) (n c : Nat) (ss : List ByteArray) (L : List Str) (hL : ss.map bytesOf = L) (hg : Good L) (hw : wt L (root L) ≤ 524287) (hm : n ≤ maxLen) (hz : ∀ s ∈ ss, s.size ≤ maxLen) (hs : Sl w w.heap.size A n (ss.map Value.string)) :
    Calls Try.prog 16 #[.slice A n c] w (Made w L) := by
  have hlen : L.length = n := by have := hs.1; rw [← hL]; simpa using this
  have HB := Lib.hid (lbuild_made w A n c ss L hL hg hw hm hz hs)
  have hn : n ≤ 20000 := by have := hg.few; omega
  have HLEN := Lib.hid hlen
  clear hL hg hw hm hz hs hlen
  go_enter Try.func16, Try.ntmps16
  go_wp2_with fail
  refine HB.out.mono ?_
  rintro e w1 ⟨tb, ks, rfl, hT, hB⟩
  have hll := llen_any w1 _ _ tb L ks hT
  rw [HLEN.out] at hll
  have HT := Lib.hid hT; have HB1 := Lib.hid hB; have HLL := Lib.hid hll
  clear hT hB hll
  go_wp2_with fail
  refine HLL.out.mono ?_
  rintro e w2 ⟨rfl, rfl⟩
  go_wp2
  go_ret
  exact ⟨tb, ks, rfl, HT.out, HB1.out⟩

theorem bs_eq {s : ByteArray} {T : Str} (h : T = bytesOf s) : ((bs T).toList == s.toList) = true := by
  rw [str_eq, h, Go.Proofs.Ytpnkjfjkeoleaaa.B.bs_bytesOf]
  simp
theorem findV_at {L : List Str} (hg : Good L) {k : Nat} (hk : k < L.length) : findV L (at_ L k) = .tuple #[.int .i64 (k : Nat), .bool true] := by
  unfold findV
  rw [idx_some hg hk rfl]
set_option maxHeartbeats 4000000 in
/-- has says true of a trie of these strings. -/
theorem lhas_any (w : World) (S E tb : Nat) (ks : List (List Span)) (A : Option Addr) (n c : Nat) (ss : List ByteArray) (h : TR w S E tb (ss.map bytesOf) ks) (hm : n ≤ maxLen) (hz : ∀ s ∈ ss, s.size ≤ maxLen) (hs : Sl w w.heap.size A n (ss.map Value.string)) :
    Calls Try.prog 20 #[.pointer (some ⟨tb, 0, none⟩), .slice A n c] w fun e w' => e = .returned (.bool true) ∧ Below w.heap.size w w' := by
  have hlen : (ss.map bytesOf).length = n := by have := hs.1; simpa using this
  have HSTR : Hid (∀ W k, Below w.heap.size w W → k < n → StrAt W A (ss.map bytesOf) k) := Lib.hid (fun W k hW hk => strs_at hz (hs.below hW) hk)
  clear hs hz
  obtain ⟨L, hL⟩ : ∃ L, ss.map bytesOf = L := ⟨_, rfl⟩
  rw [hL] at HSTR hlen h
  clear hL
  have hn : n ≤ 20000 := by have := h.good.few; omega
  have hll := llen_any w _ _ tb L ks h
  rw [hlen] at hll
  have H := Lib.hid h; have HLL := Lib.hid hll; have HLEN := Lib.hid hlen
  clear h hll hlen hm
  go_enter Try.func20, Try.ntmps20
  go_wp2_with fail
  refine HLL.out.mono ?_
  rintro e w2 ⟨rfl, rfl⟩
  go_wp2
  go_loopw [21] (fun v wr => ∃ k : Nat, v = .int .i64 k ∧ k ≤ n ∧ Hid (Below w.heap.size w wr)) (fun v _ => n - (intOf v).toNat)
  case atStart => exact ⟨0, rfl, Nat.zero_le _, Lib.hid (Below.refl _ _)⟩
  case round =>
    obtain ⟨k, rfl, hk, HB⟩ := hrel
    by_cases hlt : k < n
    · have hb0 : decide ((k : Int) < (n : Int)) = true := by simp; omega
      have HTX := Lib.hid (ltext_in wr S E tb L ks (H.out.next HB.out) k (by rw [HLEN.out]; exact hlt))
      have i1 : (0 : Int) ≤ (k : Int) := by omega
      go_wp2_with fail
      refine HTX.out.mono ?_
      rintro e w1 ⟨rfl, hB1⟩
      have hB2 := HB.out.trans (hB1.mono HB.out.size)
      obtain ⟨b, off, s, rfl, hc, hat, hsz⟩ := HSTR.out w1 k hB2 hlt
      have hfd := lfind_any w1 S E tb L ks (H.out.next hB2) s (by unfold maxLen; omega)
      rw [← hat, findV_at H.out.good (by rw [HLEN.out]; exact hlt)] at hfd
      have HFD := Lib.hid hfd
      have HB2 := Lib.hid hB2
      have HAT := Lib.hid hat
      clear hfd hB1 hB2 hat
      go_wp2_with fail
      refine HFD.out.mono ?_
      rintro e w3 ⟨rfl, hB3⟩
      have hB4 := HB2.out.trans (hB3.mono HB2.out.size)
      have hc3 : w3.cell? ⟨b, off + k, none⟩ = some (.string s) := (hB3.cell (p := ⟨b, off + k, none⟩) (cell_lt hc)).trans hc
      have g1 := bs_eq HAT.out
      have g2 : ((k : Int) == (k : Int)) = true := by simp
      have HB4 := Lib.hid hB4
      clear hB3 hB4 hc
      go_wp2
      go_roundw
      case rel => exact ⟨k + 1, by go_num, by omega, HB4⟩
      case measure => simp [intOf]; omega
    · obtain rfl : k = n := by omega
      have hb0 : decide ((k : Int) < (k : Int)) = false := by simp
      go_wp2
      go_ret
      exact ⟨rfl, HB.out⟩
end Go.Proofs.Ytpnkjfjkeoleaaa.LD
