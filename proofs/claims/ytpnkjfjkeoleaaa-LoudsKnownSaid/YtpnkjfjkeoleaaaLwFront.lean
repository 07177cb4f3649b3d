/- louds, the laws' common beginning: Set, then build; Under for any number. -/
import Derived.Test.YtpnkjfjkeoleaaaLwWorks
import Derived.Test.YtpnkjfjkeoleaaaLrChk
import Derived.Test.YtpnkjfjkeoleaaaGOpen
set_option linter.unusedVariables false
set_option maxRecDepth 100000
namespace Go.Proofs.Ytpnkjfjkeoleaaa.LD
open Go.RowKit HK
open Go.Proofs.Ytpnkjfjkeoleaaa.B (bytesOf bytesOf_len bytesOf_lt)

/-- What Set has returned, in the world w1. -/
structure SetF (w w1 : World) (A : Option Addr) (m c : Nat) (ss : List ByteArray) : Prop where
  len : ss.length = m
  few : m ≤ 300
  set : SetL ss
  own : w1.ownsRow w.heap.size 9 1 (.slice A m c) m (ss.map Value.string)
  bel : Below w.heap.size w w1
theorem setF_of {w w1 : World} {e : Ending} (h : SetPost w e w1) : ∃ A m c ss, e = .returned (.slice A m c) ∧ SetF w w1 A m c ss := by
  obtain ⟨A, m, c, ss, he, h1, h2, h3, h4, h5⟩ := h
  exact ⟨A, m, c, ss, he, h1, h2, h3, h4, h5⟩
section
variable {w w1 : World} {A : Option Addr} {m c : Nat} {ss : List ByteArray} (h : SetF w w1 A m c ss)
include h
theorem SetF.good : Good (ss.map bytesOf) := h.set.good (by have := h.few; have := h.len; omega)
theorem SetF.size : ∀ s ∈ ss, s.size ≤ maxLen := fun s hs => by have := (h.set.len s hs).2; unfold maxLen; omega
theorem SetF.wt : LD.wt (ss.map bytesOf) (root (ss.map bytesOf)) ≤ 524287 := wt_small h.good (by rw [List.length_map, h.len]; have := h.few; omega)
theorem SetF.sl {W : World} (hW : Below w1.heap.size w1 W) : Sl W w1.heap.size A m (ss.map Value.string) := (Sl.of_own h.own).below hW
theorem SetF.len' : (ss.map bytesOf).length = m := by rw [List.length_map, h.len]
theorem SetF.build : Calls Try.prog 16 #[.slice A m c] w1 (Made w1 (ss.map bytesOf)) :=
  lwbuild_any w1 A m c ss _ rfl h.good h.wt (by have := h.few; unfold maxLen; omega) h.size (Sl.of_own h.own)
end
/-- A trie, and its strings beside it. -/
structure Both (w : World) (B S E tb : Nat) (A : Option Addr) (m c : Nat) (ss : List ByteArray) (ks : List (List Span)) : Prop where
  tr : TR w S E tb (ss.map bytesOf) ks
  sl : Sl w B A m (ss.map Value.string)
  low : B ≤ w.heap.size
  few : m ≤ 300
  size : ∀ s ∈ ss, s.size ≤ maxLen
theorem Both.next {w w' : World} {B S E tb : Nat} {A : Option Addr} {m c : Nat} {ss : List ByteArray} {ks : List (List Span)} (h : Both w B S E tb A m c ss ks) (hb : Below w.heap.size w w') : Both w' B S E tb A m c ss ks :=
  ⟨h.tr.next hb, h.sl.keep (fun b o hlt => hb.cell (p := ⟨b, o, none⟩) (Nat.lt_of_lt_of_le hlt h.low)), Nat.le_trans h.low hb.size, h.few, h.size⟩
theorem Both.drewN {w : World} {B S E tb : Nat} {A : Option Addr} {m c : Nat} {ss : List ByteArray} {ks : List (List Span)} (h : Both w B S E tb A m c ss ks) (q : Nat) : Both (w.drewN q) B S E tb A m c ss ks :=
  h.next (bel_drewN (Below.refl _ _) q)
theorem Both.len {w : World} {B S E tb : Nat} {A : Option Addr} {m c : Nat} {ss : List ByteArray} {ks : List (List Span)} (h : Both w B S E tb A m c ss ks) : (ss.map bytesOf).length = m := by
  have := h.sl.1; simpa using this
theorem both_of {w w1 w2 : World} {A : Option Addr} {m c tb : Nat} {ss : List ByteArray} {ks : List (List Span)} (h : SetF w w1 A m c ss) (hT : TR w2 w1.heap.size w2.heap.size tb (ss.map bytesOf) ks) (hB : Below w1.heap.size w1 w2) :
    Both w2 w1.heap.size w1.heap.size w2.heap.size tb A m c ss ks := ⟨hT, h.sl hB, hB.size, h.few, h.size⟩

theorem under_none {p : Str} {L : List Str} (h : L.length = 0) : under L p = [] := by
  unfold under; rw [h]; rfl
theorem lunder_any (w : World) (S E tb : Nat) (L : List Str) (ks : List (List Span)) (h : TR w S E tb L ks) (s : ByteArray) (hs : s.size ≤ maxLen) (most : Int) (hm : (Lit.int .i64 most).wf = true) :
    Calls Try.prog 19 #[.pointer (some ⟨tb, 0, none⟩), .string s, .int .i64 most] w (UnderPost w ((under L (bytesOf s)).take most.toNat)) := by
  by_cases ho : L.length = 0 ∨ 256 < s.size ∨ most < 1
  · refine (lunder_nilout w S E tb L ks h s hs most hm ho).mono ?_
    rintro e w' ⟨rfl, rfl⟩
    have e1 : (under L (bytesOf s)).take most.toNat = [] := by
      rcases ho with h1 | h1 | h1
      · rw [under_none h1]; simp
      · rw [under_long h.good (by rw [bytesOf_len]; exact h1)]; simp
      · rw [show most.toNat = 0 by omega]; simp
    rw [e1]
    exact under_nil w _ (Below.refl _ _)
  · obtain ⟨k, rfl⟩ : ∃ k : Nat, most = k := ⟨most.toNat, by omega⟩
    rw [Int.toNat_natCast]
    exact lunder_in w S E tb L ks h s hs k hm (by omega) (by omega) (by omega)
theorem under_lt {L : List Str} {p : Str} : ∀ v ∈ under L p, v < L.length := by
  intro v hv
  unfold under at hv
  have := (List.mem_filter.1 hv).1
  simpa using this
/-- The numbers of the strings that begin with p follow each other. -/
theorem Full.under_range {L : List Str} {ks : List (List Span)} (F : Full L ks) (p : Str) : ∃ f n, under L p = List.range' f n ∧ f + n ≤ L.length := by
  by_cases h : ∃ i, Reach L ks p i
  · obtain ⟨i, x, hx, e⟩ := h
    refine ⟨x.f, x.t - x.f, F.under_at hx e, ?_⟩
    have h1 := (F.ok hx).le
    have h2 := (F.ok hx).ne
    omega
  · exact ⟨0, 0, by rw [F.under_no (fun i hi => h ⟨i, hi⟩)]; rfl, by omega⟩
end Go.Proofs.Ytpnkjfjkeoleaaa.LD
