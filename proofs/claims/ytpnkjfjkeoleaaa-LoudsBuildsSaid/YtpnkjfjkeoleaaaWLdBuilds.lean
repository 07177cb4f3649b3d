/- louds: the law LoudsBuilds. -/
import Derived.Test.YtpnkjfjkeoleaaaLwFront
set_option linter.unusedVariables false
set_option maxRecDepth 100000
namespace Go.Proofs.Ytpnkjfjkeoleaaa.LD
open Go.RowKit HK
open Go.Proofs.Ytpnkjfjkeoleaaa.B (bytesOf bytesOf_len bytesOf_lt)

/-- What Build and Check say, side by side. -/
def BuildsAt (W : World) (A : Option Addr) (n c : Nat) (L : List Str) : Prop :=
  (∃ x : Int, (x = 1 ∨ x = 2) ∧ Calls Try.prog 23 #[.slice A n c] W (fun e w' => e = .returned (.tuple #[.pointer none, .int .i64 x]) ∧ Below W.heap.size W w') ∧
    ∀ W', Below W.heap.size W W' → Calls Try.prog 27 #[.slice A n c] W' fun e w' => e = .returned (.int .i64 x) ∧ ∃ q, w' = W'.drewN q) ∨
  (Calls Try.prog 23 #[.slice A n c] W (Made2 W L) ∧ (∀ W', Below W.heap.size W W' → Calls Try.prog 27 #[.slice A n c] W' fun e w' => e = .returned (.int .i64 0) ∧ ∃ q, w' = W'.drewN q) ∧
    ∀ W', Below W.heap.size W W' → Calls Try.prog 16 #[.slice A n c] W' (Made W' L))
theorem builds_at (W : World) (A : Option Addr) (n c : Nat) (ss : List ByteArray) (L : List Str) (hL : ss.map bytesOf = L) (hm : n ≤ maxLen) (hz : ∀ s ∈ ss, s.size ≤ maxLen) (hs : Sl W W.heap.size A n (ss.map Value.string)) : BuildsAt W A n c L := by
  have hck : ∀ W', Below W.heap.size W W' → Calls Try.prog 27 #[.slice A n c] W' (RChkPost W' n L) := fun W' hW => rcheck_any W' W.heap.size A n c ss L hL hm hz (hs.below hW)
  by_cases hbad : 20000 < n ∨ ¬ Good L
  · left
    have hb := lbuild_bad W A n c ss L hL hbad hm hz hs
    by_cases hbig : 20000 < n
    · refine ⟨2, .inr rfl, hb.mono ?_, fun W' hW => (hck W' hW).mono ?_⟩
      · rintro e w' ⟨h1, ⟨_, h2⟩ | ⟨h2, _⟩⟩
        · exact ⟨h2, h1⟩
        · omega
      · rintro e w' ⟨h1, ⟨_, h2⟩ | ⟨h2, _⟩ | ⟨h2, _⟩ | ⟨h2, _⟩⟩
        · exact ⟨h2, h1⟩
        · omega
        · omega
        · omega
    · have hng : ¬ Good L := hbad.resolve_left hbig
      refine ⟨1, .inl rfl, hb.mono ?_, fun W' hW => (hck W' hW).mono ?_⟩
      · rintro e w' ⟨h1, ⟨h2, _⟩ | ⟨_, h2⟩⟩
        · omega
        · exact ⟨h2, h1⟩
      · rintro e w' ⟨h1, ⟨h2, _⟩ | ⟨_, h2, _⟩ | ⟨_, h2, _⟩ | ⟨_, _, h2⟩⟩
        · omega
        · exact (hng h2).elim
        · exact (hng h2).elim
        · exact ⟨h2, h1⟩
  · have hg : Good L := Classical.byContradiction fun h => hbad (.inr h)
    by_cases hw : wt L (root L) ≤ 524287
    · right
      refine ⟨lbuild_made W A n c ss L hL hg hw hm hz hs, fun W' hW => (hck W' hW).mono ?_, fun W' hW => lwbuild_any W' A n c ss L hL hg hw hm hz ((hs.below hW).more hW.size)⟩
      rintro e w' ⟨h1, ⟨h2, _⟩ | ⟨_, _, _, h2⟩ | ⟨_, _, h2, _⟩ | ⟨_, h2, _⟩⟩
      · exact (hbad (.inl h2)).elim
      · exact ⟨h2, h1⟩
      · omega
      · exact (h2 hg).elim
    · left
      refine ⟨2, .inr rfl, (lbuild_good W A n c ss L hL hg hm hz hs).mono ?_, fun W' hW => (hck W' hW).mono ?_⟩
      · rintro e w' ⟨h1, ⟨h2, _⟩ | ⟨_, h2⟩⟩
        · omega
        · exact ⟨h2, h1⟩
      · rintro e w' ⟨h1, ⟨h2, _⟩ | ⟨_, _, h2, _⟩ | ⟨_, _, _, h2⟩ | ⟨_, h2, _⟩⟩
        · exact (hbad (.inl h2)).elim
        · omega
        · exact ⟨h2, h1⟩
        · exact (h2 hg).elim

set_option maxHeartbeats 2000000 in
theorem builds_all (A : Option Addr) (n c : Nat) (ss : List ByteArray) (w : World) (hm : n ≤ maxLen) (hs : ArgStr w A n c ss) :
    Calls Try.prog 5 #[.slice A n c] w fun e w' => e = .returned (.bool true) ∧ Below w.heap.size w w' := by
  have HBA := Lib.hid (builds_at w A n c ss _ rfl hm hs.2.2.1 hs.2.2.2)
  have HSTR : Hid (∀ k, k < n → StrAt w A (ss.map bytesOf) k) := Lib.hid (fun k hk => strs_at hs.2.2.1 hs.2.2.2 hk)
  unfold maxLen at hm
  clear hs
  go_enter Try.func5, Try.ntmps5
  go_wp2
  go_loop [3, 11] (fun u v => ∃ (z : Int) (k : Nat), u = .int .i64 z ∧ v = .int .i64 k ∧ k ≤ n) (fun _ v => n - (intOf v).toNat)
  case atStart => exact ⟨0, 0, rfl, rfl, Nat.zero_le _⟩
  case round =>
    obtain ⟨z, k, rfl, rfl, hk⟩ := hrel
    by_cases hlt : k < n
    · have hb0 : decide ((k : Int) < (n : Int)) = true := by simp; omega
      obtain ⟨b, off, s, rfl, hc, hat, hsz⟩ := HSTR.out k hlt
      clear hat
      go_wp2
      go_round
      case rel => exact ⟨_, k + 1, rfl, by go_num, by omega⟩
      case measure => simp [intOf]; omega
    · obtain rfl : k = n := by omega
      have hb0 : decide ((k : Int) < (k : Int)) = false := by simp
      by_cases hz : 20000 < z
      · have g0 : decide (20000 < z) = true := by simpa using hz
        go_wp2_with fail
        refine (lworks_true _).mono ?_
        rintro e w6 ⟨rfl, hB6⟩
        have HB6 := Lib.hid hB6
        clear hB6
        go_wp2
        go_ret
        exact ⟨rfl, HB6.out⟩
      · have g0 : decide (20000 < z) = false := by simpa using hz
        rcases HBA.out with ⟨x, hx, h1, h2⟩ | ⟨h1, h2, h3⟩
        · have H1 := Lib.hid h1; have H2 := Lib.hid h2
          clear h1 h2
          have g1 : (x == 0) = false := by rw [beq_eq_false_iff_ne]; omega
          have g2 : (x == x) = true := by simp
          have g3 : (x != 0) = true := by rw [bne_iff_ne]; omega
          clear hx
          go_wp2_with fail
          refine H1.out.mono ?_
          rintro e w1 ⟨rfl, hB1⟩
          have HC := Lib.hid (H2.out w1 hB1)
          have HB1 := Lib.hid hB1
          clear hB1
          go_wp2_with fail
          refine HC.out.mono ?_
          rintro e w2 ⟨rfl, q, rfl⟩
          go_wp2_with fail
          refine (lworks_true _).mono ?_
          rintro e w6 ⟨rfl, hB6⟩
          have HB6 := Lib.hid ((bel_drewN HB1.out q).trans (hB6.mono HB1.out.size))
          clear hB6
          go_wp2
          go_ret
          exact ⟨rfl, HB6.out⟩
        · have H1 := Lib.hid h1; have H2 := Lib.hid h2; have H3 := Lib.hid h3
          clear h1 h2 h3
          go_wp2_with fail
          refine H1.out.mono ?_
          rintro e w1 ⟨tb, ks, rfl, hT, hB1⟩
          have HC := Lib.hid (H2.out w1 hB1)
          have HB1 := Lib.hid hB1
          clear hB1 hT
          go_wp2_with fail
          refine HC.out.mono ?_
          rintro e w2 ⟨rfl, q, rfl⟩
          have HC3 := Lib.hid (H3.out _ (bel_drewN HB1.out q))
          go_wp2_with fail
          refine HC3.out.mono ?_
          rintro e w3 ⟨tb3, ks3, rfl, hT3, hB3⟩
          have HB3 := Lib.hid ((bel_drewN HB1.out q).trans (hB3.mono HB1.out.size))
          clear hB3 hT3
          go_wp2_with fail
          refine (lworks_true _).mono ?_
          rintro e w6 ⟨rfl, hB6⟩
          have HB6 := Lib.hid (HB3.out.trans (hB6.mono HB3.out.size))
          clear hB6
          go_wp2
          go_ret
          exact ⟨rfl, HB6.out⟩
end Go.Proofs.Ytpnkjfjkeoleaaa.LD
