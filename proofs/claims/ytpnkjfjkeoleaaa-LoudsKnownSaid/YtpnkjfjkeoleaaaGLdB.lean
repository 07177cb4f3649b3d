/- GLdB: several texts in one: louds: check's and children's contracts (children: an iterator). louds: check, children. A region in a round of a range over a function is walked as it is elsewhere. louds: the memory of Build. louds: the loop over a node's children in Build. Conditions: those each theorem names. -/
import Derived.RangeFuncNested
import Derived.RangeFuncBound
import Derived.RangeFuncCalls
import Derived.RangeFuncLeaves
import Derived.Shelf.Abstract
import Derived.Shelf.RegionOpen
import Derived.WalkKit
import Derived.OwnWalkIn
import Derived.TacticsInMore
import Derived.LoopNIn
import Derived.LoopIn
import Derived.WalkLawsBesides
import Derived.Deep.QuietTactic
import Derived.BigQuiet
import Derived.Deep.Cut
import Derived.Test.YtpnkjfjkeoleaaaGLdA
import Derived.Test.YtpnkjfjkeoleaaaGBvA
import Derived.Lib.Hide
import Derived.OrdersIn
import Derived.TacticsIn
import Derived.OrdersHeld
import Derived.Test.YtpnkjfjkeoleaaaGPkB
import Derived.Test.YtpnkjfjkeoleaaaGBvB
/-! louds: check's and children's contracts (children: an iterator). -/
set_option linter.unusedVariables false
set_option maxRecDepth 100000
namespace Go.Proofs.Ytpnkjfjkeoleaaa.LD
open Go.RowKit Go.Shelf
open Go.Proofs.Ytpnkjfjkeoleaaa.B (bytesOf bytesOf_len bytesOf_lt)

theorem at_bytes {ss : List ByteArray} {k : Nat} {s : ByteArray} (h : ss[k]? = some s) : at_ (ss.map bytesOf) k = bytesOf s := by
  apply at_of
  rw [List.getElem?_map, h]; rfl
theorem idx_str (s : ByteArray) (d : Nat) (hd : d < (bytesOf s).length) (w : World) : (Instr.index 9 (.string s) (.int .i64 (d : Int))).run Try.prog w = .ok (.int .u8 (((bytesOf s).getD d 0 : Nat) : Int)) w := by
  have hs : d < s.size := by rw [← bytesOf_len]; exact hd
  rw [run_index_string w 9 s .i64 (d : Int) Try.underlying9, dif_pos ⟨by omega, by omega⟩]
  have e : (bytesOf s).getD d 0 = (s[d]'hs).toNat := by
    unfold bytesOf
    rw [List.getD_eq_getElem?_getD, List.getElem?_map, List.getElem?_eq_getElem (by simpa using hs)]
    rfl
  rw [e]
  rfl

/-- What the iterator reads between two rounds. -/
def KeepL (Bx Bl : Nat) (A : Option Addr) (W W' : World) : Prop := W'.heap[Bx]? = W.heap[Bx]? ∧ W'.heap[Bl]? = W.heap[Bl]? ∧ ∀ a, A = some a → W'.heap[a.block]? = W.heap[a.block]?
theorem KeepL.refl {Bx Bl : Nat} {A : Option Addr} (W : World) : KeepL Bx Bl A W W := ⟨rfl, rfl, fun _ _ => rfl⟩
theorem KeepL.trans {Bx Bl : Nat} {A : Option Addr} {W W1 W2 : World} (h : KeepL Bx Bl A W W1) (k : KeepL Bx Bl A W1 W2) : KeepL Bx Bl A W W2 := ⟨k.1.trans h.1, k.2.1.trans h.2.1, fun a e => (k.2.2 a e).trans (h.2.2 a e)⟩
theorem KeepL.drewN {Bx Bl : Nat} {A : Option Addr} {W W1 : World} (h : KeepL Bx Bl A W W1) (q : Nat) : KeepL Bx Bl A W (W1.drewN q) := h
theorem Row.keepAt {w w' : World} {g : Nat} {t : TypeId} {cs : Array Value} (h : Row w g t cs) (e : w'.heap[g]? = w.heap[g]?) : Row w' g t cs := e.trans h
/-- Where the strings of a slice lie, if there are any. -/
def strA (A : Option Addr) (n : Nat) : Option Addr := if n = 0 then none else A
theorem Sl.keepL {Bx Bl : Nat} {A : Option Addr} {W W' : World} {B n : Nat} {xs : List Value} (h : Sl W B A n xs) (k : KeepL Bx Bl (strA A n) W W') : Sl W' B A n xs :=
  ⟨h.1, fun hn => by
    obtain ⟨b, off, e, hb, hc⟩ := h.2 hn
    exact ⟨b, off, e, hb, fun j u hu => (World.cell?_of_block (a := ⟨b, off + j, none⟩) (k.2.2 ⟨b, off, none⟩ (by unfold strA; rw [if_neg (by omega)]; exact e))).trans (hc j u hu)⟩⟩
theorem strA_lt {W : World} {B n : Nat} {A : Option Addr} {xs : List Value} (h : Sl W B A n xs) : ∀ ad, strA A n = some ad → ad.block < B := by
  intro ad e
  unfold strA at e
  split at e
  · cases e
  · obtain ⟨b, off, e', hb, _⟩ := h.2 (by omega)
    rw [e'] at e
    injection e with e
    rw [← e]
    exact hb
theorem grownBy_drewN (W : World) (q : Nat) (row : Option Nat) : W.grownBy (W.drewN q) row := ⟨rfl, rfl, rfl, Nat.le_refl _, fun _ _ _ => rfl⟩
/-- A child that may come up. -/
def Kid (L : List Str) (x : Span) : Type := { s : Span // s.f < s.t ∧ s.t ≤ L.length ∧ s.d = x.d + 1 ∧ x.d < (at_ L s.f).length }
def Kid.enc {L : List Str} {x : Span} (s : Kid L x) : Array Value := #[.agg #[.int .i64 (s.1.f : Nat), .int .i64 (s.1.t : Nat), .int .i64 (s.1.d : Nat)]]

theorem kid_of {L : List Str} (hg : Good L) {x : Span} (hx : Ok L x) {i k : Nat} (h1 : start L x ≤ i) (h2 : i < k) (h3 : k ≤ x.t) : i < k ∧ k ≤ L.length ∧ x.d + 1 = x.d + 1 ∧ x.d < (at_ L i).length :=
  ⟨h2, by have := hx.le; omega, rfl, hx.longer' hg h1 (by omega)⟩

set_option maxHeartbeats 8000000 in
theorem children_stops (w : World) (Bx Bl : Nat) (A : Option Addr) (n c B : Nat) (ss : List ByteArray) (L : List Str) (hL : ss.map bytesOf = L) (x : Span) (hg : Good L) (hx : Ok L x)
    (hrx : Row w Bx 82 #[.int .i64 (x.f : Nat), .int .i64 (x.t : Nat), .int .i64 (x.d : Nat)]) (hrl : Row w Bl 22 #[.slice A n c]) (hs : Sl w B A n (ss.map Value.string)) (hB : B ≤ w.heap.size) :
    SeqStopsK Fence.wide 8 Try.prog 74 #[.pointer (some ⟨Bx, 0, none⟩), .pointer (some ⟨Bl, 0, none⟩)] (Kid.enc (L := L) (x := x)) (KeepL Bx Bl (strA A n))
      (fun xs => IsKids L x (xs.map (·.1))) (fun _ => True) 20000 w := fun l J Jx W hW hJ hJx hY h0 => by
  have hrx' := hrx.below hW hrx.lt
  have hrl' := hrl.below hW hrl.lt
  have hs' := hs.below (hW.mono hB)
  clear hrx hrl hs hW
  have hlen : ss.length = n := by have := hs'.1; simpa using this
  have hLn : L.length = n := by rw [← hL]; simpa using hlen
  have hfew : n ≤ 20000 := by have := hg.few; omega
  have hxt : x.t ≤ n := by have := hx.le; omega
  have hxf : x.f ≤ x.t := by have := hx.ne; omega
  have hxd : x.d ≤ 256 := by
    rcases hx.ne with h | h
    · have h1 := (hx.pre x.f (Nat.le_refl _) h).1
      have h2 := (hg.lenAt (by have := hx.le; omega : x.f < _)).2
      omega
    · omega
  have HSTR : Hid (∀ W1 k, KeepL Bx Bl (strA A n) W W1 → k < n → ∃ b off s, A = some ⟨b, off, none⟩ ∧ W1.cell? ⟨b, off + k, none⟩ = some (.string s) ∧ at_ L k = bytesOf s) := Lib.hid (by
    intro W1 k hk hkn
    obtain ⟨b, off, u, hA, _, hu, hc⟩ := (Sl.keepL hs' hk).at_ hkn
    rw [List.getElem?_map] at hu
    obtain ⟨s, hs1, rfl⟩ := Option.map_eq_some_iff.1 hu
    exact ⟨b, off, s, hA, hc, by rw [← hL]; exact at_bytes hs1⟩)
  have HRX := Lib.hid hrx'; have HRL := Lib.hid hrl'
  have HJ := Lib.hid hJ; have HY := Lib.hid hY; have H0 := Lib.hid h0
  have hstart1 := start_ge L x
  have hstart2 := start_le hx
  have HG := Lib.hid hg; have HX := Lib.hid hx
  have hx0 : W.cell? ⟨Bx, 0, none⟩ = some (.int .i64 (x.f : Nat)) := hrx'.cell 0
  have hx1 : W.cell? ⟨Bx, 1, none⟩ = some (.int .i64 (x.t : Nat)) := hrx'.cell 1
  have hx2 : W.cell? ⟨Bx, 2, none⟩ = some (.int .i64 (x.d : Nat)) := hrx'.cell 2
  have hl0 : W.cell? ⟨Bl, 0, none⟩ = some (.slice A n c) := hrl'.cell 0
  clear hrx' hrl' hs' hlen hLn hJ hJx hY h0 hg hx hL
  refine callsIn_of_wp Try.func74 rfl trivial ?_ rfl
  refine wpIn_wide.2 ?_
  simp only [Try.ntmps74, List.size_toArray, List.length_cons, List.length_nil, Nat.reduceAdd, Nat.reduceSub, Array.replicate_succ, Array.replicate_zero, List.push_toArray, List.append_toArray, List.nil_append, List.cons_append]
  have hcases : (¬ x.f < x.t) ∨ (x.f < x.t ∧ (at_ L x.f).length = x.d) ∨ (x.f < x.t ∧ (at_ L x.f).length ≠ x.d) := by
    by_cases h1 : x.f < x.t
    · by_cases h2 : (at_ L x.f).length = x.d
      · exact .inr (.inl ⟨h1, h2⟩)
      · exact .inr (.inr ⟨h1, h2⟩)
    · exact .inl h1
  rcases hcases with hc | ⟨hc, hc2⟩ | ⟨hc, hc2⟩
  case' inl =>
    have hb1 : decide (x.f < x.t) = false := by simp; omega
    have hst : Hid (start L x = x.f) := Lib.hid (by unfold start isAt; simp [hc])
    clear hc
    go_wp2
    go_quiet (fail)
    go_wp2
  case' inr.inl =>
    obtain ⟨b, off, s, hA, hcs, has⟩ := HSTR.out W x.f (KeepL.refl _) (by omega)
    have hb1 : decide (x.f < x.t) = true := by simp; omega
    have hsz : (bytesOf s).length = x.d := by rw [← has]; exact hc2
    rw [bytesOf_len] at hsz
    have hb2 : ((s.size : Int) == (x.d : Int)) = true := by simp; omega
    have hin1 : (0 : Int) ≤ (x.f : Int) := by omega
    have hin2 : (x.f : Int) < (n : Int) := by omega
    have hst : Hid (start L x = x.f + 1) := Lib.hid (by unfold start isAt; simp [hc, hc2])
    clear has hsz hc2 hc
    go_wp2
    go_quiet (fail)
    clear hA hcs hb2 hin1 hin2
    go_wp2
  case' inr.inr =>
    obtain ⟨b, off, s, hA, hcs, has⟩ := HSTR.out W x.f (KeepL.refl _) (by omega)
    have hb1 : decide (x.f < x.t) = true := by simp; omega
    have hsz : (bytesOf s).length ≠ x.d := by rw [← has]; exact hc2
    rw [bytesOf_len] at hsz
    have hb2 : ((s.size : Int) == (x.d : Int)) = false := by simp; omega
    have hin1 : (0 : Int) ≤ (x.f : Int) := by omega
    have hin2 : (x.f : Int) < (n : Int) := by omega
    have hst : Hid (start L x = x.f) := Lib.hid (by unfold start isAt; simp [hc, hc2])
    clear has hsz hc2 hc
    go_wp2
    go_quiet (fail)
    clear hA hcs hb2 hin1 hin2
    go_wp2
  all_goals
    clear hb1
    go_loopw [4] (fun v wr => ∃ (i : Nat) (pre : List (Kid L x)), start L x ≤ i ∧ i ≤ x.t ∧ v = .int .i64 i ∧ Hid (Chain L x.d x.t (start L x) i (pre.map (·.1))) ∧ Hid (J pre wr) ∧ Hid (KeepL Bx Bl (strA A n) W wr)) (fun v _ => x.t - (intOf v).toNat)
    case atStart => exact ⟨start L x, [], Nat.le_refl _, hstart2, by rw [hst.out]; try go_num, Lib.hid rfl, Lib.hid (HJ.out _ _ _ none H0.out (grownBy_drewN _ _ _) (fun r e => by cases e)), Lib.hid ((KeepL.refl W).drewN _)⟩
    case round =>
      obtain ⟨i, pre, hi1, hi2, rfl, HC, HJW, HK⟩ := hrel
      have hd1 : wr.cell? ⟨Bx, 1, none⟩ = some (.int .i64 (x.t : Nat)) := (World.cell?_of_block (a := ⟨Bx, 1, none⟩) HK.out.1).trans hx1
      have hd2 : wr.cell? ⟨Bx, 2, none⟩ = some (.int .i64 (x.d : Nat)) := (World.cell?_of_block (a := ⟨Bx, 2, none⟩) HK.out.1).trans hx2
      have hdl : wr.cell? ⟨Bl, 0, none⟩ = some (.slice A n c) := (World.cell?_of_block (a := ⟨Bl, 0, none⟩) HK.out.2.1).trans hl0
      by_cases hlt : i < x.t
      · obtain ⟨wo, rfl⟩ : ∃ wo : World, wo = wr := ⟨_, rfl⟩
        go_wp2
        go_loopw [5] (fun v wi => ∃ k : Nat, i + 1 ≤ k ∧ k ≤ x.t ∧ v = .int .i64 k ∧ Hid (∀ j, i ≤ j → j < k → byte L j x.d = byte L i x.d) ∧ ∃ q, wi = wo.drewN q) (fun v _ => x.t - (intOf v).toNat)
        case atStart => exact ⟨i + 1, Nat.le_refl _, by omega, by go_num, Lib.hid (fun j h1 h2 => by rw [show j = i by omega]), 0, rfl⟩
        case round =>
          obtain ⟨k, hk1, hk2, rfl, HS, q, rfl⟩ := hrel
          by_cases hkt : k < x.t
          · have hb1 : decide (k < x.t) = true := by simp; omega
            obtain ⟨b, off, sk, hA, hck, hak⟩ := HSTR.out wo k HK.out (by omega)
            obtain ⟨b', off', si, hA', hci, hai⟩ := HSTR.out wo i HK.out (by omega)
            rw [hA] at hA'
            injection hA' with e0
            injection e0 with e1 e2
            subst e1 e2
            have hlk := HX.out.longer' HG.out (by omega : start L x ≤ k) hkt
            have hli := HX.out.longer' HG.out hi1 hlt
            have hidk := idx_str sk x.d (by rw [← hak]; exact hlk)
            have hidi := idx_str si x.d (by rw [← hai]; exact hli)
            have hbk : (bytesOf sk).getD x.d 0 = byte L k x.d := by unfold byte; rw [hak]
            have hbi : (bytesOf si).getD x.d 0 = byte L i x.d := by unfold byte; rw [hai]
            rw [hbk] at hidk
            rw [hbi] at hidi
            obtain ⟨yk, hyk⟩ : ∃ yk, byte L k x.d = yk := ⟨_, rfl⟩
            obtain ⟨yi, hyi⟩ : ∃ yi, byte L i x.d = yi := ⟨_, rfl⟩
            rw [hyk] at hidk
            rw [hyi] at hidi
            have HYK := Lib.hid hyk; have HYI := Lib.hid hyi
            clear hak hai hlk hli hbk hbi hyk hyi
            have f1 : (0 : Int) ≤ (k : Int) := by omega
            have f2 : (k : Int) < (n : Int) := by omega
            have f3 : (0 : Int) ≤ (i : Int) := by omega
            have f4 : (i : Int) < (n : Int) := by omega
            by_cases hye : yk = yi
            · have hb2 : ((yk : Int) == (yi : Int)) = true := by simp [hye]
              have HYE := Lib.hid hye; clear hye
              go_wp2
              go_quiet (fail)
              clear hA hck hci hidk hidi
              go_wp2
              go_roundw
              case rel =>
                refine ⟨k + 1, by omega, by omega, by go_num, Lib.hid (fun j h1 h2 => ?_), _, rfl⟩
                rcases Nat.lt_or_ge j k with h3 | h3
                · exact HS.out j h1 h3
                · rw [show j = k by omega, HYK.out, HYI.out, HYE.out]
              case measure => simp [intOf]; omega
            · have hb2 : ((yk : Int) == (yi : Int)) = false := by simp; omega
              have HYE := Lib.hid hye; clear hye
              go_wp2
              go_quiet (fail)
              clear hA hck hci hidk hidi
              have HSEG : Hid (Seg L x.d x.t ⟨i, k, x.d + 1⟩) := Lib.hid ⟨rfl, hk1, hk2, HS.out, fun _ => by rw [HYK.out, HYI.out]; exact HYE.out⟩
              go_upto_region 7 with (fail)
              obtain ⟨fn, tmps, assign, body, hy, hR⟩ := HY.out pre ⟨⟨i, k, x.d + 1⟩, kid_of HG.out HX.out hi1 hk1 hk2⟩ (wo.drewN (q + nq)) (HJ.out _ _ _ none HJW.out (grownBy_drewN _ _ _) (fun r e => by cases e)) (by have h1 := HC.out.le; rw [List.length_map] at h1; omega)
              have hy' : (Instr.yield l #[.agg #[.int .i64 (i : Int), .int .i64 (k : Int), .int .i64 ((x.d : Int) + 1)]]).run Try.prog (wo.drewN (q + nq)) = .ok (.round l fn tmps assign body) (wo.drewN (q + nq)) := by
                have h1 := hy
                unfold Kid.enc at h1
                rwa [show ((x.d + 1 : Nat) : Int) = (x.d : Int) + 1 by omega] at h1
              clear hy
              have HR := Lib.hid hR; clear hR
              refine (wpIn_wide (n := 8)).1 ?_
              gi_wp2
              refine HR.out.mono ?_
              rintro e W3 (⟨rfl, hJ3, hk3⟩ | ⟨rfl, hJx3⟩)
              · have HJ3 := Lib.hid hJ3; have HK3 := Lib.hid hk3
                clear hJ3 hk3 hy'
                gi_wp2
                go_wp2
                go_roundw
                case rel =>
                  refine ⟨k, pre ++ [⟨⟨i, k, x.d + 1⟩, kid_of HG.out HX.out hi1 hk1 hk2⟩], by omega, hk2, rfl, Lib.hid ?_, HJ3, Lib.hid ((HK.out.drewN _).trans HK3.out)⟩
                  rw [List.map_append]
                  exact Chain.snoc HSEG.out HC.out rfl
                case measure => simp [intOf]; omega
              · gi_wp2
                go_wp2
                refine bodyPost_ret (results_none rfl _ _ _) rfl ?_
                exact ⟨⟨_, rfl⟩, .inr ⟨_, trivial, hJx3⟩⟩
          · have hb1 : decide (k < x.t) = false := by simp; omega
            go_wp2
            go_quiet (fail)
            have HSEG : Hid (Seg L x.d x.t ⟨i, k, x.d + 1⟩) := Lib.hid ⟨rfl, hk1, hk2, HS.out, fun h => absurd h hkt⟩
            go_upto_region 7 with (fail)
            obtain ⟨fn, tmps, assign, body, hy, hR⟩ := HY.out pre ⟨⟨i, k, x.d + 1⟩, kid_of HG.out HX.out hi1 hk1 hk2⟩ (wo.drewN (q + nq)) (HJ.out _ _ _ none HJW.out (grownBy_drewN _ _ _) (fun r e => by cases e)) (by have h1 := HC.out.le; rw [List.length_map] at h1; omega)
            have hy' : (Instr.yield l #[.agg #[.int .i64 (i : Int), .int .i64 (k : Int), .int .i64 ((x.d : Int) + 1)]]).run Try.prog (wo.drewN (q + nq)) = .ok (.round l fn tmps assign body) (wo.drewN (q + nq)) := by
              have h1 := hy
              unfold Kid.enc at h1
              rwa [show ((x.d + 1 : Nat) : Int) = (x.d : Int) + 1 by omega] at h1
            clear hy
            have HR := Lib.hid hR; clear hR
            refine (wpIn_wide (n := 8)).1 ?_
            gi_wp2
            refine HR.out.mono ?_
            rintro e W3 (⟨rfl, hJ3, hk3⟩ | ⟨rfl, hJx3⟩)
            · have HJ3 := Lib.hid hJ3; have HK3 := Lib.hid hk3
              clear hJ3 hk3 hy'
              gi_wp2
              go_wp2
              go_roundw
              case rel =>
                refine ⟨k, pre ++ [⟨⟨i, k, x.d + 1⟩, kid_of HG.out HX.out hi1 hk1 hk2⟩], by omega, hk2, rfl, Lib.hid ?_, HJ3, Lib.hid ((HK.out.drewN _).trans HK3.out)⟩
                rw [List.map_append]
                exact Chain.snoc HSEG.out HC.out rfl
              case measure => simp [intOf]; omega
            · gi_wp2
              go_wp2
              refine bodyPost_ret (results_none rfl _ _ _) rfl ?_
              exact ⟨⟨_, rfl⟩, .inr ⟨_, trivial, hJx3⟩⟩
      · obtain rfl : i = x.t := by omega
        go_wp2
        go_end0
        exact ⟨⟨_, rfl⟩, .inl ⟨pre, HC.out, HJW.out⟩⟩
end Go.Proofs.Ytpnkjfjkeoleaaa.LD

/-! louds: check, children. -/
set_option linter.unusedVariables false
namespace Go.Proofs.Ytpnkjfjkeoleaaa.LD
open Go.RowKit
open Go.Proofs.Ytpnkjfjkeoleaaa.B (bytesOf bytesOf_len bytesOf_lt)

theorem children_any (w : World) (A : Option Addr) (n c f t d : Nat) :
    Calls Try.prog 50 #[.agg #[.int .i64 (f : Int), .int .i64 (t : Int), .int .i64 (d : Int)], .slice A n c] w fun e w' => e = .returned (.func (.func 74) #[] #[.pointer (some ⟨w.heap.size, 0, none⟩), .pointer (some ⟨w.heap.size + 1, 0, none⟩)]) ∧
      w' = (w.alloc (.cells #[.int .i64 (f : Int), .int .i64 (t : Int), .int .i64 (d : Int)] 82)).alloc (.cells #[.slice A n c] 22) := by
  go_enter Try.func50, Try.ntmps50
  go_wp2
  go_ret
  exact ⟨rfl, rfl⟩

theorem toList_bytes (s : ByteArray) : bytesOf s = s.toList.map UInt8.toNat := by
  unfold bytesOf
  rw [ByteArray.toList_eq]
theorem less_lt : ∀ a b : List UInt8, Op.bytesLess a b = ltS (a.map UInt8.toNat) (b.map UInt8.toNat)
  | [], [] => rfl
  | [], _ :: _ => rfl
  | _ :: _, [] => rfl
  | a :: x, b :: y => by
    simp only [Op.bytesLess, List.map_cons, ltS, less_lt x y]
    by_cases h1 : a.toNat < b.toNat
    · have : a < b := h1
      simp [h1, this]
    · have h2 : ¬ a < b := h1
      by_cases h3 : a = b
      · subst h3; simp
      · have h4 : a.toNat ≠ b.toNat := fun e => h3 (UInt8.toNat_inj.1 e)
        simp [h1, h2, h3, h4]
theorem str_less (a b : ByteArray) : Op.bytesLess a.toList b.toList = ltS (bytesOf a) (bytesOf b) := by
  rw [toList_bytes, toList_bytes]
  exact less_lt _ _
theorem map_toNat_inj : ∀ {a b : List UInt8}, a.map UInt8.toNat = b.map UInt8.toNat → a = b
  | [], [], _ => rfl
  | [], _ :: _, h => by simp at h
  | _ :: _, [], h => by simp at h
  | a :: x, b :: y, h => by
    simp only [List.map_cons, List.cons.injEq] at h
    rw [UInt8.toNat_inj.1 h.1, map_toNat_inj h.2]
theorem str_eq (a b : ByteArray) : (a.toList == b.toList) = decide (bytesOf a = bytesOf b) := by
  rw [toList_bytes, toList_bytes]
  by_cases h : a.toList = b.toList
  · rw [h]; simp
  · have : ¬ a.toList.map UInt8.toNat = b.toList.map UInt8.toNat := fun e => h (map_toNat_inj e)
    simp [h, this]

/-- What check asks of string j. -/
def okJ (L : List Str) (j : Nat) : Prop := 1 ≤ (at_ L j).length ∧ (at_ L j).length ≤ 256 ∧ (0 < j → ltS (at_ L (j - 1)) (at_ L j) = true)
theorem good_okJ {L : List Str} (h : Good L) (j : Nat) (hj : j < L.length) : okJ L j :=
  ⟨(h.lenAt hj).1, (h.lenAt hj).2, fun h0 => h.asc (j - 1) j (by omega) hj⟩
theorem okJ_good {L : List Str} (hn : L.length ≤ 20000) (hb : ∀ s ∈ L, ∀ v ∈ s, v < 256) (h : ∀ j, j < L.length → okJ L j) : Good L where
  asc := asc_of_steps fun i hi => by have := (h (i + 1) hi).2.2 (by omega); simpa using this
  few := hn
  len := fun s hs => by
    obtain ⟨j, hj, rfl⟩ := List.mem_iff_getElem.1 hs
    have := h j hj
    have e : at_ L j = L[j] := at_of (List.getElem?_eq_getElem hj)
    rw [okJ, e] at this
    exact ⟨this.1, this.2.1⟩
  byt := hb
theorem bytes_all (ss : List ByteArray) : ∀ s ∈ ss.map bytesOf, ∀ v ∈ s, v < 256 := by
  intro s hs v hv
  obtain ⟨a, _, rfl⟩ := List.mem_map.1 hs
  exact bytesOf_lt a v hv
theorem isEmpty_bytes (s : ByteArray) : s.toList.isEmpty = decide ((bytesOf s).length = 0) := by
  rw [toList_bytes]
  cases s.toList <;> simp

def ChkPost (w : World) (n : Nat) (L : List Str) (e : Ending) (w' : World) : Prop :=
  w = w' ∧ ((20000 < n ∧ e = .returned (.int .i64 2)) ∨ (n ≤ 20000 ∧ Good L ∧ e = .returned (.int .i64 0)) ∨ (n ≤ 20000 ∧ ¬ Good L ∧ e = .returned (.int .i64 1)))

set_option maxHeartbeats 2000000 in
theorem lcheck_any (w : World) (B : Nat) (A : Option Addr) (n c : Nat) (ss : List ByteArray) (L : List Str) (hL : ss.map bytesOf = L) (hm : n ≤ maxLen) (hz : ∀ s ∈ ss, s.size ≤ maxLen) (hs : Sl w B A n (ss.map Value.string)) :
    Calls Try.prog 49 #[.slice A n c] w (ChkPost w n L) := by
  unfold maxLen at hm hz
  have hlen : L.length = n := by have := hs.1; rw [← hL]; simpa using this
  by_cases hbig : 20000 < n
  · have hb1 : decide ((20000 : Int) < (n : Int)) = true := by simp; omega
    clear hs hL hlen hz
    go_enter Try.func49, Try.ntmps49
    go_wp2
    go_ret
    exact ⟨rfl, .inl ⟨hbig, rfl⟩⟩
  · have hb1 : decide ((20000 : Int) < (n : Int)) = false := by simp; omega
    have HSTR : Hid (∀ k, k < n → ∃ b off s, A = some ⟨b, off, none⟩ ∧ w.cell? ⟨b, off + k, none⟩ = some (.string s) ∧ at_ L k = bytesOf s ∧ s.size ≤ 9223372036854775807) := Lib.hid (by
      intro k hkn
      obtain ⟨b, off, u, hA, _, hu, hc⟩ := hs.at_ hkn
      rw [List.getElem?_map] at hu
      obtain ⟨s, hs1, rfl⟩ := Option.map_eq_some_iff.1 hu
      exact ⟨b, off, s, hA, hc, by rw [← hL]; exact at_bytes hs1, hz s (List.mem_of_getElem? hs1)⟩)
    have HB : Hid (∀ s ∈ L, ∀ v ∈ s, v < 256) := Lib.hid (by rw [← hL]; exact bytes_all ss)
    have HLEN := Lib.hid hlen
    clear hs hL hlen hz
    go_enter Try.func49, Try.ntmps49
    go_wp2
    go_loop [10] (fun v => ∃ k : Nat, k ≤ n ∧ v = .int .i64 k ∧ Hid (∀ j, j < k → okJ L j)) (fun v => n - (intOf v).toNat)
    case atStart => exact ⟨0, Nat.zero_le _, rfl, Lib.hid (fun j h => by omega)⟩
    case round =>
      obtain ⟨k, hk, rfl, HOK⟩ := hrel
      by_cases hlt : k < n
      · obtain ⟨b, off, s, hA, hcs, has, hsz⟩ := HSTR.out k hlt
        have hsl : (bytesOf s).length = s.size := bytesOf_len s
        by_cases h0 : s.size = 0
        · have he : s.toList.isEmpty = true := by rw [isEmpty_bytes, hsl, h0]; rfl
          have hbad : Hid (¬ Good L) := Lib.hid (fun h => by have h1 := (good_okJ h k (by rw [HLEN.out]; exact hlt)).1; rw [has, hsl] at h1; omega)
          clear has hsl h0
          go_wp2
          go_ret
          exact ⟨rfl, .inr (.inr ⟨by omega, hbad.out, rfl⟩)⟩
        · have he : s.toList.isEmpty = false := by rw [isEmpty_bytes, hsl]; simp [h0]
          by_cases h1 : 256 < s.size
          · have hb2 : decide ((256 : Int) < (s.size : Int)) = true := by simp; omega
            have hbad : Hid (¬ Good L) := Lib.hid (fun h => by have h1 := (good_okJ h k (by rw [HLEN.out]; exact hlt)).2.1; rw [has, hsl] at h1; omega)
            clear has hsl h0
            go_wp2
            go_ret
            exact ⟨rfl, .inr (.inr ⟨by omega, hbad.out, rfl⟩)⟩
          · have hb2 : decide ((256 : Int) < (s.size : Int)) = false := by simp; omega
            by_cases hk0 : k = 0
            · have hb3 : decide (0 < k) = false := by simp; omega
              have hnk : ¬ 0 < k := by omega
              have HOKK : Hid (okJ L k) := Lib.hid ⟨by rw [has, hsl]; omega, by rw [has, hsl]; omega, fun h => by omega⟩
              clear has hsl h0 hk0
              go_wp2
              go_round
              case rel => exact ⟨k + 1, by omega, by go_num, Lib.hid (fun j hj => by
                rcases Nat.lt_or_ge j k with h | h
                · exact HOK.out j h
                · rw [show j = k by omega]; exact HOKK.out)⟩
              case measure => simp [intOf]; omega
            · have hk1 : 0 < k := by omega
              obtain ⟨b', off', p, hA', hcp, hap, _⟩ := HSTR.out (k - 1) (by omega)
              rw [hA] at hA'
              injection hA' with e0
              injection e0 with e1 e2
              subst e1 e2
              have hi1 : (0 : Int) ≤ (k : Int) - 1 := by omega
              have hi2 : (k : Int) - 1 < (n : Int) := by omega
              have hi3 : ((k : Int) - 1).toNat = k - 1 := by omega
              have hb3 : decide (0 < k) = true := by simp; omega
              by_cases hpl : ltS (bytesOf p) (bytesOf s) = true
              · have hl1 : Op.bytesLess s.toList p.toList = false := by
                  rw [str_less]
                  cases h : ltS (bytesOf s) (bytesOf p) with
                  | false => rfl
                  | true => have := ltS_trans hpl h; rw [ltS_irrefl] at this; cases this
                have hl2 : (s.toList == p.toList) = false := by rw [str_eq, decide_eq_false (fun e => ltS_ne hpl e.symm)]
                have HOKK : Hid (okJ L k) := Lib.hid ⟨by rw [has, hsl]; omega, by rw [has, hsl]; omega, fun h => by rw [hap, has]; exact hpl⟩
                clear has hsl h0 hk0 hap hpl
                go_wp2
                go_round
                case rel => exact ⟨k + 1, by omega, by go_num, Lib.hid (fun j hj => by
                  rcases Nat.lt_or_ge j k with h | h
                  · exact HOK.out j h
                  · rw [show j = k by omega]; exact HOKK.out)⟩
                case measure => simp [intOf]; omega
              · have hbad : Hid (¬ Good L) := Lib.hid (fun h => hpl (by have h1 := (good_okJ h k (by rw [HLEN.out]; exact hlt)).2.2 hk1; rw [has, hap] at h1; exact h1))
                have hl : (Op.bytesLess s.toList p.toList || s.toList == p.toList) = true := by
                  rw [str_less, str_eq]
                  by_cases e : bytesOf s = bytesOf p
                  · rw [decide_eq_true e]; simp
                  · rcases ltS_total e with h | h
                    · rw [h]; rfl
                    · exact absurd h hpl
                clear has hsl h0 hk0 hap hpl
                go_wp2
                go_ret
                exact ⟨rfl, .inr (.inr ⟨by omega, hbad.out, rfl⟩)⟩
      · obtain rfl : k = n := by omega
        go_wp2
        go_ret
        exact ⟨rfl, .inr (.inl ⟨by omega, okJ_good (by rw [HLEN.out]; omega) HB.out (by rw [HLEN.out]; exact HOK.out), rfl⟩)⟩
end Go.Proofs.Ytpnkjfjkeoleaaa.LD

/-! A region in a round of a range over a function is walked as it is elsewhere. -/
set_option linter.unusedVariables false
namespace Go.Proofs.Ytpnkjfjkeoleaaa.LD
open Go

def noDefer (o : Oper) : Bool := match o.op with
  | .defer _ => false
  | _ => true
theorem noDefer_ne {o : Oper} (h : noDefer o = true) : ∀ c, o.op ≠ .defer c := by
  intro c e
  rw [noDefer, e] at h
  cases h
theorem oper_lift {l₀ n : Nat} {P : Program} {o : Oper} {a : Act} {w : World} {K : Act → World → Prop} {Q : Exit → Act → World → Prop} (hd : noDefer o = true) (h : o.wp P a w K Q) : o.wpIn (Fence.wide.inRound l₀) n P a w K Q := by
  refine ⟨fun _ _ => trivial, ?_⟩
  rw [Oper.semAt_eq _ _ _ (noDefer_ne hd)]
  unfold Oper.wp at h
  generalize (execOp a.eval o).run P w = r at h ⊢
  cases r with
  | ok x w' =>
    cases x with
    | value v => exact h
    | skip => exact h
    | defer d => exact h
    | enter f args => exact ⟨fun e => (by cases e), CallsIn.inRound l₀ (callsIn_wide.2 h)⟩
    | row s args =>
      refine ⟨fun e => (by cases e), fun c cs _ => ?_⟩
      obtain ⟨v, w'', r, s⟩ := h c cs
      exact ⟨v, w'', r, stepsIn_wide.2 s⟩
    | _ => exact h.elim
  | halt hh w' =>
    cases hh with
    | panic v => exact h
    | _ => exact h.elim
theorem list_lift {l₀ n : Nat} {P : Program} {ops : Array Oper} {Q : Exit → Act → World → Prop} (hQ : ¬ LetsOut Q) : ∀ (rest : List Oper) (a : Act) (w : World), rest.all noDefer = true → wpList P ops Q rest a w → wpListIn (Fence.wide.inRound l₀) n P ops Q rest a w
  | [], a, w, _, h => h
  | o :: rest, a, w, hd, h => by
    simp only [List.all_cons, Bool.and_eq_true] at hd
    unfold wpList at h
    unfold wpListIn
    split at h
    · rename_i hw
      rw [if_pos hw]
      rcases h with h | h
      · exact oper_lift hd.1 (Oper.wp_mono (fun a w h' => list_lift hQ rest a w hd.2 h') h)
      · exact absurd h.2 hQ
    · rename_i hw
      rw [if_neg hw]
      exact ⟨fun _ _ => trivial, list_lift hQ rest _ w hd.2 h⟩
theorem region_lift {l₀ n : Nat} {P : Program} {id : Nat} {l : List Oper} {Q : Exit → Act → World → Prop} {a : Act} {w : World} (hQ : ¬ LetsOut Q) (hd : l.all noDefer = true) (h : wpList P l.toArray Q l a w) : (Code.region id l.toArray false).wpIn (Fence.wide.inRound l₀) n P Q a w :=
  wpIn_region_lit (list_lift hQ l a w hd h)
theorem any_lift {l₀ n : Nat} {P : Program} {md : Region.Mode} {ops : Array Oper} {Q : Exit → Act → World → Prop} (hQ : ¬ LetsOut Q) (hd : ∀ (i : Nat) (o : Oper), ops[i]? = some o → noDefer o = true) : ∀ (fuel : Nat) (listed : Array Bool) (a : Act) (w : World), wpAny P md ops Q fuel listed a w → wpAnyIn (Fence.wide.inRound l₀) n P md ops Q fuel listed a w
  | 0, _, _, _, h => h
  | fuel + 1, listed, a, w, h => by
    refine ⟨h.1, fun i hi => ?_⟩
    have h1 := h.2 i hi
    unfold wpOp at h1
    unfold wpOpIn
    cases ho : ops[i]? with
    | none =>
      rw [ho] at h1
      exact any_lift hQ hd fuel _ a w h1
    | some o =>
      rw [ho] at h1
      simp only at h1 ⊢
      split at h1
      · rename_i hw
        rw [if_pos hw]
        rcases h1 with h1 | h1
        · exact oper_lift (hd i o ho) (Oper.wp_mono (fun a w h' => any_lift hQ hd fuel _ a w h') h1)
        · exact absurd h1.2 hQ
      · rename_i hw
        rw [if_neg hw]
        exact ⟨fun _ _ => trivial, any_lift hQ hd fuel _ _ w h1⟩
theorem drawn_lift {l₀ n : Nat} {P : Program} {id : Nat} {ops : Array Oper} {Q : Exit → Act → World → Prop} {a : Act} {w : World} {S : World → Prop} (hm : P.follows .mixedOrders = true) (hQ : ¬ LetsOut Q) (hd : ops.all noDefer = true)
    (hS : S w.drew) (h : S w.drew → wpAnyH P .any ops Q S ops.size (Array.replicate ops.size false) a w.drew) : (Code.region id ops true).wpIn (Fence.wide.inRound l₀) n P Q a w :=
  wpIn_region_any hm (any_lift hQ (fun i o ho => by
    have := Array.all_eq_true.1 hd
    obtain ⟨hi, e⟩ := Array.getElem?_eq_some_iff.1 ho
    rw [← e]
    exact this i hi) _ _ _ _ (wpAny_of_held _ _ _ _ (h hS)))
end Go.Proofs.Ytpnkjfjkeoleaaa.LD

/-! louds: the memory of Build. -/
set_option linter.unusedVariables false
namespace Go.Proofs.Ytpnkjfjkeoleaaa.LD
open Go.RowKit
open Go.Proofs.Ytpnkjfjkeoleaaa.B (bytesOf bytesOf_len bytesOf_lt)

/-- Nothing old has changed but the block g and the block B. -/
def Eff (g B : Option Nat) (W W2 : World) : Prop := W.heap.size ≤ W2.heap.size ∧ ∀ k, k < W.heap.size → g ≠ some k → B ≠ some k → W2.heap[k]? = W.heap[k]?
theorem Eff.boxed {W W1 : World} {o : Obj} {row : Option Nat} (hg : (W.alloc o).grownBy W1 row) (B i : Nat) (u : Value) : Eff row (some B) W (W1.setCell ⟨B, i, none⟩ u) := by
  refine ⟨by have := hg.size; simp [World.setCell] at this ⊢; omega, fun k hk h1 h2 => ?_⟩
  rw [Below.heap_setCell W1 _ _ k (fun e => h2 (by rw [e])), hg.block k (by simp; omega) (fun e => h1 e.symm), Below.heap_alloc W o k hk]
theorem Eff.plain {W W1 : World} {o : Obj} {row : Option Nat} (hg : (W.alloc o).grownBy W1 row) : Eff row none W W1 := by
  refine ⟨by have := hg.size; simp at this; omega, fun k hk h1 _ => ?_⟩
  rw [hg.block k (by simp; omega) (fun e => h1 e.symm), Below.heap_alloc W o k hk]
theorem Eff.alloc (W : World) (o : Obj) : Eff none none W (W.alloc o) := ⟨by simp, fun k hk _ _ => Below.heap_alloc W o k hk⟩
theorem Eff.drewN (W : World) (q : Nat) : Eff none none W (W.drewN q) := ⟨Nat.le_refl _, fun _ _ _ _ => rfl⟩
theorem Eff.put (W : World) (B i : Nat) (u : Value) : Eff none (some B) W (W.setCell ⟨B, i, none⟩ u) :=
  ⟨by simp [World.setCell], fun k _ _ h2 => Below.heap_setCell W _ _ k (fun e => h2 (by rw [e]))⟩
/-- What keeps every block of cells. -/
theorem Eff.others {W W' : World} {row : Option Nat} (hg : W.grownBy W' row) : Eff row none W W' := ⟨hg.size, fun k hk h1 _ => hg.block k hk (fun e => h1 e.symm)⟩
theorem Row.eff {W W2 : World} {k : Nat} {t : TypeId} {cs : Array Value} {g B : Option Nat} (h : Row W k t cs) (he : Eff g B W W2) (hn : g ≠ some k ∧ B ≠ some k) : Row W2 k t cs := (he.2 k h.lt hn.1 hn.2).trans h
theorem own_at {w w' : World} {b s n : Nat} {e : TypeId} {v : Value} {xs : List Value} (h : w.ownsRow b e s v n xs) (hk : ∀ g, v.ownBlock = some g → w'.heap[g]? = w.heap[g]?) : w'.ownsRow b e s v n xs := by
  refine ⟨h.1, ?_⟩
  rcases h.2 with h0 | ⟨g, cap, cur, hv, hbg, hh, hr⟩
  · exact .inl h0
  · refine .inr ⟨g, cap, cur, hv, hbg, ?_, hr⟩
    rw [hk g (by rw [hv]; rfl)]
    exact hh
theorem own_eff {W W2 : World} {b s n : Nat} {e : TypeId} {v : Value} {xs : List Value} {g B : Option Nat} (h : W.ownsRow b e s v n xs) (he : Eff g B W W2) (hn : ∀ k, v.ownBlock = some k → g ≠ some k ∧ B ≠ some k) : W2.ownsRow b e s v n xs :=
  own_at h fun k hk => he.2 k (h.lt k hk).2 (hn k hk).1 (hn k hk).2
theorem own_obj {w : World} {b s n : Nat} {e : TypeId} {v : Value} {xs : List Value} (h : w.ownsRow b e s v n xs) {k : Nat} (hk : v.ownBlock = some k) : ∃ cs, Row w k e cs := by
  rcases h.2 with ⟨hv, _⟩ | ⟨g, cap, cur, hv, hbg, hh, hr⟩
  · rw [hv] at hk; cases hk
  · rw [hv] at hk
    have : g = k := by simpa [Value.ownBlock] using hk
    subst this
    exact ⟨cur, hh⟩
theorem own_row {w : World} {b s n k : Nat} {e t : TypeId} {v : Value} {xs : List Value} {cs : Array Value} (h : w.ownsRow b e s v n xs) (hr : Row w k t cs) (hne : e ≠ t) : v.ownBlock ≠ some k := by
  intro hk
  obtain ⟨cs', h'⟩ := own_obj h hk
  exact h'.apart hr hne rfl
theorem own_own {w : World} {b s n b' s' n' : Nat} {e e' : TypeId} {v v' : Value} {xs xs' : List Value} (h : w.ownsRow b e s v n xs) (h' : w.ownsRow b' e' s' v' n' xs') (hne : e ≠ e') : ∀ k, v'.ownBlock = some k → v.ownBlock ≠ some k := by
  intro k hk
  obtain ⟨cs', hr⟩ := own_obj h' hk
  exact own_row h hr hne
theorem row_row {w : World} {k k' : Nat} {t t' : TypeId} {cs cs' : Array Value} (h : Row w k t cs) (h' : Row w k' t' cs') (hne : t ≠ t') : (some k : Option Nat) ≠ some k' := fun e => by
  injection e with e
  exact h.apart h' hne e

/-- The cells of spans. -/
def spanC (s : Span) : List Value := [.int .i64 (s.f : Nat), .int .i64 (s.t : Nat), .int .i64 (s.d : Nat)]
def spansC (al : List Span) : List Value := al.flatMap spanC
theorem spansC_snoc (al : List Span) (s : Span) : spansC (al ++ [s]) = spansC al ++ spanC s := by simp [spansC]

structure BSt (w0 W : World) (A : Option Addr) (n c Bl Bt Bb Bsh Bal nB : Nat) (sh : List Bool) (al : List Span) (lab : List Nat) (nod : Array Value) (is : List Bool) (ids : List Nat) (isv idv : Value) : Prop where
  rl : Row W Bl 22 #[.slice A n c]
  rb : Row W Bb 24 #[.pointer (some ⟨Bt, 0, none⟩)]
  tr : ∃ lv, Row W Bt 66 #[.pointer none, .pointer none, lv, .pointer none, .slice (some ⟨nB, 0, none⟩) n n] ∧ W.ownsRow w0.heap.size 5 1 lv lab.length (lab.map B.u8v)
  shp : ∃ sv, Row W Bsh 79 #[sv] ∧ W.ownsRow w0.heap.size 4 1 sv sh.length (sh.map Value.bool) ∧ ∀ g, sv.ownBlock = some g → isv.ownBlock ≠ some g
  all : ∃ av, Row W Bal 83 #[av] ∧ W.ownsRow w0.heap.size 82 3 av al.length (spansC al)
  rn : Row W nB 3 nod
  ois : W.ownsRow w0.heap.size 4 1 isv is.length (is.map Value.bool)
  oid : W.ownsRow w0.heap.size 87 1 idv ids.length (ids.map B.u64v)
  bel : Below w0.heap.size w0 W
  lo : w0.heap.size ≤ Bl ∧ w0.heap.size ≤ Bt ∧ w0.heap.size ≤ Bb ∧ w0.heap.size ≤ Bsh ∧ w0.heap.size ≤ Bal ∧ w0.heap.size ≤ nB

section
variable {w0 W : World} {A : Option Addr} {n c Bl Bt Bb Bsh Bal nB : Nat} {sh : List Bool} {al : List Span} {lab : List Nat} {nod : Array Value} {is : List Bool} {ids : List Nat} {isv idv : Value}

/-- A step that touches none of it. -/
theorem BSt.far (h : BSt w0 W A n c Bl Bt Bb Bsh Bal nB sh al lab nod is ids isv idv) {W2 : World} {g : Option Nat} (he : Eff g none W W2) (hg : ∀ k cs t, Row W k t cs → g ≠ some k) (hb : Below w0.heap.size W W2) : BSt w0 W2 A n c Bl Bt Bb Bsh Bal nB sh al lab nod is ids isv idv := by
  have hr : ∀ {k t cs}, Row W k t cs → Row W2 k t cs := fun hr => Row.eff hr he ⟨hg _ _ _ hr, fun e => by cases e⟩
  have ho : ∀ {b s n e v xs}, W.ownsRow b e s v n xs → W2.ownsRow b e s v n xs := fun ho => own_eff ho he (fun k hk => by
    obtain ⟨cs, hc⟩ := own_obj ho hk
    exact ⟨hg _ _ _ hc, fun e => by cases e⟩)
  obtain ⟨lv, t1, t2⟩ := h.tr
  obtain ⟨sv, s1, s2, s3⟩ := h.shp
  obtain ⟨av, a1, a2⟩ := h.all
  exact ⟨hr h.rl, hr h.rb, ⟨lv, hr t1, ho t2⟩, ⟨sv, hr s1, ho s2, s3⟩, ⟨av, hr a1, ho a2⟩, hr h.rn, ho h.ois, ho h.oid, h.bel.trans hb, h.lo⟩
theorem BSt.alloc (h : BSt w0 W A n c Bl Bt Bb Bsh Bal nB sh al lab nod is ids isv idv) (o : Obj) : BSt w0 (W.alloc o) A n c Bl Bt Bb Bsh Bal nB sh al lab nod is ids isv idv :=
  h.far (Eff.alloc W o) (fun _ _ _ _ e => by cases e) ((Below.refl _ _).alloc h.bel.size _)
theorem BSt.drewN (h : BSt w0 W A n c Bl Bt Bb Bsh Bal nB sh al lab nod is ids isv idv) (q : Nat) : BSt w0 (W.drewN q) A n c Bl Bt Bb Bsh Bal nB sh al lab nod is ids isv idv :=
  h.far (Eff.drewN W q) (fun _ _ _ _ e => by cases e) (bel_drewN (Below.refl _ _) q)
theorem bel_grow {s n : Nat} {e : TypeId} {v : Value} {xs : List Value} {o : Obj} {W1 : World} (hw : w0.heap.size ≤ W.heap.size) (hown : W.ownsRow w0.heap.size e s v n xs) (hg : (W.alloc o).grownBy W1 v.ownBlock) : Below w0.heap.size W W1 :=
  ((Below.refl _ _).alloc hw o).grown hg (by simp; omega) (fun q e => (hown.lt q e).1)
/-- shape = append(shape, b). -/
theorem BSt.pushShape (h : BSt w0 W A n c Bl Bt Bb Bsh Bal nB sh al lab nod is ids isv idv) {sv sv' : Value} {o : Obj} {W1 : World} {b : Bool} (s1 : Row W Bsh 79 #[sv]) (s2 : W.ownsRow w0.heap.size 4 1 sv sh.length (sh.map Value.bool)) (s3 : ∀ g, sv.ownBlock = some g → isv.ownBlock ≠ some g)
    (hown : W1.ownsRow w0.heap.size 4 1 sv' (sh.length + 1) (sh.map Value.bool ++ [.bool b])) (hg : (W.alloc o).grownBy W1 sv.ownBlock) (hat : sv'.ownBlock = sv.ownBlock ∨ sv'.ownBlock = some (W.heap.size + 1)) :
    BSt w0 (W1.setCell ⟨Bsh, 0, none⟩ sv') A n c Bl Bt Bb Bsh Bal nB (sh ++ [b]) al lab nod is ids isv idv := by
  have he := Eff.boxed hg Bsh 0 sv'
  obtain ⟨lv, t1, t2⟩ := h.tr
  obtain ⟨av, a1, a2⟩ := h.all
  have hr1 : Row W1 Bsh 79 #[sv] := (s1.alloc o).grown hg (fun e => own_row s2 s1 (by decide) e.symm)
  refine ⟨Row.eff h.rl he ⟨own_row s2 h.rl (by decide), row_row s1 h.rl (by decide)⟩, Row.eff h.rb he ⟨own_row s2 h.rb (by decide), row_row s1 h.rb (by decide)⟩,
    ⟨lv, Row.eff t1 he ⟨own_row s2 t1 (by decide), row_row s1 t1 (by decide)⟩, own_eff t2 he (fun k hk => ⟨own_own s2 t2 (by decide) k hk, fun e => own_row t2 s1 (by decide) (by rw [hk, e])⟩)⟩,
    ⟨sv', hr1.put 0 sv', ?_, ?_⟩,
    ⟨av, Row.eff a1 he ⟨own_row s2 a1 (by decide), row_row s1 a1 (by decide)⟩, own_eff a2 he (fun k hk => ⟨own_own s2 a2 (by decide) k hk, fun e => own_row a2 s1 (by decide) (by rw [hk, e])⟩)⟩,
    Row.eff h.rn he ⟨own_row s2 h.rn (by decide), row_row s1 h.rn (by decide)⟩,
    own_eff h.ois he (fun k hk => ⟨fun e => s3 k e hk, fun e => own_row h.ois s1 (by decide) (by rw [hk, e])⟩),
    own_eff h.oid he (fun k hk => ⟨own_own s2 h.oid (by decide) k hk, fun e => own_row h.oid s1 (by decide) (by rw [hk, e])⟩),
    (h.bel.trans (bel_grow h.bel.size s2 hg)).setCell (p := ⟨Bsh, 0, none⟩) h.lo.2.2.2.1 _, h.lo⟩
  · rw [List.length_append, List.map_append]
    exact own_at hown fun g hgg => Below.heap_setCell W1 _ _ g (fun e => own_row hown hr1 (by decide) (by rw [hgg, e]))
  · intro g hgg hi
    rcases hat with e | e
    · exact s3 g (by rw [← e, hgg]) hi
    · rw [e] at hgg
      injection hgg with hgg
      have := (h.ois.lt g hi).2
      omega
/-- t.labels = append(t.labels, v). -/
theorem BSt.pushLabel (h : BSt w0 W A n c Bl Bt Bb Bsh Bal nB sh al lab nod is ids isv idv) {lv lv' : Value} {o : Obj} {W1 : World} {v : Nat} (t1 : Row W Bt 66 #[.pointer none, .pointer none, lv, .pointer none, .slice (some ⟨nB, 0, none⟩) n n]) (t2 : W.ownsRow w0.heap.size 5 1 lv lab.length (lab.map B.u8v))
    (hown : W1.ownsRow w0.heap.size 5 1 lv' (lab.length + 1) (lab.map B.u8v ++ [.int .u8 (v : Int)])) (hg : (W.alloc o).grownBy W1 lv.ownBlock) :
    BSt w0 (W1.setCell ⟨Bt, 2, none⟩ lv') A n c Bl Bt Bb Bsh Bal nB sh al (lab ++ [v]) nod is ids isv idv := by
  have he := Eff.boxed hg Bt 2 lv'
  obtain ⟨sv, s1, s2, s3⟩ := h.shp
  obtain ⟨av, a1, a2⟩ := h.all
  have hr1 : Row W1 Bt 66 #[.pointer none, .pointer none, lv, .pointer none, .slice (some ⟨nB, 0, none⟩) n n] := (t1.alloc o).grown hg (fun e => own_row t2 t1 (by decide) e.symm)
  refine ⟨Row.eff h.rl he ⟨own_row t2 h.rl (by decide), row_row t1 h.rl (by decide)⟩, Row.eff h.rb he ⟨own_row t2 h.rb (by decide), row_row t1 h.rb (by decide)⟩,
    ⟨lv', hr1.put 2 lv', ?_⟩,
    ⟨sv, Row.eff s1 he ⟨own_row t2 s1 (by decide), row_row t1 s1 (by decide)⟩, own_eff s2 he (fun k hk => ⟨own_own t2 s2 (by decide) k hk, fun e => own_row s2 t1 (by decide) (by rw [hk, e])⟩), s3⟩,
    ⟨av, Row.eff a1 he ⟨own_row t2 a1 (by decide), row_row t1 a1 (by decide)⟩, own_eff a2 he (fun k hk => ⟨own_own t2 a2 (by decide) k hk, fun e => own_row a2 t1 (by decide) (by rw [hk, e])⟩)⟩,
    Row.eff h.rn he ⟨own_row t2 h.rn (by decide), row_row t1 h.rn (by decide)⟩,
    own_eff h.ois he (fun k hk => ⟨own_own t2 h.ois (by decide) k hk, fun e => own_row h.ois t1 (by decide) (by rw [hk, e])⟩),
    own_eff h.oid he (fun k hk => ⟨own_own t2 h.oid (by decide) k hk, fun e => own_row h.oid t1 (by decide) (by rw [hk, e])⟩),
    (h.bel.trans (bel_grow h.bel.size t2 hg)).setCell (p := ⟨Bt, 2, none⟩) h.lo.2.1 _, h.lo⟩
  rw [List.length_append, List.map_append]
  exact own_at hown fun g hgg => Below.heap_setCell W1 _ _ g (fun e => own_row hown hr1 (by decide) (by rw [hgg, e]))
/-- all = append(all, x). -/
theorem BSt.pushAll (h : BSt w0 W A n c Bl Bt Bb Bsh Bal nB sh al lab nod is ids isv idv) {av av' : Value} {o : Obj} {W1 : World} {x : Span} (a1 : Row W Bal 83 #[av]) (a2 : W.ownsRow w0.heap.size 82 3 av al.length (spansC al))
    (hown : W1.ownsRow w0.heap.size 82 3 av' (al.length + 1) (spansC al ++ spanC x)) (hg : (W.alloc o).grownBy W1 av.ownBlock) :
    BSt w0 (W1.setCell ⟨Bal, 0, none⟩ av') A n c Bl Bt Bb Bsh Bal nB sh (al ++ [x]) lab nod is ids isv idv := by
  have he := Eff.boxed hg Bal 0 av'
  obtain ⟨sv, s1, s2, s3⟩ := h.shp
  obtain ⟨lv, t1, t2⟩ := h.tr
  have hr1 : Row W1 Bal 83 #[av] := (a1.alloc o).grown hg (fun e => own_row a2 a1 (by decide) e.symm)
  refine ⟨Row.eff h.rl he ⟨own_row a2 h.rl (by decide), row_row a1 h.rl (by decide)⟩, Row.eff h.rb he ⟨own_row a2 h.rb (by decide), row_row a1 h.rb (by decide)⟩,
    ⟨lv, Row.eff t1 he ⟨own_row a2 t1 (by decide), row_row a1 t1 (by decide)⟩, own_eff t2 he (fun k hk => ⟨own_own a2 t2 (by decide) k hk, fun e => own_row t2 a1 (by decide) (by rw [hk, e])⟩)⟩,
    ⟨sv, Row.eff s1 he ⟨own_row a2 s1 (by decide), row_row a1 s1 (by decide)⟩, own_eff s2 he (fun k hk => ⟨own_own a2 s2 (by decide) k hk, fun e => own_row s2 a1 (by decide) (by rw [hk, e])⟩), s3⟩,
    ⟨av', hr1.put 0 av', ?_⟩,
    Row.eff h.rn he ⟨own_row a2 h.rn (by decide), row_row a1 h.rn (by decide)⟩,
    own_eff h.ois he (fun k hk => ⟨own_own a2 h.ois (by decide) k hk, fun e => own_row h.ois a1 (by decide) (by rw [hk, e])⟩),
    own_eff h.oid he (fun k hk => ⟨own_own a2 h.oid (by decide) k hk, fun e => own_row h.oid a1 (by decide) (by rw [hk, e])⟩),
    (h.bel.trans (bel_grow h.bel.size a2 hg)).setCell (p := ⟨Bal, 0, none⟩) h.lo.2.2.2.2.1 _, h.lo⟩
  rw [List.length_append, spansC_snoc]
  exact own_at hown fun g hgg => Below.heap_setCell W1 _ _ g (fun e => own_row hown hr1 (by decide) (by rw [hgg, e]))
/-- is = append(is, b). -/
theorem BSt.pushIs (h : BSt w0 W A n c Bl Bt Bb Bsh Bal nB sh al lab nod is ids isv idv) {isv' : Value} {o : Obj} {W1 : World} {b : Bool}
    (hown : W1.ownsRow w0.heap.size 4 1 isv' (is.length + 1) (is.map Value.bool ++ [.bool b])) (hg : (W.alloc o).grownBy W1 isv.ownBlock) (hat : isv'.ownBlock = isv.ownBlock ∨ isv'.ownBlock = some (W.heap.size + 1)) :
    BSt w0 W1 A n c Bl Bt Bb Bsh Bal nB sh al lab nod (is ++ [b]) ids isv' idv := by
  have he := Eff.plain hg
  obtain ⟨sv, s1, s2, s3⟩ := h.shp
  obtain ⟨lv, t1, t2⟩ := h.tr
  obtain ⟨av, a1, a2⟩ := h.all
  have hr : ∀ {k t cs}, Row W k t cs → 4 ≠ t → Row W1 k t cs := fun hr hne => Row.eff hr he ⟨own_row h.ois hr hne, fun e => by cases e⟩
  have ho : ∀ {b s n e v xs}, W.ownsRow b e s v n xs → 4 ≠ e → W1.ownsRow b e s v n xs := fun ho hne => own_eff ho he (fun k hk => ⟨own_own h.ois ho hne k hk, fun e => by cases e⟩)
  refine ⟨hr h.rl (by decide), hr h.rb (by decide), ⟨lv, hr t1 (by decide), ho t2 (by decide)⟩, ⟨sv, hr s1 (by decide), own_eff s2 he (fun k hk => ⟨s3 k hk, fun e => by cases e⟩), fun g hgg hi => ?_⟩,
    ⟨av, hr a1 (by decide), ho a2 (by decide)⟩, hr h.rn (by decide), ?_, ho h.oid (by decide), h.bel.trans (bel_grow h.bel.size h.ois hg), h.lo⟩
  · rcases hat with e | e
    · exact s3 g hgg (by rw [← e, hi])
    · rw [e] at hi
      injection hi with hi
      have := (s2.lt g hgg).2
      omega
  · rw [List.length_append, List.map_append]
    exact hown
/-- ids = append(ids, v). -/
theorem BSt.pushIds (h : BSt w0 W A n c Bl Bt Bb Bsh Bal nB sh al lab nod is ids isv idv) {idv' : Value} {o : Obj} {W1 : World} {v : Nat}
    (hown : W1.ownsRow w0.heap.size 87 1 idv' (ids.length + 1) (ids.map B.u64v ++ [.int .u64 (v : Int)])) (hg : (W.alloc o).grownBy W1 idv.ownBlock) :
    BSt w0 W1 A n c Bl Bt Bb Bsh Bal nB sh al lab nod is (ids ++ [v]) isv idv' := by
  have he := Eff.plain hg
  obtain ⟨sv, s1, s2, s3⟩ := h.shp
  obtain ⟨lv, t1, t2⟩ := h.tr
  obtain ⟨av, a1, a2⟩ := h.all
  have hr : ∀ {k t cs}, Row W k t cs → 87 ≠ t → Row W1 k t cs := fun hr hne => Row.eff hr he ⟨own_row h.oid hr hne, fun e => by cases e⟩
  have ho : ∀ {b s n e v xs}, W.ownsRow b e s v n xs → 87 ≠ e → W1.ownsRow b e s v n xs := fun ho hne => own_eff ho he (fun k hk => ⟨own_own h.oid ho hne k hk, fun e => by cases e⟩)
  refine ⟨hr h.rl (by decide), hr h.rb (by decide), ⟨lv, hr t1 (by decide), ho t2 (by decide)⟩, ⟨sv, hr s1 (by decide), ho s2 (by decide), s3⟩,
    ⟨av, hr a1 (by decide), ho a2 (by decide)⟩, hr h.rn (by decide), ho h.ois (by decide), ?_, h.bel.trans (bel_grow h.bel.size h.oid hg), h.lo⟩
  rw [List.length_append, List.map_append]
  exact hown
/-- t.nodes[k] = v. -/
theorem BSt.putNode (h : BSt w0 W A n c Bl Bt Bb Bsh Bal nB sh al lab nod is ids isv idv) (k : Nat) (u : Value) :
    BSt w0 (W.setCell ⟨nB, k, none⟩ u) A n c Bl Bt Bb Bsh Bal nB sh al lab (nod.setIfInBounds k u) is ids isv idv := by
  have he := Eff.put W nB k u
  obtain ⟨sv, s1, s2, s3⟩ := h.shp
  obtain ⟨lv, t1, t2⟩ := h.tr
  obtain ⟨av, a1, a2⟩ := h.all
  have hr : ∀ {k t cs}, Row W k t cs → 3 ≠ t → Row (W.setCell ⟨nB, _, none⟩ u) k t cs := fun hr hne => Row.eff hr he ⟨fun e => (by cases e), row_row h.rn hr hne⟩
  have ho : ∀ {b s n e v xs}, W.ownsRow b e s v n xs → e ≠ 3 → (W.setCell ⟨nB, _, none⟩ u).ownsRow b e s v n xs := fun ho hne => own_eff ho he (fun k hk => ⟨fun e => (by cases e), fun e => own_row ho h.rn hne (by rw [hk, e])⟩)
  exact ⟨hr h.rl (by decide), hr h.rb (by decide), ⟨lv, hr t1 (by decide), ho t2 (by decide)⟩, ⟨sv, hr s1 (by decide), ho s2 (by decide), s3⟩, ⟨av, hr a1 (by decide), ho a2 (by decide)⟩, h.rn.put k u, ho h.ois (by decide), ho h.oid (by decide),
    h.bel.setCell (p := ⟨nB, k, none⟩) h.lo.2.2.2.2.2 _, h.lo⟩
end
end Go.Proofs.Ytpnkjfjkeoleaaa.LD

/-! louds: the loop over a node's children in Build. -/
set_option linter.unusedVariables false
namespace Go.Proofs.Ytpnkjfjkeoleaaa.LD
open Go.RowKit
open Go.Proofs.Ytpnkjfjkeoleaaa.B (bytesOf bytesOf_len bytesOf_lt)

def spanV (s : Span) : Value := .agg #[.int .i64 (s.f : Nat), .int .i64 (s.t : Nat), .int .i64 (s.d : Nat)]
def spanA (s : Span) : Array Value := #[.int .i64 (s.f : Nat), .int .i64 (s.t : Nat), .int .i64 (s.d : Nat)]
/-- The frame of a round: the child lies in a box. -/
def roundAct (a : Act) (s : Span) (Bc : Nat) : Act := { tmps := (a.tmps.setIfInBounds 42 (spanV s)).setIfInBounds 12 (.pointer (some ⟨Bc, 0, none⟩)), defers := [] }
theorem row_own {B : Nat} {t : TypeId} {k : Nat} {cs : Array Value} : OwnFrom B (fun (_ : Unit) W => Row W k t cs) := fun _ X Y row hs hg hr => (hg.block k hs.lt (fun e => by
  obtain ⟨_, o, ho, hc⟩ := hr k e.symm
  unfold Row at hs
  rw [hs] at ho
  injection ho with ho
  rw [← ho] at hc
  cases hc)).trans hs
theorem range_kids {Q : Exit → Act → World → Prop} {a : Act} {W : World} {assign body : Code} (Bx Bl : Nat) (A : Option Addr) (n c B : Nat) (ss : List ByteArray) (L : List Str) (hL : ss.map bytesOf = L) (x : Span) (hg : Good L) (hx : Ok L x)
    (hrx : Row W Bx 82 (spanA x)) (hrl : Row W Bl 22 #[.slice A n c]) (hs : Sl W B A n (ss.map Value.string)) (hB : B ≤ W.heap.size) 
    (hev : a.eval (.tmp 41) = .func (.func 74) #[] #[.pointer (some ⟨Bx, 0, none⟩), .pointer (some ⟨Bl, 0, none⟩)])
    (I : List (Kid L x) → World → Prop) (hI : OwnFrom W.heap.size I) (h0 : I [] W)
    (hassign : ∀ (l : Nat) (s : Span) (W' : World) (K : Act → World → Prop), K (roundAct a s W'.heap.size) (W'.alloc (.cells (spanA s) 82)) →
      assign.wpIn (Fence.wide.inRound l) (9 - 1 - 1) Try.prog (Exit.then K (fun _ _ _ => False)) { tmps := a.tmps.setIfInBounds 42 (spanV s), defers := [] } W')
    (hbody : ∀ (l : Nat) (pre : List (Kid L x)) (s : Kid L x) (Bc : Nat) (W' : World), W.heap.size ≤ W'.heap.size → I pre W' → Row W' Bc 82 (spanA s.1) → W.heap.size ≤ Bc → pre.length < 20000 →
      body.wpIn (Fence.wide.inRound l) (9 - 1 - 1) Try.prog (ownPostG W.heap.size (KeepL Bx Bl (strA A n)) I (fun _ _ _ => False) (pre ++ [s]) W') (roundAct a s.1 Bc) W')
    (hdone : ∀ (D : Nat) (xs : List (Kid L x)) (W' : World), W.heap.size ≤ D → IsKids L x (xs.map (·.1)) → I xs W' → W'.heap[D]? = some (.deferred (some [])) → Q .normal { a with defers := { target := .collected D, args := #[] } :: a.defers } W') :
    (Code.rangeFunc (.tmp 41) #[42] assign body).wpIn Fence.wide 9 Try.prog Q a W := by
  have hA : ∀ ad, strA A n = some ad → ad.block < W.heap.size := fun ad e => Nat.lt_of_lt_of_le (strA_lt hs ad e) hB
  refine wpIn_rangeFunc_ownH (F := Fence.wide) (n := 9) rfl (by decide) (gf := 74) hev trivial (enters_of Try.func74 (by kernel_rfl) rfl)
    (children_stops W Bx Bl A n c B ss L hL x hg hx hrx hrl hs hB) (fun h k => KeepL.trans h k) ?_ (Below.refl _ _) (fun _ => rfl)
    (fun pre W' => I pre W' ∧ W.heap.size ≤ W'.heap.size) (fun _ _ _ => False) ?_ (fun _ _ _ _ _ h _ _ => h) ⟨h0, Nat.le_refl _⟩
    (fun s a' W' => ∃ Bc, Row W' Bc 82 (spanA s.1) ∧ W.heap.size ≤ Bc ∧ a' = roundAct a s.1 Bc) ?_ ?_ ?_ ?_ ?_
  · intro W' l o o' hl ho _ _
    have hne : ∀ k, k < W.heap.size → (W'.putObj l o').heap[k]? = W'.heap[k]? := fun k hk => World.putObj_heap_other (by omega)
    exact ⟨hne _ hrx.lt, hne _ hrl.lt, fun ad e => hne _ (hA ad e)⟩
  · intro pre X Y row hs hgr hr
    exact ⟨hI pre X Y row hs.1 hgr hr, Nat.le_trans hs.2 hgr.size⟩
  · intro s a' u X Y row hs hgr hr
    obtain ⟨Bc, h1, h2, h3⟩ := hs
    exact ⟨Bc, row_own () X Y row h1 hgr hr, h2, h3⟩
  · intro l pre s W' K hi hK
    have hz : ((#[42] : Array Tmp).zip s.enc).foldl (fun t (p, v) => t.setIfInBounds p v) a.tmps = a.tmps.setIfInBounds 42 (spanV s.1) := by simp [Kid.enc, spanV]
    rw [hz]
    refine hassign l s.1 W' K (hK _ _ ((KeepsOthers.alloc _ _).from _) ?_ ⟨hI.alloc _ hi.1, by simp; have := hi.2; omega⟩ ⟨W'.heap.size, Row.new _ _ _, hi.2, rfl⟩)
    have hne : ∀ k, k < W.heap.size → (W'.alloc (.cells (spanA s.1) 82)).heap[k]? = W'.heap[k]? := fun k hk => Below.heap_alloc W' _ k (by have := hi.2; omega)
    exact ⟨hne _ hrx.lt, hne _ hrl.lt, fun ad e => hne _ (hA ad e)⟩
  · rintro l pre s a' W' hl ⟨r, hr⟩ ⟨hi, hsz⟩ ⟨Bc, hBc, hBc2, rfl⟩ hlen
    have hb := hbody l pre s Bc W' hsz hi hBc hBc2 hlen
    refine wpIn_mono hb ?_
    intro e a2 W2 hp
    cases e with
    | normal => exact ⟨hp.1, hp.2.1, hp.2.2, Nat.le_trans hsz hp.1.size⟩
    | ret => exact ⟨hp.1, hp.2⟩
    | exit id => exact ⟨hp.1, hp.2⟩
    | goto t => exact ⟨hp.1, hp.2⟩
    | panic ch => exact hp.elim
    | outgrown => exact hp.elim
  · intro D xs W' hD hS hi hK
    exact hdone D xs W' hD hS hi.1 hK
  · intro D c pre W' _ _ hf _
    exact hf.elim
end Go.Proofs.Ytpnkjfjkeoleaaa.LD
