/- bitvec: the law BitvecEncodes. -/
import Derived.Test.YtofeemmmdbdjdaaBvRef3
import Derived.Test.YtofeemmmdbdjdaaMem4
import Derived.Test.YtofeemmmdbdjdaaWBvHolds
import Derived.Deep.RegionWith
set_option linter.unusedVariables false
namespace Go.Proofs.Ytofeemmmdbdjdaa.B
open Go.RowKit HK

theorem Bv.drew {w : World} {S E b n N : Nat} (h : Bv w S E b n N) : Bv w.drew S E b n N := h
def IsU8 (v : Value) : Prop := ∃ y : Nat, v = .int .u8 (y : Int)
theorem isU8_map (l : List Nat) : ∀ y ∈ l.map u8v, IsU8 y := by
  intro y hy
  obtain ⟨b, _, rfl⟩ := List.mem_map.1 hy
  exact ⟨b, rfl⟩
theorem conv_u8 {w : World} {B : Nat} {A : Option Addr} {n : Nat} {l : List Nat} (h : Sl w B A n (l.map u8v)) (c : Nat) : (convert 36 9 (.slice A n c)).run Try.prog w = .ok (.string (bs l)) w :=
  conv_sl (P := Try.prog) 36 5 9 Try.underlying36 Try.underlying5 Try.underlying9 h c
theorem putL_lt (size : Nat) (l : List Nat) : ∀ b ∈ putL size l, b < 256 := by
  intro b hb
  unfold putL at hb
  obtain ⟨x, _, hx⟩ := List.mem_flatMap.1 hb
  exact bytesN_lt _ _ b hx
theorem bcode_lt (n N : Nat) : ∀ b ∈ bcode n N, b < 256 := by
  intro b hb
  unfold bcode bhead at hb
  rcases List.mem_append.1 hb with h | h
  · rcases List.mem_append.1 h with h | h
    · exact putL_lt _ _ _ h
    · exact putL_lt _ _ _ h
  · exact putL_lt _ _ _ h

set_option maxHeartbeats 4000000 in
theorem encodes_mid (A : Option Addr) (n c : Nat) (l : List Bool) (w : World) (hn : n ≤ 3000) (hs : Sl w w.heap.size A n (l.map Value.bool)) :
    Calls Try.prog 7 #[.slice A n c] w fun e w' => e = .returned (.bool true) ∧ Below w.heap.size w w' := by
  have hnb : decide ((3000 : Int) < (n : Int)) = false := by simp; omega
  have hlen : Hid (l.length = n) := Lib.hid (by have := hs.1; simpa using this)
  have HS := Lib.hid hs; clear hs
  go_enter Try.func7, Try.ntmps7
  go_wp2_with fail
  refine (bnew_any w A n c l (by omega) HS.out).mono ?_
  rintro e w1 ⟨b, rfl, hbv, hB1⟩
  have hs1 := hB1.size
  have HV := Lib.hid hbv; clear hbv
  go_wp2_with fail
  refine (benc_any w1 _ _ b n _ HV.out (Nat.le_refl _)).mono ?_
  rintro e w2 ⟨v2, rfl, hown2, hB2⟩
  obtain ⟨m, hm⟩ : ∃ m, 4 + 8 * ((n + 63) / 64) + 4 * (((n + 63) / 64 + 7) / 8) = m := ⟨_, rfl⟩
  have hmb : m ≤ 10000 := by omega
  rw [hm] at hown2
  have HM := Lib.hid hm; clear hm
  obtain ⟨A2, c2, rfl, -, -⟩ := own_shape hown2
  have hB12 := hB1.trans (hB2.mono hs1)
  have hs2 := hB2.size
  have HV2 := Lib.hid (HV.out.below hB2 (Nat.le_refl _))
  have HO2 := Lib.hid hown2; clear hown2 HV
  go_wp2_with fail
  refine (rbenc_any w2 A n c l (by omega) ((HS.out.below hB12).more hB12.size)).mono ?_
  rintro e w3 ⟨v3, rfl, hown3, hB3⟩
  rw [HM.out] at hown3
  obtain ⟨A3, c3, rfl, -, -⟩ := own_shape hown3
  have hs3 := hB3.size
  have hB13 := hB12.trans (hB3.mono (by omega))
  have HV3 := Lib.hid (HV2.out.below hB3 (by omega))
  have hlt2 := Lib.hid HO2.out.lt
  have HO23 := Lib.hid (own_below HO2.out hB3 (fun q e => (HO2.out.lt q e).2))
  have HO3 := Lib.hid hown3
  have hlt3 := Lib.hid hown3.lt
  clear hown3 hB3 hB2 HV2 HO2
  obtain ⟨cd, hcd⟩ : ∃ cd, bcode n (bitsN l) = cd := ⟨_, rfl⟩
  have HCL : Hid (∀ v ∈ cd, v < 256) := Lib.hid (by rw [← hcd]; exact bcode_lt _ _)
  rw [hcd] at HO23 HO3
  have HCD := Lib.hid hcd; clear hcd
  have hcv2 := conv_u8 (Sl.of_own HO23.out) c2
  have hcv3 := conv_u8 (Sl.of_own HO3.out) c3
  have hbq : ((bs cd).toList == (bs cd).toList) = true := by simp
  have hbq2 : ((bs cd).toList != (bs cd).toList) = false := by simp
  have HBU := Lib.hid (BumpV.start (isU8_map cd) HO23.out)
  go_wp2_with fail
  clear hcv2 hcv3
  go_loopw [7] (fun ix wr => ∃ k : Nat, k ≤ m ∧ ix = .int .i64 k ∧ BumpV IsU8 5 w3 wr w1.heap.size (.slice A2 m c2) m) (fun ix _ => m - (intOf ix).toNat)
  case atStart => exact ⟨0, Nat.zero_le _, rfl, HBU.out⟩
  case round =>
    obtain ⟨k, hk, rfl, hst⟩ := hrel
    by_cases hlt : k < m
    · obtain ⟨gm, y, ⟨yb, rfl⟩, rfl, hcy, hfy, hnext⟩ := hst.at_ hlt
      have HN := Lib.hid hnext; clear hnext hst
      go_wp2
      go_roundw
      case rel =>
        refine ⟨k + 1, by omega, by go_num, HN.out _ ⟨(yb + 1) % 256, ?_⟩⟩
        congr 1
      case measure => simp [intOf]; omega
    · obtain rfl : m = k := by omega
      have hBr := hB13.trans (hst.below hs1 hB13.size)
      have hsr := hst.2.size
      have HVr := Lib.hid (HV3.out.agree (hst.agree (by omega) (fun q e => .inr (hlt2.out q e).1)))
      have HOr : Hid (Sl wr wr.heap.size A3 m (cd.map u8v)) := Lib.hid (by
        refine ((SlR.of_own HO3.out).agree (hst.agree (Nat.le_refl _) (fun q e => .inl (hlt2.out q e).2))).sl.more hsr)
      clear hst
      have hcv := conv_u8 HOr.out c3
      have hE1 : w1.heap.size ≤ wr.heap.size := by omega
      go_wp2_with fail
      have HOd : Hid (Sl wr.drew wr.drew.heap.size A3 m (cd.map u8v)) := Lib.hid HOr.out
      have hBd : Below w.heap.size w wr.drew := hBr.drew
      have hEd : w1.heap.size ≤ wr.drew.heap.size := hE1
      clear hcv
      have hcvd := conv_u8 HOd.out c3
      go_region_with (first
          | (go_at_call 23; refine (benc_any wr.drew _ w1.heap.size b n _ HVr.out.drew hE1).mono ?_; rintro e w4 ⟨v4, rfl, hown4, hB4⟩; rw [HM.out, HCD.out] at hown4; obtain ⟨A4, c4, rfl, -, -⟩ := own_shape hown4; have hcv4 := conv_u8 (Sl.of_own hown4) c4; have hcw4 := conv_u8 (HOd.out.below hB4) c3; have HO4 := Lib.hid hown4; clear hown4)
          | (go_at_call 20; refine (bbits_any w4 _ w1.heap.size b n _ (HVr.out.drew.below hB4 hEd) (Nat.le_trans hEd hB4.size) (by omega)).mono ?_; rintro e w5 ⟨v5, rfl, hown5, hB45⟩; obtain ⟨A5, c5, rfl, -, -⟩ := own_shape hown5; have HO5 := Lib.hid hown5; have hB5 := hB4.trans (hB45.mono hB4.size); clear hown5 hB45 hcv4 hcw4)
          | (go_at_call 19; refine (rsame_any w5 w5.heap.size w.heap.size A5 A n c5 n c (bitsL (bitsN l) n) l (by omega) (by omega) (Sl.of_own HO5.out) (HS.out.below (hBd.trans (hB5.mono hBd.size)))).mono ?_; rintro e w6 ⟨rfl, hq6⟩; rw [same_bits l n hlen.out]; have hB6 := hB5.trans (qbel _ hq6); clear hq6)
          | (go_at_call 15; refine (bworks_true w6).mono ?_; rintro e w7 ⟨rfl, hB67⟩; have hB7 := hB6.trans (hB67.mono hB6.size); clear hB67))
      all_goals
        go_wp2
        go_ret
        exact ⟨rfl, hBd.trans (hB7.mono hBd.size)⟩

theorem encodes_all (A : Option Addr) (n c : Nat) (l : List Bool) (w : World) (hm : n ≤ maxLen) (hs : Sl w w.heap.size A n (l.map Value.bool)) :
    Calls Try.prog 7 #[.slice A n c] w fun e w' => e = .returned (.bool true) ∧ Below w.heap.size w w' := by
  by_cases hbig : 3000 < n
  · unfold maxLen at hm
    have hnb : decide ((3000 : Int) < (n : Int)) = true := by simp; omega
    clear hs
    go_enter Try.func7, Try.ntmps7
    go_wp2
    go_ret
    exact ⟨rfl, Below.refl _ _⟩
  · exact encodes_mid A n c l w (by omega) hs
end Go.Proofs.Ytofeemmmdbdjdaa.B
