/- louds, the reference of layer 11: parts. -/
import Derived.Test.YtpnkjfjkeoleaaaLhBits
import Derived.Test.YtpnkjfjkeoleaaaLhPlain
import Derived.Deep.DeepCutAuto
import Derived.Deep.CutBlock
set_option linter.unusedVariables false
set_option maxRecDepth 100000
namespace Go.Proofs.Ytpnkjfjkeoleaaa.LD
open Go.RowKit HK
open Go.Proofs.Ytpnkjfjkeoleaaa.B (bytesOf bytesOf_len bytesOf_lt num4b)

/-- What the reference's parts returns. -/
def RPartsPost (w : World) (bl : List Nat) (e : Ending) (w' : World) : Prop :=
  Below w.heap.size w w' ∧ ∃ (A : Option Addr) (n c : Nat) (qs : List Piece), e = .returned (.slice A n c) ∧ qs.length = n ∧ n ≤ 20000 ∧ Sl w' w'.heap.size A n (qs.map Piece.val) ∧ (∀ q ∈ qs, PieceOk w q ∧ q.n ≤ 20000) ∧
    ∀ ys, Short ys → cat ys = bl → qs.map Piece.l = ys
def slLen : Value → Nat
  | .slice _ n _ => n
  | _ => 0
theorem infoSl : (Try.prog.info? 26).map (fun i => (i.zero, i.size, i.bytes)) = some (some (.slice none 0 0), 1, 24) := by kernel_rfl
theorem one_sl {A : Option Addr} {n c : Nat} : ∀ u ∈ [Value.slice A n c], u.oneCell' = true := by
  intro u hu
  simp at hu
  subst hu
  rfl
theorem cat_nil_len {ys : List (List Nat)} (h : cat ys = []) : ys = [] := by
  cases ys with
  | nil => rfl
  | cons y ys =>
    rw [cat_cons] at h
    have := congrArg List.length h
    rw [List.length_append, partL_len] at this
    simp at this

set_option maxHeartbeats 8000000 in
theorem rparts_any (w : World) (A : Option Addr) (n c : Nat) (bl : List Nat) (hn : n ≤ 20000) (hbl : ∀ v ∈ bl, v < 256) (hs : Sl w w.heap.size A n (bl.map B.u8v)) (hnc : n ≤ c) (hcm : c ≤ maxLen) :
    Calls Try.prog 62 #[.slice A n c] w (RPartsPost w bl) := by
  have HS := Lib.hid hs; have HBL := Lib.hid hbl
  have hn0 : Hid (4 * 0 + n ≤ 20000) := Lib.hid (by omega)
  unfold maxLen at hcm
  clear hs hbl
  obtain ⟨ib, hib, hb0z, hb1z, hb2z⟩ := info_parts infoSl
  go_enter Try.func62, Try.ntmps62
  go_wp2
  go_loopw [0, 3] (fun b0 o wr => ∃ (m c : Nat) (A : Option Addr) (rest : List Nat) (qs : List Piece) (no : Nat), b0 = .slice A m c ∧ qs.length = no ∧ 4 * no + m ≤ 20000 ∧ m ≤ c ∧ c ≤ 2 ^ 63 - 1 ∧ Hid (Sl w w.heap.size A m (rest.map B.u8v)) ∧ Hid (∀ v ∈ rest, v < 256) ∧ Hid (∀ q ∈ qs, PieceOk w q ∧ q.n ≤ 20000) ∧
    Hid (∀ ys, Short ys → cat ys = bl → ∃ zs, ys = qs.map Piece.l ++ zs ∧ cat zs = rest) ∧ Hid (wr.ownsRow w.heap.size 26 1 o no (qs.map Piece.val)) ∧ Hid (Below w.heap.size w wr)) (fun b0 _ _ => slLen b0)
  case atStart => exact ⟨n, c, A, bl, [], 0, rfl, rfl, by have := hn0.out; omega, hnc, by omega, HS, HBL, Lib.hid (fun q h => by cases h), Lib.hid (fun ys _ h => ⟨ys, rfl, h⟩), Lib.hid (World.ownsRow_nil _ _ _ _), Lib.hid (Below.refl _ _)⟩
  case round =>
    obtain ⟨m, c, A, rest, qs, no, rfl, hqn, hqm, hmc, hcm, HSR, HRB, HQ, HYS, HO, HB⟩ := hrel
    have HQN := Lib.hid hqn
    have HRL : Hid (rest.length = m) := Lib.hid (by have := HSR.out.1; simpa using this)
    have hsw := HB.out.size
    clear hqn
    by_cases hm4 : 4 ≤ m
    · have hb1 : decide ((4 : Int) ≤ (m : Int)) = true := by simp; omega
      have HZ : Hid (∀ ys, Short ys → cat ys = bl → num4b rest ≤ m - 4 ∧ ∃ z zs, ys = qs.map Piece.l ++ z :: zs ∧ z = (rest.drop 4).take (num4b rest) ∧ cat zs = rest.drop (4 + num4b rest)) := Lib.hid (fun ys hsh hc => by
        obtain ⟨zs, h1, h2⟩ := HYS.out ys hsh hc
        cases zs with
        | nil =>
          have h3 := congrArg List.length h2
          rw [HRL.out] at h3
          simp [cat] at h3; omega
        | cons z zs =>
          have h3 := cat_front h2 (hsh z (by rw [h1]; simp))
          rw [HRL.out] at h3
          exact ⟨h3.2.2.1, z, zs, h1, h3.2.2.2.1, h3.2.2.2.2⟩)
      obtain ⟨b, off, rfl⟩ := sl_some HSR.out (by omega)
      obtain ⟨b0, e0, h0, d0, f0⟩ := bytes_at HRB.out HSR.out (k := 0) (by omega)
      obtain ⟨b1, e1, h1, d1, f1⟩ := bytes_at HRB.out HSR.out (k := 1) (by omega)
      obtain ⟨b2, e2, h2, d2, f2⟩ := bytes_at HRB.out HSR.out (k := 2) (by omega)
      obtain ⟨b3, e3, h3, d3, f3⟩ := bytes_at HRB.out HSR.out (k := 3) (by omega)
      have c0 : wr.cell? ⟨b, off, none⟩ = some (.int .u8 (b0 : Int)) := (HB.out.cell (p := ⟨b, off, none⟩) f0).trans d0
      have c1 : wr.cell? ⟨b, off + 1, none⟩ = some (.int .u8 (b1 : Int)) := (HB.out.cell (p := ⟨b, off + 1, none⟩) f1).trans d1
      have c2 : wr.cell? ⟨b, off + 2, none⟩ = some (.int .u8 (b2 : Int)) := (HB.out.cell (p := ⟨b, off + 2, none⟩) f2).trans d2
      have c3 : wr.cell? ⟨b, off + 3, none⟩ = some (.int .u8 (b3 : Int)) := (HB.out.cell (p := ⟨b, off + 3, none⟩) f3).trans d3
      have eN := num4_at e0 e1 e2 e3
      obtain ⟨N4, hN4⟩ : ∃ N4, num4b rest = N4 := ⟨_, rfl⟩
      rw [hN4] at eN
      have HN4 := Lib.hid hN4
      have i0 : (0 : Int) < (m : Int) := by omega
      have i1 : (1 : Int) < (m : Int) := by omega
      have i2 : (2 : Int) < (m : Int) := by omega
      have i3 : (3 : Int) < (m : Int) := by omega
      have hsum : (b0 : Int) + 256 * (b1 : Int) + 65536 * (b2 : Int) + 16777216 * (b3 : Int) = (N4 : Int) := by omega
      have hNb : N4 < 4294967296 := by omega
      clear eN e0 e1 e2 e3 d0 d1 d2 d3 f0 f1 f2 f3 hN4
      by_cases hbig : m - 4 < N4
      · have g1 : decide ((m : Int) - 4 < (N4 : Int)) = true := by simp; omega
        go_wp2
        go_quiet (fail)
        clear hsum
        go_wp2
        go_ret
        exact ⟨bel_drewN HB.out nq, none, 0, 0, [], rfl, rfl, by omega, sl_nil _ _, fun q h => (by cases h), fun ys hsh hc => by
          have h1 := (HZ.out ys hsh hc).1
          have h2 := HN4.out
          omega⟩
      · have g1 : decide ((m : Int) - 4 < (N4 : Int)) = false := by simp; omega
        have j1 : (0 : Int) ≤ 4 + (N4 : Int) := by omega
        have j2 : 4 + (N4 : Int) ≤ (m : Int) := by omega
        have j3 : (4 + (N4 : Int)).toNat = 4 + N4 := by omega
        have j4 : (4 : Int) ≤ 4 + (N4 : Int) := by omega
        have j6 : 4 + (N4 : Int) ≤ (c : Int) := by omega
        have hw4 : IntKind.i64.wrap (4 + (N4 : Int)) = 4 + (N4 : Int) := IntWalk.i64_in _ (by omega)
        go_wp2
        go_quiet (fail)
        clear hsum c0 c1 c2 c3 i0 i1 i2 i3
        have HO1 := Lib.hid (own_drewN HO.out nq)
        have HB1 := Lib.hid (bel_drewN HB.out nq)
        obtain ⟨w3, hw3⟩ : ∃ w3, wr.drewN nq = w3 := ⟨_, rfl⟩
        rw [hw3] at HO1 HB1 ⊢
        have hs3 := HB1.out.size
        clear hw3
        go_upto_region 7 with (at_builtin; refine wpList_append_own _ rfl _ _ 96 rfl w.heap.size 26 ib _ 1 24 Try.underlying96 hib hb0z hb1z hb2z rfl (by decide) _ _ _ rfl (HO1.out.alloc _) ⟨w3.heap.size, 0, none⟩ 1 1 [_] rfl rfl (cell_one_new _ _ _) one_sl (by unfold maxLen; omega) (by omega) (by simp; omega) ?_; intro v' w4 hown4 hgrow4 _)
        have HO4 := Lib.hid hown4
        have HB4 := Lib.hid (bel_app HB1.out (Nat.le_refl _) HO1.out hgrow4)
        clear hown4 hgrow4
        go_wp2
        go_roundw
        case rel =>
          have hpc : PieceOk w ⟨if c = 4 then some ⟨b, off, none⟩ else some ⟨b, off + 4, none⟩, N4, c - 4, (rest.drop 4).take N4⟩ :=
            ⟨sl_cut HSR.out 4 N4 (by omega) hmc, by show N4 ≤ c - 4; omega, by show c - 4 ≤ maxLen; unfold maxLen; omega, fun v hv => HRB.out v (List.mem_of_mem_drop (List.mem_of_mem_take hv))⟩
          refine ⟨m - (4 + N4), c - (4 + N4), _, rest.drop (4 + N4), qs ++ [⟨if c = 4 then some ⟨b, off, none⟩ else some ⟨b, off + 4, none⟩, N4, c - 4, (rest.drop 4).take N4⟩], no + 1, rfl, ?_, by omega, by omega, by omega, Lib.hid ?_, Lib.hid (fun v hv => HRB.out v (List.mem_of_mem_drop hv)), Lib.hid ?_, Lib.hid ?_, Lib.hid ?_, HB4⟩
          · rw [List.length_append, HQN.out]; rfl
          · have h1 := sl_cut HSR.out (4 + N4) (m - (4 + N4)) (by omega) hmc
            rw [List.take_of_length_le (by rw [List.length_drop, HRL.out]; exact Nat.le_refl _)] at h1
            exact h1
          · intro q hq
            rcases List.mem_append.1 hq with h1 | h1
            · exact HQ.out q h1
            · rw [List.mem_singleton] at h1; rw [h1]; exact ⟨hpc, by show N4 ≤ 20000; omega⟩
          · intro ys hsh hc
            obtain ⟨_, z, zs, h1, h2, h3⟩ := HZ.out ys hsh hc
            rw [HN4.out] at h2 h3
            refine ⟨zs, ?_, h3⟩
            rw [h1, h2]
            simp
          · rw [List.map_append]; exact HO4.out
        case measure => simp [slLen]; omega
    · have hb1 : decide ((4 : Int) ≤ (m : Int)) = false := by simp; omega
      have HZ : Hid (∀ ys, Short ys → cat ys = bl → m = 0 ∧ qs.map Piece.l = ys) := Lib.hid (fun ys hsh hc => by
        obtain ⟨zs, h1, h2⟩ := HYS.out ys hsh hc
        cases zs with
        | nil =>
          have h3 := congrArg List.length h2
          rw [HRL.out] at h3
          simp [cat] at h3
          exact ⟨by omega, by rw [h1]; simp⟩
        | cons z zs =>
          have h3 := cat_front h2 (hsh z (by rw [h1]; simp))
          rw [HRL.out] at h3
          omega)
      by_cases hm0 : 0 < m
      · have hb2 : decide ((0 : Int) < (m : Int)) = true := by simp; omega
        go_wp2
        go_ret
        exact ⟨HB.out, none, 0, 0, [], rfl, rfl, by omega, sl_nil _ _, fun q h => (by cases h), fun ys hsh hc => by
          have h1 := (HZ.out ys hsh hc).1
          omega⟩
      · have hb2 : decide ((0 : Int) < (m : Int)) = false := by simp; omega
        obtain ⟨Ao, co, rfl, -, -⟩ := own_shape HO.out
        go_wp2
        go_ret
        exact ⟨HB.out, Ao, no, co, qs, rfl, HQN.out, by omega, Sl.of_own HO.out, HQ.out, fun ys hsh hc => (HZ.out ys hsh hc).2⟩
end Go.Proofs.Ytpnkjfjkeoleaaa.LD
