/- louds: parts. -/
import Derived.Test.YtpnkjfjkeoleaaaLgPlain
import Derived.Test.YtpnkjfjkeoleaaaGPkR
import Derived.Test.YtpnkjfjkeoleaaaGBvD
import Derived.Deep.RegionHeld3
import Derived.BigQuiet
set_option linter.unusedVariables false
set_option maxRecDepth 100000
namespace Go.Proofs.Ytpnkjfjkeoleaaa.LD
open Go.RowKit HK
open Go.Proofs.Ytpnkjfjkeoleaaa.B (bytesOf bytesOf_len bytesOf_lt num4b)

theorem num4b_num4 (l : List Nat) (h : 4 ≤ l.length) : num4b l = num4 l := by
  match l, h with
  | a :: b :: c :: d :: r, _ =>
    unfold num4b num4
    simp [packN]
    omega
  | [], h => simp at h
  | [_], h => simp at h
  | [_, _], h => simp at h
  | [_, _, _], h => simp at h
/-- A cut, as the machine has it: at the end of the room the address stays. -/
theorem sl_cut {w : World} {Bd b off n c : Nat} {l : List Nat} (h : Sl w Bd (some ⟨b, off, none⟩) n (l.map B.u8v)) (lo m : Nat) (hm : lo + m ≤ n) (hn : n ≤ c) : Sl w Bd (if c = lo then some ⟨b, off, none⟩ else some ⟨b, off + lo, none⟩) m (((l.drop lo).take m).map B.u8v) := by
  by_cases hc : c = lo
  · rw [if_pos hc]
    have h1 := (B.Sl.subU8 h lo m hm).1
    exact ⟨h1, fun h0 => by omega⟩
  · rw [if_neg hc]; exact B.Sl.subU8 h lo m hm
/-- A slice that lies there, and its bytes. -/
structure Piece where
  A : Option Addr
  n : Nat
  c : Nat
  l : List Nat
def Piece.val (q : Piece) : Value := .slice q.A q.n q.c
structure PieceOk (w : World) (q : Piece) : Prop where
  sl : Sl w w.heap.size q.A q.n (q.l.map B.u8v)
  nc : q.n ≤ q.c
  cm : q.c ≤ maxLen
  lt : ∀ v ∈ q.l, v < 256
/-- The array of parts, so far. -/
def cellsP (qs : List Piece) : List Value := qs.map Piece.val ++ List.replicate (4 - qs.length) (.slice none 0 0)
theorem cellsP_len {qs : List Piece} (h : qs.length ≤ 4) : (cellsP qs).length = 4 := by simp [cellsP]; omega
theorem cellsP_at {qs : List Piece} (h : qs.length < 4) : (cellsP qs)[qs.length]? = some (.slice none 0 0) := by
  unfold cellsP
  rw [List.getElem?_append_right (by simp), List.length_map, Nat.sub_self]
  rw [List.getElem?_replicate, if_pos (by omega)]
theorem cellsP_set {qs : List Piece} (h : qs.length < 4) (q : Piece) : (cellsP qs).set qs.length q.val = cellsP (qs ++ [q]) := by
  unfold cellsP
  rw [List.set_append_right _ _ (by simp), List.length_map, Nat.sub_self, show 4 - qs.length = (4 - (qs ++ [q]).length) + 1 by simp; omega, List.replicate_succ, List.set_cons_zero]
  simp
theorem cellsP_slice {qs : List Piece} : ∀ v ∈ cellsP qs, ∃ A n c, v = Value.slice A n c := by
  intro v hv
  unfold cellsP at hv
  rcases List.mem_append.1 hv with h | h
  · obtain ⟨q, _, rfl⟩ := List.mem_map.1 h
    exact ⟨_, _, _, rfl⟩
  · exact ⟨none, 0, 0, (List.mem_replicate.1 h).2⟩
theorem cellsP_split {qs : List Piece} (h : qs.length ≤ 4) : ∃ A0 n0 c0 A1 n1 c1 A2 n2 c2 A3 n3 c3, cellsP qs = [.slice A0 n0 c0, .slice A1 n1 c1, .slice A2 n2 c2, .slice A3 n3 c3] := by
  have h4 := cellsP_len h
  have hs := cellsP_slice (qs := qs)
  match hq : cellsP qs, h4 with
  | [a, b, c, d], _ =>
    rw [hq] at hs
    obtain ⟨A0, n0, c0, rfl⟩ := hs a (by simp)
    obtain ⟨A1, n1, c1, rfl⟩ := hs b (by simp)
    obtain ⟨A2, n2, c2, rfl⟩ := hs c (by simp)
    obtain ⟨A3, n3, c3, rfl⟩ := hs d (by simp)
    exact ⟨A0, n0, c0, A1, n1, c1, A2, n2, c2, A3, n3, c3, rfl⟩
/-- What parts says. -/
def PartsPost (w : World) (bl : List Nat) (e : Ending) (w' : World) : Prop :=
  Below w.heap.size w w' ∧ ∃ (vs : List Value) (ok : Bool), vs.length = 4 ∧ (∀ v ∈ vs, ∃ A n c, v = Value.slice A n c) ∧ e = .returned (.tuple #[.agg vs.toArray, .bool ok]) ∧
    (ok = true → ∃ qs : List Piece, qs.length = 4 ∧ vs = qs.map Piece.val ∧ ∀ q ∈ qs, PieceOk w q) ∧
    ∀ ys, Short ys → ys.length = 4 → cat ys = bl → ok = true ∧ ∃ qs : List Piece, vs = qs.map Piece.val ∧ qs.map Piece.l = ys ∧ ∀ q ∈ qs, PieceOk w q
theorem four_sl {A0 A1 A2 A3 : Option Addr} {n0 c0 n1 c1 n2 c2 n3 c3 : Nat} : ∀ v ∈ [Value.slice A0 n0 c0, .slice A1 n1 c1, .slice A2 n2 c2, .slice A3 n3 c3], ∃ A n c, v = Value.slice A n c := by
  intro v hv
  simp only [List.mem_cons, List.not_mem_nil, or_false] at hv
  rcases hv with rfl | rfl | rfl | rfl <;> exact ⟨_, _, _, rfl⟩
theorem info4 : (Try.prog.info? 67).map (fun i => (i.zero, i.size, i.bytes)) = some (some (.agg #[.slice none 0 0, .slice none 0 0, .slice none 0 0, .slice none 0 0]), 4, 96) := by kernel_rfl

theorem parts_leave {R : Ending → World → Prop} {W : World} {P0 : Nat} {T : Array Value} {ok : Bool} {A0 A1 A2 A3 : Option Addr} {n0 c0 n1 c1 n2 c2 n3 c3 : Nat}
    (hr : Row W P0 67 #[.slice A0 n0 c0, .slice A1 n1 c1, .slice A2 n2 c2, .slice A3 n3 c3]) (h2 : T[2]?.getD undef = .pointer (some ⟨P0, 0, none⟩)) (h3 : T[3]?.getD undef = .bool ok)
    (hR : R (.returned (.tuple #[.agg #[.slice A0 n0 c0, .slice A1 n1 c1, .slice A2 n2 c2, .slice A3 n3 c3], .bool ok])) W) : bodyPost Try.prog Try.f41 R .ret { tmps := T, defers := [] } W := by
  have k0 : W.cell? ⟨P0, 0, none⟩ = some (.slice A0 n0 c0) := hr.cell 0
  have k1 : W.cell? ⟨P0, 1, none⟩ = some (.slice A1 n1 c1) := hr.cell 1
  have k2 : W.cell? ⟨P0, 2, none⟩ = some (.slice A2 n2 c2) := hr.cell 2
  have k3 : W.cell? ⟨P0, 3, none⟩ = some (.slice A3 n3 c3) := hr.cell 3
  refine bodyPost_ret (v := .tuple #[.agg #[.slice A0 n0 c0, .slice A1 n1 c1, .slice A2 n2 c2, .slice A3 n3 c3], .bool ok]) ?_ rfl hR
  simp only [results, Try.results41]
  go_simp
theorem row4_same {w : World} {P0 : Nat} {t : TypeId} {a b c d : Value} (h : Row w P0 t #[a, b, c, d]) :
    Row ((((w.setCell ⟨P0, 0, none⟩ a).setCell ⟨P0, 1, none⟩ b).setCell ⟨P0, 2, none⟩ c).setCell ⟨P0, 3, none⟩ d) P0 t #[a, b, c, d] := (((h.put 0 a).put 1 b).put 2 c).put 3 d
theorem bel4 {B : Nat} {w0 w : World} (h : Below B w0 w) {P0 : Nat} (hP : B ≤ P0) (a b c d : Value) : Below B w0 ((((w.setCell ⟨P0, 0, none⟩ a).setCell ⟨P0, 1, none⟩ b).setCell ⟨P0, 2, none⟩ c).setCell ⟨P0, 3, none⟩ d) :=
  (((h.setCell (p := ⟨P0, 0, none⟩) hP a).setCell (p := ⟨P0, 1, none⟩) hP b).setCell (p := ⟨P0, 2, none⟩) hP c).setCell (p := ⟨P0, 3, none⟩) hP d
set_option maxHeartbeats 8000000 in
theorem lparts_any (w : World) (A : Option Addr) (n c : Nat) (bl : List Nat) (hbl : ∀ v ∈ bl, v < 256) (hs : Sl w w.heap.size A n (bl.map B.u8v)) (hnc : n ≤ c) (hcm : c ≤ maxLen) :
    Calls Try.prog 41 #[.slice A n c] w (PartsPost w bl) := by
  have HS := Lib.hid hs; have HBL := Lib.hid hbl
  unfold maxLen at hcm
  clear hs hbl
  go_enter Try.func41, Try.ntmps41
  go_wp2
  go_loopw [0, 6] (fun b0 v wr => ∃ (m c : Nat) (A : Option Addr) (rest : List Nat) (qs : List Piece), b0 = .slice A m c ∧ v = .int .i64 (qs.length : Nat) ∧ qs.length ≤ 4 ∧ m ≤ c ∧ c ≤ 2 ^ 63 - 1 ∧ Hid (Sl w w.heap.size A m (rest.map B.u8v)) ∧ Hid (∀ v ∈ rest, v < 256) ∧ Hid (∀ q ∈ qs, PieceOk w q) ∧
    Hid (∀ ys, Short ys → ys.length = 4 → cat ys = bl → ∃ zs, ys = qs.map Piece.l ++ zs ∧ cat zs = rest) ∧ Hid (Row wr w.heap.size 67 (cellsP qs).toArray) ∧ Hid (Below w.heap.size w wr)) (fun _ v _ => 4 - (intOf v).toNat)
  case atStart => exact ⟨n, c, A, bl, [], rfl, rfl, by decide, hnc, by omega, HS, HBL, Lib.hid (fun q h => by cases h), Lib.hid (fun ys _ _ h => ⟨ys, rfl, h⟩), Lib.hid (Row.new _ _ _), Lib.hid ((Below.refl _ _).alloc (Nat.le_refl _) _)⟩
  case round =>
    obtain ⟨m, c, A, rest, qs, rfl, rfl, hq4, hmc, hcm, HSR, HRB, HQ, HYS, HR, HB⟩ := hrel
    obtain ⟨A0, n0, c0, A1, n1, c1, A2, n2, c2, A3, n3, c3, hvs⟩ := cellsP_split hq4
    have hrl : rest.length = m := by have := HSR.out.1; simpa using this
    have HRL := Lib.hid hrl
    have hr := HR.out
    rw [hvs] at hr
    have k0 : wr.cell? ⟨w.heap.size, 0, none⟩ = some (.slice A0 n0 c0) := hr.cell 0
    have k1 : wr.cell? ⟨w.heap.size, 1, none⟩ = some (.slice A1 n1 c1) := hr.cell 1
    have k2 : wr.cell? ⟨w.heap.size, 2, none⟩ = some (.slice A2 n2 c2) := hr.cell 2
    have k3 : wr.cell? ⟨w.heap.size, 3, none⟩ = some (.slice A3 n3 c3) := hr.cell 3
    have f0 := hr.frozen 0; have f1 := hr.frozen 1; have f2 := hr.frozen 2; have f3 := hr.frozen 3
    have HVS := Lib.hid hvs
    have HRW := Lib.hid hr
    obtain ⟨i, hi⟩ : ∃ i, qs.length = i := ⟨_, rfl⟩
    rw [hi] at hq4 ⊢
    have HI := Lib.hid hi
    clear hi hr hrl hvs
    by_cases hi4 : i < 4
    · have hb0 : decide ((i : Int) < 4) = true := by simp; omega
      have HZ : Hid (∀ ys, Short ys → ys.length = 4 → cat ys = bl → 4 ≤ m ∧ num4b rest ≤ m - 4 ∧ ∃ z zs, ys = qs.map Piece.l ++ z :: zs ∧ z = (rest.drop 4).take (num4b rest) ∧ cat zs = rest.drop (4 + num4b rest)) := Lib.hid (fun ys hsh h4 hc => by
        obtain ⟨zs, h1, h2⟩ := HYS.out ys hsh h4 hc
        cases zs with
        | nil =>
          rw [h1] at h4
          simp at h4
          have := HI.out; omega
        | cons z zs =>
          have h3 := cat_front h2 (hsh z (by rw [h1]; simp))
          rw [HRL.out] at h3
          exact ⟨h3.1, h3.2.2.1, z, zs, h1, h3.2.2.2.1, h3.2.2.2.2⟩)
      by_cases hm4 : m < 4
      · have hb1 : decide ((m : Int) < 4) = true := by simp; omega
        go_wp2
        refine parts_leave (row4_same HRW.out) rfl rfl ⟨bel4 HB.out (Nat.le_refl _) _ _ _ _, _, false, rfl, four_sl, rfl, fun h => (by cases h), fun ys hsh h4 hc => ?_⟩
        have := (HZ.out ys hsh h4 hc).1
        omega
      · have hb1 : decide ((m : Int) < 4) = false := by simp; omega
        obtain ⟨b, off, rfl⟩ := sl_some HSR.out (by omega)
        have hat : ∀ k, k < m → wr.cell? ⟨b, off + k, none⟩ = some (.int .u8 ((rest.getD k 0 : Nat) : Int)) ∧ rest.getD k 0 < 256 := by
          intro k hk
          obtain ⟨b', off', e, hbw, hc⟩ := HSR.out.2 (by omega)
          injection e with e
          injection e with e1 e2
          subst e1 e2
          obtain ⟨v, hk2⟩ : ∃ v, rest[k]? = some v := ⟨_, List.getElem?_eq_getElem (by have := HRL.out; omega)⟩
          have hd : rest.getD k 0 = v := by rw [List.getD_eq_getElem?_getD, hk2]; rfl
          rw [hd]
          have h1 := hc k _ (by rw [List.getElem?_map, hk2]; rfl)
          exact ⟨(HB.out.cell (p := ⟨b, off + k, none⟩) hbw).trans h1, HRB.out _ (List.mem_of_getElem? hk2)⟩
        have hnum : num4b rest = rest.getD 0 0 + rest.getD 1 0 * 256 + rest.getD 2 0 * 65536 + rest.getD 3 0 * 16777216 := num4b_num4 rest (by have := HRL.out; omega)
        obtain ⟨b0, hb0'⟩ : ∃ x, rest.getD 0 0 = x := ⟨_, rfl⟩
        obtain ⟨b1, hb1'⟩ : ∃ x, rest.getD 1 0 = x := ⟨_, rfl⟩
        obtain ⟨b2, hb2'⟩ : ∃ x, rest.getD 2 0 = x := ⟨_, rfl⟩
        obtain ⟨b3, hb3'⟩ : ∃ x, rest.getD 3 0 = x := ⟨_, rfl⟩
        rw [hb0', hb1', hb2', hb3'] at hnum
        obtain ⟨q0, h0⟩ := hat 0 (by omega)
        obtain ⟨q1, h1⟩ := hat 1 (by omega)
        obtain ⟨q2, h2⟩ := hat 2 (by omega)
        obtain ⟨q3, h3⟩ := hat 3 (by omega)
        rw [Nat.add_zero, hb0'] at q0
        rw [hb1'] at q1
        rw [hb2'] at q2
        rw [hb3'] at q3
        rw [hb0'] at h0
        rw [hb1'] at h1
        rw [hb2'] at h2
        rw [hb3'] at h3
        obtain ⟨N4, hN4⟩ : ∃ N4, num4b rest = N4 := ⟨_, rfl⟩
        rw [hN4] at hnum
        have HN4 := Lib.hid hN4
        have i0 : (0 : Int) < (m : Int) := by omega
        have i1 : (1 : Int) < (m : Int) := by omega
        have i2 : (2 : Int) < (m : Int) := by omega
        have i3 : (3 : Int) < (m : Int) := by omega
        have hNb : N4 < 4294967296 := by omega
        obtain ⟨x1, hx1⟩ : ∃ x1, b0 + b1 * 256 = x1 := ⟨_, rfl⟩
        obtain ⟨x2, hx2⟩ : ∃ x2, x1 + b2 * 65536 = x2 := ⟨_, rfl⟩
        have o1 := or4_1 b0 b1 h0 h1
        have o2 := or4_2 x1 b2 (by omega) h2
        have o3 := or4_3 x2 b3 (by omega) h3
        rw [show x2 + b3 * 16777216 = N4 by omega] at o3
        rw [hx1] at o1
        rw [hx2] at o2
        clear hnum hx1 hx2 hat hb0' hb1' hb2' hb3' hN4
        by_cases hbig : m - 4 < N4
        · have g1 : decide ((m : Int) - 4 < (N4 : Int)) = true := by simp; omega
          go_wp2
          go_quiet (fail)
          clear o1 o2 o3
          go_wp2
          refine parts_leave (row4_same (w := wr.drewN nq) HRW.out) rfl rfl ⟨bel4 (bel_drewN HB.out nq) (Nat.le_refl _) _ _ _ _, _, false, rfl, four_sl, rfl, fun h => (by cases h), fun ys hsh h4 hc => ?_⟩
          have h1 := (HZ.out ys hsh h4 hc).2.1
          have h2 := HN4.out
          omega
        · have g1 : decide ((m : Int) - 4 < (N4 : Int)) = false := by simp; omega
          go_wp2
          go_quiet (fail)
          clear o1 o2 o3
          have hrq : Row wr w.heap.size 67 (cellsP qs).toArray := HR.out
          have kci : wr.cell? ⟨w.heap.size, i, none⟩ = some (.slice none 0 0) := by
            rw [hrq.cell]
            have h1 := cellsP_at (qs := qs) (by rw [HI.out]; exact hi4)
            rw [HI.out] at h1
            simpa using h1
          have kfi := hrq.frozen i
          have j1 : (0 : Int) ≤ 4 + (N4 : Int) := by omega
          have j2 : 4 + (N4 : Int) ≤ (m : Int) := by omega
          have j3 : (4 + (N4 : Int)).toNat = 4 + N4 := by omega
          have j4 : (4 : Int) ≤ 4 + (N4 : Int) := by omega
          have j5 : (0 : Int) ≤ (i : Int) := by omega
          have j6 : 4 + (N4 : Int) ≤ (c : Int) := by omega
          have j7 : (i : Int) < 4 := by omega
          clear k0 k1 k2 k3 f0 f1 f2 f3 hrq g1 q0 q1 q2 q3
          go_wp2
          have hw4 : IntKind.i64.wrap (4 + (N4 : Int)) = 4 + (N4 : Int) := IntWalk.i64_in _ (by omega)
          refine wp_region_held_drew (S := fun _ => True) (by kernel_rfl) trivial (fun hHeld => ?_)
          refine wpAnyH_take (i := 0) (oi := _) (v := ?_) rfl (by kernel_rfl) (by kernel_rfl) (by kernel_rfl) (fun _ _ _ h => h) (Or.inl ⟨by rfl, ?_⟩) hHeld ?_
          rotate_left
          · (intro w hSw; (try dsimp only at hSw); simp only [List.getElem_toArray, List.getElem_cons_zero]; go_simp; try with_reducible rfl)
          simp only [List.getElem_toArray, List.getElem_cons_zero, Act.put, List.setIfInBounds_toArray, List.set_cons_zero, List.set_cons_succ]
          refine wpAnyH_take (i := 1) (oi := _) (v := ?_) rfl (by kernel_rfl) (by kernel_rfl) (by kernel_rfl) (fun _ _ _ h => h) (Or.inl ⟨by rfl, ?_⟩) hHeld ?_
          rotate_left
          · (intro w hSw; (try dsimp only at hSw); simp only [List.getElem_toArray, List.getElem_cons_zero, List.getElem_cons_succ]; go_simp; try with_reducible rfl)
          simp only [List.getElem_toArray, List.getElem_cons_zero, List.getElem_cons_succ, Act.put, List.setIfInBounds_toArray, List.set_cons_zero, List.set_cons_succ]
          refine wpAnyH_take (i := 2) (oi := _) (v := ?_) rfl (by kernel_rfl) (by kernel_rfl) (by kernel_rfl) (fun _ _ _ h => h) (Or.inl ⟨by rfl, ?_⟩) hHeld ?_
          rotate_left
          · (intro w hSw; (try dsimp only at hSw); simp only [List.getElem_toArray, List.getElem_cons_zero, List.getElem_cons_succ]; go_simp; try with_reducible rfl)
          simp only [List.getElem_toArray, List.getElem_cons_zero, List.getElem_cons_succ, Act.put, List.setIfInBounds_toArray, List.set_cons_zero, List.set_cons_succ]
          refine wpAnyH_take (i := 3) (oi := _) (v := ?_) rfl (by kernel_rfl) (by kernel_rfl) (by kernel_rfl) (fun _ _ _ h => h) (Or.inl ⟨by rfl, ?_⟩) hHeld ?_
          rotate_left
          · (intro w hSw; (try dsimp only at hSw); simp only [List.getElem_toArray, List.getElem_cons_zero, List.getElem_cons_succ]; go_simp; try with_reducible rfl)
          simp only [List.getElem_toArray, List.getElem_cons_zero, List.getElem_cons_succ, Act.put, List.setIfInBounds_toArray, List.set_cons_zero, List.set_cons_succ]
          refine wpAnyH_take (i := 4) (oi := _) (v := ?_) rfl (by kernel_rfl) (by kernel_rfl) (by kernel_rfl) (fun _ _ _ h => h) (Or.inl ⟨by rfl, ?_⟩) hHeld ?_
          rotate_left
          · (intro w hSw; (try dsimp only at hSw); simp only [List.getElem_toArray, List.getElem_cons_zero, List.getElem_cons_succ]; go_simp; try with_reducible rfl)
          simp only [List.getElem_toArray, List.getElem_cons_zero, List.getElem_cons_succ, Act.put, List.setIfInBounds_toArray, List.set_cons_zero, List.set_cons_succ]
          refine wpAnyH_take (i := 5) (oi := _) (v := ?_) rfl (by kernel_rfl) (by kernel_rfl) (by kernel_rfl) (fun _ _ _ h => h) (Or.inl ⟨by rfl, ?_⟩) hHeld ?_
          rotate_left
          · (intro w hSw; (try dsimp only at hSw); simp only [List.getElem_toArray, List.getElem_cons_zero, List.getElem_cons_succ]; go_simp; try with_reducible rfl)
          simp only [List.getElem_toArray, List.getElem_cons_zero, List.getElem_cons_succ, Act.put, List.setIfInBounds_toArray, List.set_cons_zero, List.set_cons_succ]
          refine wpAnyH_take (i := 6) (oi := _) (v := ?_) rfl (by kernel_rfl) (by kernel_rfl) (by kernel_rfl) (fun _ _ _ h => h) (Or.inl ⟨by rfl, ?_⟩) hHeld ?_
          rotate_left
          · (intro w hSw; (try dsimp only at hSw); simp only [List.getElem_toArray, List.getElem_cons_zero, List.getElem_cons_succ]; go_simp; try with_reducible rfl)
          simp only [List.getElem_toArray, List.getElem_cons_zero, List.getElem_cons_succ, Act.put, List.setIfInBounds_toArray, List.set_cons_zero, List.set_cons_succ]
          refine wpAnyH_take (i := 7) (oi := _) (v := ?_) rfl (by kernel_rfl) (by kernel_rfl) (by kernel_rfl) (fun _ _ _ h => h) (Or.inl ⟨by rfl, ?_⟩) hHeld ?_
          rotate_left
          · (intro w hSw; (try dsimp only at hSw); simp only [List.getElem_toArray, List.getElem_cons_zero, List.getElem_cons_succ]; go_simp; try with_reducible rfl)
          simp only [List.getElem_toArray, List.getElem_cons_zero, List.getElem_cons_succ, Act.put, List.setIfInBounds_toArray, List.set_cons_zero, List.set_cons_succ]
          refine wpAnyH_take (i := 8) (oi := _) (v := ?_) rfl (by kernel_rfl) (by kernel_rfl) (by kernel_rfl) (fun _ _ _ h => h) (Or.inl ⟨by rfl, ?_⟩) hHeld ?_
          rotate_left
          · (intro w hSw; (try dsimp only at hSw); simp only [List.getElem_toArray, List.getElem_cons_zero, List.getElem_cons_succ]; go_simp; try with_reducible rfl)
          simp only [List.getElem_toArray, List.getElem_cons_zero, List.getElem_cons_succ, Act.put, List.setIfInBounds_toArray, List.set_cons_zero, List.set_cons_succ]
          refine wpAnyH_take (i := 9) (oi := _) (v := ?_) rfl (by kernel_rfl) (by kernel_rfl) (by kernel_rfl) (fun _ _ _ h => h) (Or.inl ⟨by rfl, ?_⟩) hHeld ?_
          rotate_left
          · (intro w hSw; (try dsimp only at hSw); simp only [List.getElem_toArray, List.getElem_cons_zero, List.getElem_cons_succ]; go_simp; try with_reducible rfl)
          simp only [List.getElem_toArray, List.getElem_cons_zero, List.getElem_cons_succ, Act.put, List.setIfInBounds_toArray, List.set_cons_zero, List.set_cons_succ]
          refine wpAnyH_ready (rs := [10]) (by kernel_rfl) (by simp) ?_
          refine AllReadyH.cons (o := _) rfl (fun K hK => ?_) AllReadyH.nil
          go_simp
          refine hK.out _ _ (trivial) (fun hHeld => ?_)
          clear hK K
          try simp only [Act.put, List.setIfInBounds_toArray, List.set_cons_zero, List.set_cons_succ]
          refine wpAnyH_take (i := 11) (oi := _) (v := ?_) rfl (by kernel_rfl) (by kernel_rfl) (by kernel_rfl) (fun _ _ _ h => h) (Or.inl ⟨by rfl, ?_⟩) hHeld ?_
          rotate_left
          · (intro w hSw; (try dsimp only at hSw); simp only [List.getElem_toArray, List.getElem_cons_zero, List.getElem_cons_succ]; go_simp; try with_reducible rfl)
          simp only [List.getElem_toArray, List.getElem_cons_zero, List.getElem_cons_succ, Act.put, List.setIfInBounds_toArray, List.set_cons_zero]
          refine wpAnyH_done (by kernel_rfl) ?_ _
          clear hw4
          go_wp2
          go_roundw
          case rel =>
            have hpc : PieceOk w ⟨if c = 4 then some ⟨b, off, none⟩ else some ⟨b, off + 4, none⟩, N4, c - 4, (rest.drop 4).take N4⟩ :=
              ⟨sl_cut HSR.out 4 N4 (by omega) hmc, by show N4 ≤ c - 4; omega, by show c - 4 ≤ maxLen; unfold maxLen; omega, fun v hv => HRB.out v (List.mem_of_mem_drop (List.mem_of_mem_take hv))⟩
            refine ⟨m - (4 + N4), c - (4 + N4), _, rest.drop (4 + N4), qs ++ [⟨if c = 4 then some ⟨b, off, none⟩ else some ⟨b, off + 4, none⟩, N4, c - 4, (rest.drop 4).take N4⟩], rfl, ?_, ?_, by omega, by omega, Lib.hid ?_, Lib.hid (fun v hv => HRB.out v (List.mem_of_mem_drop hv)), Lib.hid ?_, Lib.hid ?_, Lib.hid ?_, Lib.hid ((bel_drewN HB.out _).setCell (p := ⟨w.heap.size, i, none⟩) (Nat.le_refl _) _)⟩
            · have := HI.out; rw [List.length_append]; simp; omega
            · have := HI.out; rw [List.length_append]; simp; omega
            · have h1 := sl_cut HSR.out (4 + N4) (m - (4 + N4)) (by omega) hmc
              rw [List.take_of_length_le (by rw [List.length_drop, HRL.out]; exact Nat.le_refl _)] at h1
              exact h1
            · intro q hq
              rcases List.mem_append.1 hq with h1 | h1
              · exact HQ.out q h1
              · rw [List.mem_singleton] at h1; rw [h1]; exact hpc
            · intro ys hsh h4 hc
              obtain ⟨_, _, z, zs, h1, h2, h3⟩ := HZ.out ys hsh h4 hc
              rw [HN4.out] at h2 h3
              refine ⟨zs, ?_, h3⟩
              rw [h1, h2]
              simp
            · have h1 := Row.put (w := wr.drewN (nq + 1)) HR.out i (.slice (if c = 4 then some ⟨b, off, none⟩ else some ⟨b, off + 4, none⟩) N4 (c - 4))
              have h2 := cellsP_set (qs := qs) (by rw [HI.out]; exact hi4) ⟨if c = 4 then some ⟨b, off, none⟩ else some ⟨b, off + 4, none⟩, N4, c - 4, (rest.drop 4).take N4⟩
              rw [HI.out] at h2
              rw [List.setIfInBounds_toArray] at h1
              rw [← h2]
              exact h1
          case measure => have := HI.out; simp [intOf]; omega
    · obtain rfl : i = 4 := by omega
      have HV : Hid (cellsP qs = qs.map Piece.val) := Lib.hid (by unfold cellsP; rw [HI.out]; simp)
      have HZ : Hid (∀ ys, Short ys → ys.length = 4 → cat ys = bl → m = 0 ∧ qs.map Piece.l = ys) := Lib.hid (fun ys hsh h4 hc => by
        obtain ⟨zs, h1, h2⟩ := HYS.out ys hsh h4 hc
        have h3 : zs = [] := by
          rw [h1, List.length_append, List.length_map, HI.out] at h4
          exact List.eq_nil_of_length_eq_zero (by omega)
        subst h3
        have h5 := HRL.out
        rw [← h2] at h5
        exact ⟨by simpa [cat] using h5.symm, by rw [h1]; simp⟩)
      by_cases hm0 : m = 0
      · have g1 : ((m : Int) == 0) = true := by simp [hm0]
        clear hm0
        go_wp2
        refine parts_leave (row4_same HRW.out) rfl rfl ⟨bel4 HB.out (Nat.le_refl _) _ _ _ _, _, true, rfl, four_sl, rfl, fun _ => ⟨qs, HI.out, ?_, HQ.out⟩, fun ys hsh h4 hc => ⟨rfl, qs, ?_, (HZ.out ys hsh h4 hc).2, HQ.out⟩⟩
        · rw [← HV.out, HVS.out]
        · rw [← HV.out, HVS.out]
      · have g1 : ((m : Int) == 0) = false := by rw [beq_eq_false_iff_ne]; omega
        go_wp2
        refine parts_leave (row4_same HRW.out) rfl rfl ⟨bel4 HB.out (Nat.le_refl _) _ _ _ _, _, false, rfl, four_sl, rfl, fun h => (by cases h), fun ys hsh h4 hc => ?_⟩
        exact absurd (HZ.out ys hsh h4 hc).1 hm0
end Go.Proofs.Ytpnkjfjkeoleaaa.LD
