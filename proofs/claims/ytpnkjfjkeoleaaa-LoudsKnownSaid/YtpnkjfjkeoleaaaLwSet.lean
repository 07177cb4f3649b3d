/- louds, the law's helper Set: the first 300 strings of 1 to 256 bytes, in order, each once. -/
import Derived.Test.YtpnkjfjkeoleaaaGLdB
import Derived.Laws.CopyOwn
import Derived.Deep.RegionHeld3
import Derived.BigQuiet
set_option linter.unusedVariables false
set_option maxRecDepth 100000
namespace Go.Proofs.Ytpnkjfjkeoleaaa.LD
open Go.RowKit HK
open Go.Proofs.Ytpnkjfjkeoleaaa.B (bytesOf bytesOf_len bytesOf_lt)

theorem infoStr : (Try.prog.info? 9).map (fun i => (i.zero, i.size, i.bytes)) = some (some (.string ⟨#[]⟩), 1, 16) := by kernel_rfl
theorem sizeStr : (Try.prog.info? 9).map (·.size) = some 1 := by kernel_rfl
/-- A list of strings that is a set, so far. -/
structure SetL (ss : List ByteArray) : Prop where
  asc : ∀ i j, i < j → j < ss.length → ltS (at_ (ss.map bytesOf) i) (at_ (ss.map bytesOf) j) = true
  len : ∀ s ∈ ss, 1 ≤ s.size ∧ s.size ≤ 256
theorem SetL.good {ss : List ByteArray} (h : SetL ss) (hn : ss.length ≤ 20000) : Good (ss.map bytesOf) where
  asc := fun i j hij hj => h.asc i j hij (by simpa using hj)
  few := by simpa using hn
  len := by
    intro s hs
    obtain ⟨t, ht, rfl⟩ := List.mem_map.1 hs
    rw [bytesOf_len]
    exact h.len t ht
  byt := bytes_all ss
theorem at_map {ss : List ByteArray} {j : Nat} (h : j < ss.length) : at_ (ss.map bytesOf) j = bytesOf ss[j] := at_bytes (List.getElem?_eq_getElem h)
/-- A string that goes between two neighbours. -/
theorem SetL.insert {ss : List ByteArray} {s : ByteArray} {a : Nat} (h : SetL ss) (ha : a ≤ ss.length) (hs : 1 ≤ s.size ∧ s.size ≤ 256)
    (h1 : 0 < a → ltS (at_ (ss.map bytesOf) (a - 1)) (bytesOf s) = true) (h2 : ∀ j, a ≤ j → j < ss.length → ltS (bytesOf s) (at_ (ss.map bytesOf) j) = true) : SetL (ss.take a ++ s :: ss.drop a) := by
  have hl : (ss.take a ++ s :: ss.drop a).length = ss.length + 1 := by simp; omega
  have e1 : ∀ j, j < a → at_ ((ss.take a ++ s :: ss.drop a).map bytesOf) j = at_ (ss.map bytesOf) j := by
    intro j hj
    unfold at_
    rw [List.getD_eq_getElem?_getD, List.getD_eq_getElem?_getD, List.getElem?_map, List.getElem?_map, List.getElem?_append_left (by simp; omega), List.getElem?_take_of_lt hj]
  have e2 : at_ ((ss.take a ++ s :: ss.drop a).map bytesOf) a = bytesOf s := by
    unfold at_
    rw [List.getD_eq_getElem?_getD, List.getElem?_map, List.getElem?_append_right (by simp; omega)]
    simp [Nat.min_eq_left ha]
  have e3 : ∀ j, a < j → at_ ((ss.take a ++ s :: ss.drop a).map bytesOf) j = at_ (ss.map bytesOf) (j - 1) := by
    intro j hj
    unfold at_
    rw [List.getD_eq_getElem?_getD, List.getD_eq_getElem?_getD, List.getElem?_map, List.getElem?_map, List.getElem?_append_right (by simp; omega)]
    rw [List.length_take, Nat.min_eq_left ha, show j - a = (j - 1 - a) + 1 by omega, List.getElem?_cons_succ, List.getElem?_drop, show a + (j - 1 - a) = j - 1 by omega]
  have h1' : ∀ j, j < a → ltS (at_ (ss.map bytesOf) j) (bytesOf s) = true := by
    intro j hj
    rcases Nat.eq_or_lt_of_le (show j ≤ a - 1 by omega) with e | e
    · rw [e]; exact h1 (by omega)
    · exact ltS_trans (h.asc j (a - 1) e (by omega)) (h1 (by omega))
  refine ⟨fun i j hij hj => ?_, fun t ht => ?_⟩
  · rw [hl] at hj
    rcases Nat.lt_trichotomy i a with hi | hi | hi
    · rw [e1 i hi]
      rcases Nat.lt_trichotomy j a with hj2 | hj2 | hj2
      · rw [e1 j hj2]; exact h.asc i j hij (by omega)
      · rw [hj2, e2]; exact h1' i hi
      · rw [e3 j hj2]; exact h.asc i (j - 1) (by omega) (by omega)
    · rw [hi, e2, e3 j (by omega)]; exact h2 (j - 1) (by omega) (by omega)
    · rw [e3 i hi, e3 j (by omega)]; exact h.asc (i - 1) (j - 1) (by omega) (by omega)
  · simp only [List.mem_append, List.mem_cons] at ht
    rcases ht with ht | rfl | ht
    · exact h.len t (List.mem_of_mem_take ht)
    · exact hs
    · exact h.len t (List.mem_of_mem_drop ht)
def SetPost (w : World) (e : Ending) (w' : World) : Prop :=
  ∃ A m c ss, e = .returned (.slice A m c) ∧ ss.length = m ∧ m ≤ 300 ∧ SetL ss ∧ w'.ownsRow w.heap.size 9 1 (.slice A m c) m (ss.map Value.string) ∧ Below w.heap.size w w'
/-- The row behind the insertion. -/
theorem ins_row {ss : List ByteArray} {s : ByteArray} {cur : List Value} {a m : Nat} (hm : ss.length = m) (ha : a ≤ m) (hc : m + 1 ≤ cur.length) (ht : cur.take m = ss.map Value.string) :
    ((splice cur (a + 1) ((ss.drop a).map Value.string)).set a (.string s)).take (m + 1) = (ss.take a ++ s :: ss.drop a).map Value.string := by
  have hd : ((ss.drop a).map Value.string).length = m - a := by simp; omega
  have hta : cur.take a = (ss.take a).map Value.string := by
    have := congrArg (List.take a) ht
    rw [List.take_take, Nat.min_eq_left ha, ← List.map_take] at this
    exact this
  unfold splice
  rw [hd, show a + 1 + (m - a) = m + 1 by omega]
  have e : cur.take (a + 1) = (ss.take a).map Value.string ++ [cur[a]'(by omega)] := by
    rw [List.take_succ_eq_append_getElem (by omega), hta]
  rw [e, List.append_assoc, List.set_append_right _ _ (by simp; omega)]
  rw [show a - ((ss.take a).map Value.string).length = 0 by simp; omega]
  simp only [List.cons_append, List.nil_append, List.set_cons_zero]
  rw [List.take_append, List.take_of_length_le (by simp; omega)]
  have hx : ((ss.drop a).map Value.string).take (m - a) = (ss.drop a).map Value.string := List.take_of_length_le (by rw [hd]; exact Nat.le_refl _)
  rw [show m + 1 - ((ss.take a).map Value.string).length = (m - a) + 1 by simp; omega, List.take_succ_cons, List.take_append_of_le_length (by rw [hd]; exact Nat.le_refl _), hx]
  simp
theorem one_str {s : ByteArray} : ∀ u ∈ [Value.string s], u.oneCell' = true := by
  intro u hu
  simp at hu
  subst hu
  rfl
theorem strs_one (l : List ByteArray) : ∀ u ∈ l.map Value.string, u.oneCell' = true := by
  intro u hu
  obtain ⟨s, _, rfl⟩ := List.mem_map.1 hu
  rfl
theorem own_some {w : World} {base : Nat} {e : TypeId} {s n : Nat} {v : Value} {xs : List Value} (h : w.ownsRow base e s v n xs) (hn : 0 < n) : ∃ g c, v = .slice (some ⟨g, 0, none⟩) n c ∧ n ≤ c ∧ c ≤ maxLen := by
  rcases h.2 with ⟨_, h0⟩ | ⟨g, cap, cur, hv, _, _, hnc, hm, _⟩
  · omega
  · exact ⟨g, cap, hv, hnc, hm⟩
theorem own_cur {w : World} {base g m cap : Nat} {e : TypeId} {xs : List Value} (h : w.ownsRow base e 1 (.slice (some ⟨g, 0, none⟩) (m + 1) cap) (m + 1) xs) :
    ∃ cur : List Value, base ≤ g ∧ Row w g e cur.toArray ∧ m + 1 ≤ cap ∧ cap ≤ maxLen ∧ cur.length = cap ∧ cur.take (m + 1) = xs := by
  rcases h.2 with ⟨_, h0⟩ | ⟨g', cap', cur, hv, hb, hh, hnc, hm, hs, ht⟩
  · omega
  · injection hv with h1 h2 h3
    injection h1 with h1
    injection h1 with h1
    subst h1 h3
    exact ⟨cur.toList, hb, by unfold Row; simpa using hh, hnc, hm, by simpa using hs, by simpa using ht⟩
theorem own_mk {w : World} {base g m cap : Nat} {e : TypeId} {cur xs : List Value} (hb : base ≤ g) (hr : Row w g e cur.toArray) (hn : m ≤ cap) (hm : cap ≤ maxLen) (hc : cur.length = cap) (ht : cur.take m = xs) :
    w.ownsRow base e 1 (.slice (some ⟨g, 0, none⟩) m cap) m xs :=
  ⟨by rw [← ht, List.length_take]; omega, .inr ⟨g, cap, cur.toArray, rfl, hb, hr, hn, hm, by simpa using hc, by simpa using ht⟩⟩

theorem cur_at {out : List ByteArray} {cur : List Value} {e : Value} {m a j : Nat} {v : Value} (hct : cur.take (m + 1) = out.map Value.string ++ [e]) (hl : out.length = m) (h : ((out.drop a).map Value.string)[j]? = some v) : cur[a + j]? = some v := by
  rw [List.map_drop, List.getElem?_drop] at h
  have hlt := (List.getElem?_eq_some_iff.1 h).1
  rw [List.length_map] at hlt
  rw [← List.getElem?_take_of_lt (show a + j < m + 1 by omega), hct, List.getElem?_append_left (by rw [List.length_map]; exact hlt)]
  exact h
theorem take_of_succ {out : List ByteArray} {cur : List Value} {e : Value} {m : Nat} (hct : cur.take (m + 1) = out.map Value.string ++ [e]) (hl : out.length = m) : cur.take m = out.map Value.string := by
  have h := congrArg (List.take m) hct
  rw [List.take_take, Nat.min_eq_left (by omega), List.take_left' (by rw [List.length_map, hl])] at h
  exact h
set_option maxHeartbeats 8000000 in
theorem lset_any (w : World) (A : Option Addr) (n c : Nat) (ss : List ByteArray) (hm : n ≤ maxLen) (hs : Sl w w.heap.size A n (ss.map Value.string)) (hz : ∀ s ∈ ss, s.size ≤ maxLen) :
    Calls Try.prog 15 #[.slice A n c] w (SetPost w) := by
  unfold maxLen at hm hz
  obtain ⟨i0, hi, hz0, hz1, hz2⟩ := info_parts infoStr
  have HSTR : Hid (∀ W k, Below w.heap.size w W → k < n → ∃ b off s, A = some ⟨b, off, none⟩ ∧ W.cell? ⟨b, off + k, none⟩ = some (.string s) ∧ s.size ≤ 9223372036854775807 ∧ b < w.heap.size) := Lib.hid (by
    intro W k hW hk
    obtain ⟨b, off, u, hA, hb, hu, hc⟩ := (hs.below hW).at_ hk
    rw [List.getElem?_map] at hu
    obtain ⟨s, hs1, rfl⟩ := Option.map_eq_some_iff.1 hu
    exact ⟨b, off, s, hA, hc, hz s (List.mem_of_getElem? hs1), hb⟩)
  clear hs hz
  go_enter Try.func15, Try.ntmps15
  go_wp2
  go_loopw [3, 4] (fun o v wr => ∃ (k m : Nat) (out : List ByteArray), v = .int .i64 k ∧ k ≤ n ∧ k ≤ 300 ∧ m ≤ k ∧ Hid (SetL out ∧ out.length = m) ∧ Hid (wr.ownsRow w.heap.size 9 1 o m (out.map Value.string)) ∧ Hid (Below w.heap.size w wr)) (fun _ v _ => n - (intOf v).toNat)
  case atStart => exact ⟨0, 0, [], rfl, Nat.zero_le _, Nat.zero_le _, Nat.le_refl _, Lib.hid ⟨⟨fun i j _ h => by simp at h, fun s h => by cases h⟩, rfl⟩, Lib.hid ⟨rfl, .inl ⟨rfl, rfl⟩⟩, Lib.hid (Below.refl _ _)⟩
  case round =>
    obtain ⟨k, m, out, rfl, hk, hk3, hmk, HS, HO, HB⟩ := hrel
    obtain ⟨Ao, co, rfl, hnc, hcm⟩ := own_shape HO.out
    by_cases hlt : k < n
    case neg =>
      have hb1 : decide ((k : Int) < (n : Int)) = false := by simp; omega
      go_wp2
      go_ret
      exact ⟨_, _, _, out, rfl, HS.out.2, by omega, HS.out.1, HO.out, HB.out⟩
    have hb1 : decide ((k : Int) < (n : Int)) = true := by simp; omega
    by_cases hk300 : k < 300
    case neg =>
      have hb2 : decide ((k : Int) < 300) = false := by simp; omega
      go_wp2
      go_ret
      exact ⟨_, _, _, out, rfl, HS.out.2, by omega, HS.out.1, HO.out, HB.out⟩
    have hb2 : decide ((k : Int) < 300) = true := by simp; omega
    obtain ⟨b, off, s, rfl, hcs, hsz, hbw⟩ := HSTR.out wr k HB.out hlt
    have f3 : (0 : Int) ≤ (k : Int) := by omega
    have f4 : (k : Int) < (n : Int) := by omega
    by_cases hs0 : s.size < 1
    case pos =>
      have hb3 : decide ((s.size : Int) < 1) = true := by simp; omega
      have hsz0 : s.size = 0 := by omega
      go_wp2
      go_roundw
      case rel => exact ⟨k + 1, m, out, by go_num, by omega, by omega, by omega, HS, HO, HB⟩
      case measure => simp [intOf]; omega
    have hb3 : decide ((s.size : Int) < 1) = false := by simp; omega
    by_cases hs2 : 256 < s.size
    case pos =>
      have hb4 : decide ((256 : Int) < (s.size : Int)) = true := by simp; omega
      go_wp2
      go_roundw
      case rel => exact ⟨k + 1, m, out, by go_num, by omega, by omega, by omega, HS, HO, HB⟩
      case measure => simp [intOf]; omega
    have hb4 : decide ((256 : Int) < (s.size : Int)) = false := by simp; omega
    have HOUT : Hid (∀ j, j < m → ∃ g o t, Ao = some ⟨g, o, none⟩ ∧ wr.cell? ⟨g, o + j, none⟩ = some (.string t) ∧ at_ (out.map bytesOf) j = bytesOf t) := Lib.hid (by
      intro j hj
      obtain ⟨g, o, u, hA, _, hu, hc⟩ := (Sl.of_own HO.out).at_ hj
      rw [List.getElem?_map] at hu
      obtain ⟨t, ht, rfl⟩ := Option.map_eq_some_iff.1 hu
      exact ⟨g, o, t, hA, hc, at_bytes ht⟩)
    have HS12 : Hid (1 ≤ s.size ∧ s.size ≤ 256) := Lib.hid ⟨by omega, by omega⟩
    have HCW : Hid (w.cell? ⟨b, off + k, none⟩ = some (.string s)) := Lib.hid ((HB.out.cell (p := ⟨b, off + k, none⟩) hbw).symm.trans hcs)
    obtain ⟨wo, rfl⟩ : ∃ wo : World, wo = wr := ⟨_, rfl⟩
    have hbo : b < wo.heap.size := Nat.lt_of_lt_of_le hbw HB.out.size
    go_wp2
    go_loopw [5] (fun v wi => ∃ (a q : Nat), v = .int .i64 a ∧ a ≤ m ∧ Hid (∀ j, a ≤ j → j < m → ltS (bytesOf s) (at_ (out.map bytesOf) j) = true) ∧ wi = wo.drewN q) (fun v _ => (intOf v).toNat)
    case atStart => exact ⟨m, 0, rfl, Nat.le_refl _, Lib.hid (fun j h1 h2 => by omega), rfl⟩
    case round =>
      obtain ⟨a, q, rfl, ham, HGT, rfl⟩ := hrel
      have hsplit : a = 0 ∨ (0 < a ∧ ∃ g o t, Ao = some ⟨g, o, none⟩ ∧ wo.cell? ⟨g, o + (a - 1), none⟩ = some (.string t) ∧ at_ (out.map bytesOf) (a - 1) = bytesOf t) := by
        rcases Nat.eq_zero_or_pos a with h | h
        · exact .inl h
        · exact .inr ⟨h, HOUT.out (a - 1) (by omega)⟩
      have hgo : (a = 0) ∨ (∃ g o t, 0 < a ∧ Ao = some ⟨g, o, none⟩ ∧ wo.cell? ⟨g, o + (a - 1), none⟩ = some (.string t) ∧ at_ (out.map bytesOf) (a - 1) = bytesOf t ∧ ltS (bytesOf s) (bytesOf t) = true) ∨
          (∃ g o t, 0 < a ∧ Ao = some ⟨g, o, none⟩ ∧ wo.cell? ⟨g, o + (a - 1), none⟩ = some (.string t) ∧ at_ (out.map bytesOf) (a - 1) = bytesOf t ∧ ltS (bytesOf s) (bytesOf t) = false ∧ bytesOf t = bytesOf s) ∨
          (∃ g o t, 0 < a ∧ Ao = some ⟨g, o, none⟩ ∧ wo.cell? ⟨g, o + (a - 1), none⟩ = some (.string t) ∧ at_ (out.map bytesOf) (a - 1) = bytesOf t ∧ ltS (bytesOf s) (bytesOf t) = false ∧ bytesOf t ≠ bytesOf s) := by
        rcases hsplit with h | ⟨h, g, o, t, h1, h2, h3⟩
        · exact .inl h
        · cases hl : ltS (bytesOf s) (bytesOf t) with
          | true => exact .inr (.inl ⟨g, o, t, h, h1, h2, h3, hl⟩)
          | false =>
            by_cases he : bytesOf t = bytesOf s
            · exact .inr (.inr (.inl ⟨g, o, t, h, h1, h2, h3, hl, he⟩))
            · exact .inr (.inr (.inr ⟨g, o, t, h, h1, h2, h3, hl, he⟩))
      clear hsplit
      rcases hgo with h0 | ⟨g, o, t, h0, rfl, hct, hat, hl⟩ | ⟨g, o, t, h0, rfl, hct, hat, hl, he⟩ | ⟨g, o, t, h0, rfl, hct, hat, hl, he⟩
      case inr.inl =>
        have g1 : Op.bytesLess t.toList s.toList = false := by
          rw [str_less]
          cases h : ltS (bytesOf t) (bytesOf s) with
          | false => rfl
          | true => have := ltS_trans hl h; rw [ltS_irrefl] at this; cases this
        have g6 : (t.toList == s.toList) = false := by rw [str_eq]; simpa using (ltS_ne hl).symm
        have g2 : decide (0 < a) = true := by simpa using h0
        have g3 : (0 : Int) ≤ (a : Int) - 1 := by omega
        have g4 : (a : Int) - 1 < (m : Int) := by omega
        have g5 : ((a : Int) - 1).toNat = a - 1 := by omega
        have HAT := Lib.hid hat; have HLL := Lib.hid hl
        clear hat hl
        go_wp2
        go_quiet (fail)
        go_wp2
        go_roundw
        case rel =>
          refine ⟨a - 1, q + nq, by rw [show ((a - 1 : Nat) : Int) = (a : Int) - 1 by omega], by omega, Lib.hid (fun j h1 h2 => ?_), ?_⟩
          · rcases Nat.eq_or_lt_of_le h1 with e | e
            · rw [← e, HAT.out]; exact HLL.out
            · exact HGT.out j (by omega) h2
          · simp
        case measure => simp [intOf]; omega
      case inr.inr.inl =>
        have g1 : Op.bytesLess t.toList s.toList = false := by rw [str_less, he, ltS_irrefl]
        have g2 : decide (0 < a) = true := by simpa using h0
        have g3 : (0 : Int) ≤ (a : Int) - 1 := by omega
        have g4 : (a : Int) - 1 < (m : Int) := by omega
        have g5 : ((a : Int) - 1).toNat = a - 1 := by omega
        have g6 : (t.toList == s.toList) = true := by rw [str_eq]; simpa using he
        clear hat hl he
        go_wp2
        go_quiet (fail)
        go_wp2
        go_quiet (fail)
        go_wp2
        go_roundw
        case rel => exact ⟨k + 1, m, out, by go_num, by omega, by omega, by omega, HS, HO, Lib.hid (bel_drewN HB.out _)⟩
        case measure => simp [intOf]; omega
      case' inl =>
        have g2 : decide (0 < a) = false := by simp; omega
        have g2' : ¬ 0 < a := by omega
        have HINS : Hid (SetL (out.take a ++ s :: out.drop a)) := Lib.hid (HS.out.1.insert (by rw [HS.out.2]; exact ham) HS12.out (fun h => by omega) (fun j h1 h2 => HGT.out j h1 (by rw [← HS.out.2]; exact h2)))
        clear h0
        go_wp2
        go_quiet (fail)
        obtain ⟨q1, rfl⟩ : ∃ q1, q1 = nq := ⟨_, rfl⟩
        go_wp2
        go_quiet (fail)
        obtain ⟨q2, rfl⟩ : ∃ q2, q2 = nq := ⟨_, rfl⟩
      case' inr.inr.inr =>
        have hts : ltS (bytesOf t) (bytesOf s) = true := by
          rcases ltS_total he with h | h
          · exact h
          · rw [hl] at h; cases h
        have g1 : Op.bytesLess t.toList s.toList = true := by rw [str_less]; exact hts
        have g2 : decide (0 < a) = true := by simpa using h0
        have g3 : (0 : Int) ≤ (a : Int) - 1 := by omega
        have g4 : (a : Int) - 1 < (m : Int) := by omega
        have g5 : ((a : Int) - 1).toNat = a - 1 := by omega
        have g6 : (t.toList == s.toList) = false := by rw [str_eq]; simpa using he
        have HINS : Hid (SetL (out.take a ++ s :: out.drop a)) := Lib.hid (HS.out.1.insert (by rw [HS.out.2]; exact ham) HS12.out (fun _ => by rw [hat]; exact hts) (fun j h1 h2 => HGT.out j h1 (by rw [← HS.out.2]; exact h2)))
        clear hat hl he hts
        go_wp2
        go_quiet (fail)
        obtain ⟨q1, rfl⟩ : ∃ q1, q1 = nq := ⟨_, rfl⟩
        go_wp2
        go_quiet (fail)
        obtain ⟨q2, rfl⟩ : ∃ q2, q2 = nq := ⟨_, rfl⟩
      all_goals
        have HO1 := Lib.hid (own_drewN (own_drewN (own_drewN HO.out q) q1) q2)
        have HB1 := Lib.hid (bel_drewN (bel_drewN (bel_drewN HB.out q) q1) q2)
        obtain ⟨w3, hw3⟩ : ∃ w3, ((wo.drewN q).drewN q1).drewN q2 = w3 := ⟨_, rfl⟩
        rw [hw3] at HO1 HB1 ⊢
        have hs3 := HB1.out.size
        clear hw3 hcs
        go_wp2_with (at_builtin; refine wpList_append_own _ rfl _ _ 22 rfl w.heap.size 9 i0 _ 1 16 Try.underlying22 hi hz0 hz1 hz2 rfl (by decide) _ _ _ rfl (HO1.out.alloc _) ⟨w3.heap.size, 0, none⟩ 1 1 [_] rfl rfl (cell_one_new _ _ _) one_str (by unfold maxLen; omega) (by omega) (by simp; omega) ?_; intro v' w4 hown4 hgrow4 _; obtain ⟨g4, c4, rfl, hc4, hcm4⟩ := own_some hown4 (by omega))
        have HB4 := Lib.hid (bel_app HB1.out (Nat.le_refl _) HO1.out hgrow4)
        obtain ⟨cur, hg4, hrow4, -, -, hcl, hct⟩ := own_cur hown4
        have HCT := Lib.hid hct; have HCL := Lib.hid hcl; have HR4 := Lib.hid hrow4
        clear hown4 hgrow4 hct hcl hrow4
        have i1 : (0 : Int) ≤ (a : Int) + 1 := by omega
        have i2 : (a : Int) + 1 ≤ (m : Int) + 1 := by omega
        have i3 : (a : Int) ≤ (m : Int) + 1 := by omega
        have i4 : ((a : Int) + 1).toNat = a + 1 := by omega
        clear HO1 HO HB1
        go_wp2
        have i5 : IntKind.i64.wrap ((a : Int) + 1) = (a : Int) + 1 := IntWalk.i64_in _ (by omega)
        refine wp_region_held_drew (S := fun _ => True) (by kernel_rfl) trivial (fun hHeld => ?_)
        refine wpAnyH_take (i := 0) (oi := _) (v := ?_) rfl (by kernel_rfl) (by kernel_rfl) (by kernel_rfl) (fun _ _ _ h => h) (Or.inl ⟨by rfl, ?_⟩) hHeld ?_
        rotate_left
        · (intro w hSw; (try dsimp only at hSw); simp only [List.getElem_toArray, List.getElem_cons_zero]; go_simp; try with_reducible rfl)
        simp only [List.getElem_toArray, List.getElem_cons_zero, Act.put, List.setIfInBounds_toArray, List.set_cons_zero, List.set_cons_succ]
        refine wpAnyH_take (i := 1) (oi := _) (v := ?_) rfl (by kernel_rfl) (by kernel_rfl) (by kernel_rfl) (fun _ _ _ h => h) (Or.inl ⟨by rfl, ?_⟩) hHeld ?_
        rotate_left
        · (intro w hSw; (try dsimp only at hSw); simp only [List.getElem_toArray, List.getElem_cons_zero, List.getElem_cons_succ]; go_simp; try with_reducible rfl)
        simp only [List.getElem_toArray, List.getElem_cons_zero, List.getElem_cons_succ, Act.put, List.setIfInBounds_toArray, List.set_cons_zero, List.set_cons_succ]
        refine wpAnyH_take (i := 2) (oi := _) (v := ?_) rfl (by kernel_rfl) (by kernel_rfl) (by kernel_rfl) (fun _ _ _ h => h) (Or.inl ⟨by rfl, ?_⟩) hHeld ?_
        rotate_left
        · (intro w hSw; (try dsimp only at hSw); simp only [List.getElem_toArray, List.getElem_cons_zero, List.getElem_cons_succ]; go_simp; try with_reducible rfl)
        simp only [List.getElem_toArray, List.getElem_cons_zero, List.getElem_cons_succ, Act.put, List.setIfInBounds_toArray, List.set_cons_zero, List.set_cons_succ]
        refine wpAnyH_take (i := 3) (oi := _) (v := ?_) rfl (by kernel_rfl) (by kernel_rfl) (by kernel_rfl) (fun _ _ _ h => h) (Or.inl ⟨by rfl, ?_⟩) hHeld ?_
        rotate_left
        · (intro w hSw; (try dsimp only at hSw); simp only [List.getElem_toArray, List.getElem_cons_zero, List.getElem_cons_succ]; go_simp; try with_reducible rfl)
        simp only [List.getElem_toArray, List.getElem_cons_zero, List.getElem_cons_succ, Act.put, List.setIfInBounds_toArray, List.set_cons_zero, List.set_cons_succ]
        refine wpAnyH_take (i := 4) (oi := _) (v := ?_) rfl (by kernel_rfl) (by kernel_rfl) (by kernel_rfl) (fun _ _ _ h => h) (Or.inl ⟨by rfl, ?_⟩) hHeld ?_
        rotate_left
        · (intro w hSw; (try dsimp only at hSw); simp only [List.getElem_toArray, List.getElem_cons_zero, List.getElem_cons_succ]; go_simp; try with_reducible rfl)
        simp only [List.getElem_toArray, List.getElem_cons_zero, List.getElem_cons_succ, Act.put, List.setIfInBounds_toArray, List.set_cons_zero, List.set_cons_succ]
        refine wpAnyH_take (i := 5) (oi := _) (v := ?_) rfl (by kernel_rfl) (by kernel_rfl) (by kernel_rfl) (fun _ _ _ h => h) (Or.inl ⟨by rfl, ?_⟩) hHeld ?_
        rotate_left
        · (intro w hSw; (try dsimp only at hSw); simp only [List.getElem_toArray, List.getElem_cons_zero, List.getElem_cons_succ]; go_simp; try with_reducible rfl)
        simp only [List.getElem_toArray, List.getElem_cons_zero, List.getElem_cons_succ, Act.put, List.setIfInBounds_toArray, List.set_cons_zero, List.set_cons_succ]
        refine wpAnyH_take (i := 6) (oi := _) (v := ?_) rfl (by kernel_rfl) (by kernel_rfl) (by kernel_rfl) (fun _ _ _ h => h) (Or.inl ⟨by rfl, ?_⟩) hHeld ?_
        rotate_left
        · (intro w hSw; (try dsimp only at hSw); simp only [List.getElem_toArray, List.getElem_cons_zero, List.getElem_cons_succ]; go_simp; try with_reducible rfl)
        simp only [List.getElem_toArray, List.getElem_cons_zero, List.getElem_cons_succ, Act.put, List.setIfInBounds_toArray, List.set_cons_zero, List.set_cons_succ]
        refine wpAnyH_ready (rs := [7]) (by kernel_rfl) (by simp) ?_
        refine AllReadyH.cons (o := _) rfl (fun K hK => ?_) AllReadyH.nil
        have hdl : ((out.drop a).map Value.string).length = m - a := by rw [List.length_map, List.length_drop, HS.out.2]
        have hpd : 0 < ((out.drop a).map Value.string).length → (if c4 = a + 1 then some (⟨g4, 0, none⟩ : Addr) else some ⟨g4, a + 1, none⟩) = some ⟨g4, a + 1, none⟩ ∧
            ∃ ad, (if c4 = a then some (⟨g4, 0, none⟩ : Addr) else some ⟨g4, a, none⟩) = some ad ∧ ∀ j v, ((out.drop a).map Value.string)[j]? = some v → w4.drew.cell? (ad.add j) = some v := by
          intro h0
          rw [hdl] at h0
          rw [if_neg (by omega), if_neg (by omega)]
          refine ⟨rfl, _, rfl, fun j v hv => ?_⟩
          have hadd : (⟨g4, a, none⟩ : Addr).add j = ⟨g4, a + j, none⟩ := by unfold Addr.add; split <;> simp_all
          rw [hadd]
          have h1 : Row w4.drew g4 9 cur.toArray := HR4.out
          rw [h1.cell]
          simpa using cur_at HCT.out HS.out.2 hv
        have hmin : ((out.drop a).map Value.string).length = Nat.min (m + 1 - a) (m - a) := by
          rw [hdl]
          show _ = min _ _
          omega
        obtain ⟨cs, hcs⟩ : ∃ cs, (out.drop a).map Value.string = cs := ⟨_, rfl⟩
        have hone := strs_one (out.drop a)
        rw [hcs] at hdl hpd hmin hone
        refine step_copy_splice rfl (.tmp 68) (.tmp 71) 22 22 rfl 9 rfl sizeStr _ _ _ _ _ _ (by rfl) (by rfl) g4 (a + 1) cur 9 HR4.out cs hmin hpd (by rw [hdl, HCL.out]; omega) hone w.heap.size w HB4.out.drew hg4 ?_
        intro w5 HG5 hB5
        refine hK.out _ _ trivial (fun hHeld => ?_)
        clear hK K
        try simp only [Act.put, List.setIfInBounds_toArray]
        refine wpAnyH_done (by kernel_rfl) ?_ _
        have HB5 := Lib.hid hB5
        have hrl : (splice cur (a + 1) cs).length = c4 := by rw [length_splice _ _ _ (by rw [hdl, HCL.out]; omega), HCL.out]
        have hc5 : w5.cell? ⟨b, off + k, none⟩ = some (.string s) := (hB5.cell (p := ⟨b, off + k, none⟩) hbw).trans HCW.out
        obtain ⟨u, hu⟩ : ∃ u, (splice cur (a + 1) cs)[a]? = some u := ⟨_, List.getElem?_eq_getElem (by rw [hrl]; omega)⟩
        have hr5 : Row w5 g4 9 (splice cur (a + 1) cs).toArray := HG5.out
        have hca : w5.cell? ⟨g4, a, none⟩ = some u := by rw [hr5.cell]; simpa using hu
        have hfa := hr5.frozen a
        have HINR := Lib.hid (ins_row (s := s) HS.out.2 ham (by rw [HCL.out]; exact hc4) (take_of_succ HCT.out HS.out.2))
        rw [hcs] at HINR
        have HR5 := Lib.hid hr5; have HRL := Lib.hid hrl
        have hal : (0 : Int) ≤ (a : Int) := by omega
        have ham2 : (a : Int) < (m : Int) + 1 := by omega
        clear hB5 hrl hu hr5 hdl hpd hmin hone hcs i5 HG5
        go_wp2
        go_roundw
        case rel =>
          refine ⟨k + 1, m + 1, out.take a ++ s :: out.drop a, by go_num, by omega, by omega, by omega, Lib.hid ⟨HINS.out, ?_⟩, Lib.hid ?_, Lib.hid ?_⟩
          · have := HS.out.2; simp; omega
          · have h1 := HR5.out.put a (.string s)
            rw [List.setIfInBounds_toArray] at h1
            exact own_mk hg4 h1 hc4 hcm4 (by rw [List.length_set]; exact HRL.out) HINR.out
          · exact HB5.out.setCell (p := ⟨g4, a, none⟩) hg4 _
        case measure => simp [intOf]; omega
end Go.Proofs.Ytpnkjfjkeoleaaa.LD
