/- louds: the law LoudsKnown. -/
import Derived.Test.YtpnkjfjkeoleaaaLkNone
import Derived.Test.YtpnkjfjkeoleaaaWLdOne
set_option linter.unusedVariables false
set_option maxRecDepth 100000
namespace Go.Proofs.Ytpnkjfjkeoleaaa.LD
open Go.RowKit HK
open Go.Proofs.Ytpnkjfjkeoleaaa.B (bytesOf bytesOf_len bytesOf_lt PutInv)

theorem lit_n {w : World} {t : TypeId} {cs : Array Value} {xs : List Value} {m : Nat} (hx : cs.toList = xs) (hm : xs.length = m) : Sl (w.alloc (.cells cs t)) (w.heap.size + 1) (some ⟨w.heap.size, 0, none⟩) m xs := by
  have h := lit_sl (w := w) (t := t) hx
  rw [show cs.size = m by rw [← hm, ← hx]; simp] at h
  exact h
/-- A literal of strings that is no set is refused. -/
theorem ref_lit (w : World) (ss : List ByteArray) (cs : Array Value) (m : Nat) (hcs : cs.toList = ss.map Value.string) (hm : ss.length = m) (hm2 : m ≤ 20000) (hbad : ¬ Good (ss.map bytesOf)) (hz : ∀ s ∈ ss, s.size ≤ maxLen) :
    Calls Try.prog 22 #[.slice (some ⟨w.heap.size, 0, none⟩) m m, .int .i64 1] (w.alloc (.cells cs 9)) (RefPost (w.alloc (.cells cs 9))) := by
  refine refused_any _ _ m m 1 (no_bad _ _ m m ss hm2 hbad hz ?_)
  have h := lit_n (w := w) (t := 9) (cs := cs) (m := m) hcs (by rw [List.length_map, hm])
  rw [World.size_alloc]
  exact h
theorem ref_long (w : World) (n : Nat) (N : Array Value) (hN : madeCells #[.string ⟨#[]⟩] n = N) (hn : 20000 < n) (hm : n ≤ 1048576) :
    Calls Try.prog 22 #[.slice (some ⟨w.heap.size, 0, none⟩) n n, .int .i64 2] (w.alloc (.cells N 9)) (RefPost (w.alloc (.cells N 9))) := by
  refine refused_any _ _ n n 2 (no_long _ _ n n (List.replicate n ⟨#[]⟩) hn (by unfold maxLen; omega) (fun s hs => by rw [(List.mem_replicate.1 hs).2]; exact Nat.zero_le _) ?_)
  have h := lit_n (w := w) (t := 9) (cs := N) (xs := (List.replicate n (⟨#[]⟩ : ByteArray)).map Value.string) (m := n) (by rw [← hN, made_strs]) (by rw [List.length_map, List.length_replicate])
  rw [World.size_alloc]
  exact h
/-- Zeros, made and turned into a string. -/
theorem conv_zeros (w : World) (n : Nat) (N : Array Value) (hN : madeCells #[.int .u8 0] n = N) :
    (convert 26 9 (.slice (some ⟨w.heap.size, 0, none⟩) n n)).run Try.prog (w.alloc (.cells N 5)) = .ok (.string (bs (List.replicate n 0))) (w.alloc (.cells N 5)) := by
  have h := lit_n (w := w) (t := 5) (cs := N) (xs := (List.replicate n 0).map B.u8v) (m := n) (by rw [← hN, made_u8]) (by rw [List.length_map, List.length_replicate])
  exact conv_sl (P := Try.prog) 26 5 9 Try.underlying26 Try.underlying5 Try.underlying9 h n
theorem make_u8 (n : Nat) (N : Array Value) (hN : madeCells #[.int .u8 0] n = N) (hn : n ≤ 1048576) (W : World) : (Instr.makeSlice 26 (.int .i64 (n : Nat)) (.int .i64 (n : Nat))).run Try.prog W = .ok (.slice (some ⟨W.heap.size, 0, none⟩) n n) (W.alloc (.cells N 5)) := by
  have h := run_make_row' (P := Try.prog) 26 5 (.int .u8 0) 1 Try.underlying26 B.infoU8 rfl .i64 .i64 n (by omega) (by omega) W
  rw [hN] at h
  exact h
theorem make_st (n : Nat) (N : Array Value) (hN : madeCells #[.string ⟨#[]⟩] n = N) (hn : n ≤ 1048576) (W : World) : (Instr.makeSlice 22 (.int .i64 (n : Nat)) (.int .i64 (n : Nat))).run Try.prog W = .ok (.slice (some ⟨W.heap.size, 0, none⟩) n n) (W.alloc (.cells N 9)) := by
  have h := run_make_strs n hn W
  rw [hN] at h
  exact h

theorem bytes_app (a b : ByteArray) : bytesOf (a ++ b) = bytesOf a ++ bytesOf b := by
  unfold B.bytesOf
  rw [ByteArray.data_append, Array.toList_append, List.map_append]
set_option maxHeartbeats 16000000 in
theorem known_any (w : World) : Calls Try.prog 4 #[] w (RefPost w) := by
  obtain ⟨N257, hN257⟩ : ∃ N, madeCells #[Value.int .u8 0] 257 = N := ⟨_, rfl⟩
  obtain ⟨N256, hN256⟩ : ∃ N, madeCells #[Value.int .u8 0] 256 = N := ⟨_, rfl⟩
  obtain ⟨N20, hN20⟩ : ∃ N, madeCells #[Value.string ⟨#[]⟩] 20001 = N := ⟨_, rfl⟩
  have m257 : ∀ W : World, (Instr.makeSlice 26 (.int .i64 257) (.int .i64 257)).run Try.prog W = .ok (.slice (some ⟨W.heap.size, 0, none⟩) 257 257) (W.alloc (.cells N257 5)) := make_u8 257 N257 hN257 (by omega)
  have m256 : ∀ W : World, (Instr.makeSlice 26 (.int .i64 256) (.int .i64 256)).run Try.prog W = .ok (.slice (some ⟨W.heap.size, 0, none⟩) 256 256) (W.alloc (.cells N256 5)) := make_u8 256 N256 hN256 (by omega)
  have m20 : ∀ W : World, (Instr.makeSlice 22 (.int .i64 20001) (.int .i64 20001)).run Try.prog W = .ok (.slice (some ⟨W.heap.size, 0, none⟩) 20001 20001) (W.alloc (.cells N20 9)) := make_st 20001 N20 hN20 (by omega)
  have c257 := fun W : World => conv_zeros W 257 N257 hN257
  have c256 := fun W : World => conv_zeros W 256 N256 hN256
  have r20 := fun W : World => ref_long W 20001 N20 hN20 (by omega) (by omega)
  obtain ⟨Z257, hZ257⟩ : ∃ Z, bs (List.replicate 257 0) = Z := ⟨_, rfl⟩
  obtain ⟨Z256, hZ256⟩ : ∃ Z, bs (List.replicate 256 0) = Z := ⟨_, rfl⟩
  have e257 : [Z257].map bytesOf = [List.replicate 257 0] := by rw [← hZ257]; simp only [List.map_cons, List.map_nil]; rw [B.bytesOf_bs _ (zer_lt 257)]
  have e256 : [Z256].map bytesOf = [List.replicate 256 0] := by rw [← hZ256]; simp only [List.map_cons, List.map_nil]; rw [B.bytesOf_bs _ (zer_lt 256)]
  have z257 : ∀ s ∈ [Z257], s.size ≤ maxLen := by intro s hs; rw [List.mem_singleton] at hs; rw [hs, ← hZ257, bs_size, List.length_replicate]; decide
  have z256 : ∀ s ∈ [Z256], s.size ≤ maxLen := by intro s hs; rw [List.mem_singleton] at hs; rw [hs, ← hZ256, bs_size, List.length_replicate]; decide
  rw [hZ257] at c257
  rw [hZ256] at c256
  have R257 : Hid (∀ W : World, Calls Try.prog 22 #[.slice (some ⟨W.heap.size, 0, none⟩) 1 1, .int .i64 1] (W.alloc (.cells #[.string Z257] 9)) (RefPost (W.alloc (.cells #[.string Z257] 9)))) := Lib.hid (fun W => ref_lit W [Z257] #[.string Z257] 1 rfl rfl (by omega) (by rw [e257]; exact bad_257) z257)
  have R20 := Lib.hid r20
  have E256 := Lib.hid e256; have ZZ256 := Lib.hid z256
  have HBA : Hid (∀ W : World, Calls Try.prog 22 #[.slice (some ⟨W.heap.size, 0, none⟩) 2 2, .int .i64 1] (W.alloc (.cells #[.string ⟨#[98]⟩, .string ⟨#[97]⟩] 9)) (RefPost (W.alloc (.cells #[.string ⟨#[98]⟩, .string ⟨#[97]⟩] 9)))) := Lib.hid (fun W =>
    ref_lit W [⟨#[98]⟩, ⟨#[97]⟩] #[.string ⟨#[98]⟩, .string ⟨#[97]⟩] 2 rfl rfl (by omega) (by rw [show ([⟨#[98]⟩, ⟨#[97]⟩] : List ByteArray).map bytesOf = [[98], [97]] by decide +kernel]; exact bad_ba) (by intro s hs; simp at hs; rcases hs with rfl | rfl <;> decide))
  have HAA : Hid (∀ W : World, Calls Try.prog 22 #[.slice (some ⟨W.heap.size, 0, none⟩) 2 2, .int .i64 1] (W.alloc (.cells #[.string ⟨#[97]⟩, .string ⟨#[97]⟩] 9)) (RefPost (W.alloc (.cells #[.string ⟨#[97]⟩, .string ⟨#[97]⟩] 9)))) := Lib.hid (fun W =>
    ref_lit W [⟨#[97]⟩, ⟨#[97]⟩] #[.string ⟨#[97]⟩, .string ⟨#[97]⟩] 2 rfl rfl (by omega) (by rw [show ([⟨#[97]⟩, ⟨#[97]⟩] : List ByteArray).map bytesOf = [[97], [97]] by decide +kernel]; exact bad_aa) (by intro s hs; simp at hs; rw [hs]; decide))
  have HEE : Hid (∀ W : World, Calls Try.prog 22 #[.slice (some ⟨W.heap.size, 0, none⟩) 1 1, .int .i64 1] (W.alloc (.cells #[.string ⟨#[]⟩] 9)) (RefPost (W.alloc (.cells #[.string ⟨#[]⟩] 9)))) := Lib.hid (fun W =>
    ref_lit W [⟨#[]⟩] #[.string ⟨#[]⟩] 1 rfl rfl (by omega) (by rw [show ([⟨#[]⟩] : List ByteArray).map bytesOf = [[]] by decide +kernel]; exact bad_e) (by intro s hs; rw [List.mem_singleton] at hs; rw [hs]; decide))
  have BEL : Hid (∀ (W W' : World) (o : Obj), Below w.heap.size w W → Below (W.alloc o).heap.size (W.alloc o) W' → Below w.heap.size w W') := Lib.hid (fun W W' o h1 h2 => (h1.alloc h1.size o).trans (h2.mono (h1.alloc h1.size o).size))
  clear hN257 hN256 hN20 hZ257 hZ256 e257 e256 z257 z256 r20
  go_enter Try.func4, Try.ntmps4
  go_wp2_with fail
  refine (HBA.out w).mono ?_
  rintro e w1 ⟨rfl, hB1⟩
  have HB1 := Lib.hid (BEL.out _ _ _ (Below.refl _ _) hB1)
  clear hB1
  go_wp2_with fail
  refine (HAA.out w1).mono ?_
  rintro e w2 ⟨rfl, hB2⟩
  have HB2 := Lib.hid (BEL.out _ _ _ HB1.out hB2)
  clear hB2
  go_wp2_with fail
  refine (HEE.out w2).mono ?_
  rintro e w3 ⟨rfl, hB3⟩
  have HB3 := Lib.hid (BEL.out _ _ _ HB2.out hB3)
  clear hB3
  have hr4 := R257.out (w3.alloc (.cells N257 5))
  rw [World.size_alloc] at hr4
  have HR4 := Lib.hid hr4
  clear hr4
  go_wp2_with fail
  refine HR4.out.mono ?_
  rintro e w4 ⟨rfl, hB4⟩
  have HB4 := Lib.hid (BEL.out _ _ _ (HB3.out.alloc HB3.out.size _) hB4)
  clear hB4
  go_wp2_with fail
  refine (R20.out w4).mono ?_
  rintro e w5 ⟨rfl, hB5⟩
  have HB5 := Lib.hid (BEL.out _ _ _ HB4.out hB5)
  clear hB5
  clear m257 m20 c257
  have HBD : Hid (∀ W : World, Calls Try.prog 23 #[.slice (some ⟨W.heap.size, 0, none⟩) 1 1] (W.alloc (.cells #[.string Z256] 9)) (Made2 (W.alloc (.cells #[.string Z256] 9)) ([Z256].map bytesOf))) := Lib.hid (fun W => by
    have hg : Good ([Z256].map bytesOf) := by rw [E256.out]; exact good_256
    refine lbuild_made _ _ 1 1 [Z256] _ rfl hg (wt_small hg (by simp)) (by decide) ZZ256.out ?_
    rw [World.size_alloc]
    exact lit_n rfl rfl)
  have hb6 := HBD.out (w5.alloc (.cells N256 5))
  rw [World.size_alloc] at hb6
  have HB6' := Lib.hid hb6
  clear hb6
  go_wp2_with fail
  refine HB6'.out.mono ?_
  rintro e w6 ⟨tb, ks, rfl, hT, hB6⟩
  have HB6 := Lib.hid (BEL.out _ _ _ (HB5.out.alloc HB5.out.size _) hB6)
  have HHS : Hid (∀ W : World, Below w6.heap.size w6 W → Calls Try.prog 20 #[.pointer (some ⟨tb, 0, none⟩), .slice (some ⟨W.heap.size, 0, none⟩) 1 1] (W.alloc (.cells #[.string Z256] 9)) (RefPost (W.alloc (.cells #[.string Z256] 9)))) := Lib.hid (fun W hW => by
    refine lhas_any _ _ _ tb ks _ 1 1 [Z256] ((hT.next hW).alloc _) (by decide) ZZ256.out ?_
    rw [World.size_alloc]
    exact lit_n rfl rfl)
  have hh := HHS.out (w6.alloc (.cells N256 5)) ((Below.refl _ _).alloc (Nat.le_refl _) _)
  rw [World.size_alloc] at hh
  have HH := Lib.hid hh
  clear hT hB6 hh
  go_wp2_with fail
  refine HH.out.mono ?_
  rintro e w7 ⟨rfl, hB7⟩
  have HB7 := Lib.hid (BEL.out _ _ _ (HB6.out.alloc HB6.out.size _) hB7)
  clear hB7 m256 c256
  have HB8' := Lib.hid (lbuild_made w7 none 0 0 [] [] rfl good_nil (wt_small good_nil (by decide)) (by decide) (fun s h => by cases h) ⟨rfl, fun h => absurd h (Nat.lt_irrefl _)⟩)
  go_wp2_with fail
  refine HB8'.out.mono ?_
  rintro e w8 ⟨tb8, ks8, rfl, hT8, hB8⟩
  have HB8 := Lib.hid (HB7.out.trans (hB8.mono HB7.out.size))
  have HT8 := Lib.hid hT8
  have HLL := Lib.hid (llen_any w8 _ _ tb8 [] ks8 hT8)
  have HU := Lib.hid (lunder_any w8 _ _ tb8 [] ks8 hT8 ⟨#[]⟩ (by decide) 3 (by decide))
  rw [under_none rfl, List.take_nil] at HU
  clear hT8 hB8
  go_upto_region 8 with fail
  obtain ⟨CS, hCS⟩ : ∃ CS : ByteArray, (⟨#[16, 0, 0, 0, 3, 0, 0, 0, 1, 0, 0, 0, 0, 0, 0, 0, 0, 0, 0, 0, 0, 0, 0, 0, 16, 0, 0, 0, 1, 0, 0, 0, 0, 0, 0, 0, 0, 0, 0, 0, 0, 0, 0, 0, 5, 0, 0, 0, 0, 0, 0, 0, 0]⟩ : ByteArray) = CS := ⟨_, rfl⟩
  rw [hCS]
  have hcs0 : bs code0 = CS := by rw [← hCS]; exact code0_bs
  have HCS := Lib.hid hcs0
  have hbq : (CS.toList == CS.toList) = true := by simp
  clear hCS
  go_wp2_with fail
  refine HLL.out.mono ?_
  rintro e w' ⟨rfl, rfl⟩
  rw [show (((([] : List Str).length : Nat)) : Int) = 0 from rfl]
  go_wp2_with fail
  refine HU.out.mono ?_
  rintro e w9 ⟨v, rfl, hown, hB9⟩
  obtain ⟨A9, c9, rfl⟩ := own_zero hown
  have HB9 := Lib.hid (HB8.out.trans (hB9.mono HB8.out.size))
  have hen := lenc_any w9 _ _ tb8 [] ks8 (HT8.out.next hB9)
  rw [full_nil_one HT8.out.full] at hen
  have HEN := Lib.hid hen
  clear hB9 hown hen hcs0
  go_wp2_with fail
  refine HEN.out.mono ?_
  rintro e w10 ⟨v10, rfl, hown10, hB10⟩
  obtain ⟨A10, c10, rfl, -, -⟩ := own_shape hown10
  have hcv10 := B.conv_put hown10
  rw [HCS.out] at hcv10
  have HB10 := Lib.hid (HB9.out.trans (hB10.mono HB9.out.size))
  have HD1 := Lib.hid (ldec_any w10 none 0 0 [] (fun v h => by cases h) ⟨rfl, fun h => absurd h (Nat.lt_irrefl _)⟩ (by decide) (by decide))
  clear hown10 hB10
  go_wp2_with fail
  refine HD1.out.mono ?_
  rintro e w11 ⟨hB11, ⟨L, ks', tb', hk, rfl, hT, -⟩ | ⟨rfl, -⟩⟩
  · exact (no_code_nil L ks' hT.full hk).elim
  have HB11 := Lib.hid (HB10.out.trans (hB11.mono HB10.out.size))
  clear hB11 hcv10
  go_upto_region 11 with fail
  have hbc : bytesOf CS = code0 := by rw [← HCS.out, B.bytesOf_bs _ code0_lt]
  have hsz : CS.size = 53 := by rw [← bytesOf_len, hbc]; rfl
  have HBC := Lib.hid hbc
  obtain ⟨T, gT⟩ : ∃ T, CS ++ (⟨#[0]⟩ : ByteArray) = T := ⟨_, rfl⟩
  have hbt : bytesOf T = code0 ++ [0] := by rw [← gT, bytes_app, hbc]; rfl
  have htz : T.size = 54 := by rw [← bytesOf_len, hbt]; rfl
  have HBT := Lib.hid hbt
  have gcat : ¬ 9223372036854775807 < CS.size + (⟨#[0]⟩ : ByteArray).size := by rw [hsz]; decide
  obtain ⟨A12, c12, w12, hrun12, hc12, hm12, hB12, hsl12⟩ := B.of_string w11 T (by rw [htz]; decide)
  have HB12 := Lib.hid (HB11.out.trans (hB12.mono HB11.out.size))
  rw [htz] at hrun12 hc12 hsl12
  have HD12 := Lib.hid (ldec_any w12 A12 54 c12 (bytesOf T) (bytesOf_lt T) hsl12 hc12 hm12)
  clear hbc hbt hB12 hsl12 hc12 hm12
  go_wp2_with fail
  refine HD12.out.mono ?_
  rintro e w13 ⟨hB13, ⟨L, ks', tb', hk, rfl, hT, -⟩ | ⟨rfl, -⟩⟩
  · exact (no_code_more L ks' hT.full (hk.trans HBT.out)).elim
  have HB13 := Lib.hid (HB12.out.trans (hB13.mono HB12.out.size))
  clear hB13 hrun12 gcat gT htz
  obtain ⟨A14, c14, w14, hrun14, hc14, hm14, hB14, hsl14⟩ := B.of_string w13 CS (by rw [hsz]; decide)
  have HB14 := Lib.hid (HB13.out.trans (hB14.mono HB13.out.size))
  rw [hsz] at hrun14 hc14 hsl14
  have hdec := ldec_any w14 A14 53 c14 (bytesOf CS) (bytesOf_lt CS) hsl14 hc14 hm14
  rw [show bytesOf CS = codeK [] [[]] by rw [HBC.out]; exact codeK_nil.symm] at hdec
  have HD14 := Lib.hid hdec
  clear hB14 hsl14 hc14 hm14 hdec
  go_wp2_with fail
  refine HD14.out.mono ?_
  intro e w15 hp
  obtain ⟨hB15, tb15, rfl, -⟩ := dec_code full_nil hp
  have HB15 := Lib.hid (HB14.out.trans (hB15.mono HB14.out.size))
  clear hp hB15 hrun14 hsz
  go_wp2_with fail
  refine (many_any w15).mono ?_
  rintro e w16 ⟨rfl, hB16⟩
  have HB16 := Lib.hid (HB15.out.trans (hB16.mono HB15.out.size))
  clear hB16
  go_wp2_with fail
  refine (none_any w16).mono ?_
  rintro e w17 ⟨rfl, hB17⟩
  have HB17 := Lib.hid (HB16.out.trans (hB17.mono HB16.out.size))
  clear hB17
  go_wp2_with fail
  refine (lworks_true w17).mono ?_
  rintro e w18 ⟨rfl, hB18⟩
  have HB18 := Lib.hid (HB17.out.trans (hB18.mono HB17.out.size))
  clear hB18
  go_wp2
  go_ret
  exact ⟨rfl, HB18.out⟩
end Go.Proofs.Ytpnkjfjkeoleaaa.LD
