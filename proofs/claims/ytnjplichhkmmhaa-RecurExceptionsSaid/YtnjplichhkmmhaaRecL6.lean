import Derived.Test.YtnjplichhkmmhaaRecL4
import Derived.Test.YtnjplichhkmmhaaRec10
/- Walk: the law RecurExceptions. -/
namespace Go.Proofs.Ytnjplichhkmmhaa.CalW
open Go.RowKit Go.Proofs.Ytnjplichhkmmhaa.Base Go.Proofs.Ytnjplichhkmmhaa.Cal
set_option linter.unusedVariables false
set_option linter.unusedSimpArgs false
attribute [local go_sem high] eqA28
theorem exc_at {w : World} {r : Rule} {sr : RS} {t : Int} {A : Option Addr} {c : Nat} (h : RuleAt w r sr) (hA : Rd w iv A [t]) (h1 : -68719476736 ≤ t) (h2 : t ≤ 68719476736) : RuleAt w (r.exc t) ⟨sr.a5, sr.c5, A, c, sr.a7, sr.c7⟩ :=
  ⟨h.h5, hA, h.h7, h.l5, by simp [Rule.exc], h.l7, h.i5, by simp [Rule.exc, I64]; omega, h.i7, h.u0, h.u1⟩
theorem rd_one (w : World) (t : Int) (ty : TypeId) : Rd (w.alloc (.cells #[.int .i64 t] ty)) iv (some ⟨w.heap.size, 0, none⟩) [t] := fun _ => by
  refine ⟨_, rfl, by simp, fun j x hx => ?_⟩
  have B := (Bk.new w ty #[.int .i64 t]).cell
  match j, hx with
  | 0, hx => have := B 0; simp at hx; subst hx; simp [Addr.add]
  | n + 1, hx => simp at hx
theorem want_len (l : List Int) (i : Int) (ad : List Int) : ∀ k, (wantL l i ad k).length ≤ k
  | 0 => Nat.le_refl _
  | k + 1 => by
    have := want_len l i ad k
    unfold wantL
    split
    · simp; exact this
    · omega
set_option maxHeartbeats 4000000 in
set_option maxRecDepth 20000 in
theorem lawexc_walk (z : Zone) (d : Date) (r : Rule) (sr : RS) (a b i : Int) (w : World) (hs : z.name.size ≤ maxLen) (hd : True) (hR : RuleAt w r sr) (ia0 : -9223372036854775808 ≤ a) (ia1 : a ≤ 9223372036854775807) (ib0 : -9223372036854775808 ≤ b) (ib1 : b ≤ 9223372036854775807) (ii0 : -9223372036854775808 ≤ i) (ii1 : i ≤ 9223372036854775807) :
    Calls Try.prog 10 #[zval z, dval d, rval r sr, .int .i64 a, .int .i64 b, .int .i64 i] w fun e w' => e = .returned (.bool true) ∧ Below w.heap.size w w' := by
  have hX := fun W => rexample_calls W
  have hB := fun W A => between_calls z d r sr a b W hs A ia0 ia1 ib0 ib1
  have hB2 : ∀ t, btwF z d r a b = (0, 0) → r.ex = [] → -68719476736 ≤ t → t ≤ 68719476736 → ∀ s' W, RuleAt W (r.exc t) s' → Calls Try.prog 30 #[zval z, dval d, rval (r.exc t) s', .int .i64 a, .int .i64 b] W (GivesBF W ((betL z d r a b).filter (fun x => x != t || r.ad.contains x)) (0, 0)) := fun t h he h1 h2 s' W A => by
    have := between_calls z d (r.exc t) s' a b W hs A ia0 ia1 ib0 ib1
    rwa [exc_btw h h1 h2, if_pos rfl, exc_bet (btwF_ok h).1 he] at this
  have hBD := fun (h : btwF z d r a b = (0, 0)) => bet_bd h
  have hIN := fun (h : btwF z d r a b = (0, 0)) => (betL_spec (z := z) (d := d) (r := r) (a := a) (b := b) (btwF_ok h).1).1
  have hL := fun (h : btwF z d r a b = (0, 0)) => betL_len (z := z) (d := d) (a := a) (b := b) (btwF_ok h).2.2.2
  have hOr := btwF_or z d r a b
  generalize btwF z d r a b = f at *
  generalize betL z d r a b = BL at *
  generalize hLL : (if f = (0, 0) then BL else []) = LL at *
  have hu25 := Try.underlying25
  have hu34 := Try.underlying34
  have hu49 := Try.underlying49
  have hu28 := Try.underlying28
  have hu35 := Try.underlying35
  obtain ⟨i0, hi0, hz0, hz1, hz2⟩ := info_parts info3
  have HI0 := Lib.hid hi0
  have HZ0 := Lib.hid hz0
  have HZ1 := Lib.hid hz1
  have HZ2 := Lib.hid hz2
  have S : Hid (LwS w (((w.alloc (.cells (zcells z) 25)).alloc (.cells (dcells d) 34)).alloc (.cells (rcells r sr) 49)) (zcells z) (dcells d) (rcells r sr)) := Lib.hid
    ⟨((Bk.new w _ _).al _).al _, (Bk.new' (w.alloc (.cells (zcells z) 25)) _ _ (by simp)).al _, Bk.new' ((w.alloc (.cells (zcells z) 25)).alloc (.cells (dcells d) 34)) _ _ (by simp), below_al (below_al (below_al (Below.refl _ _) _) _) _⟩
  have HX := Lib.hid hX
  have HB := Lib.hid hB
  have HB2 := Lib.hid hB2
  have HBD := Lib.hid hBD
  have HIN := Lib.hid hIN
  have HL := Lib.hid hL
  have HRA := Lib.hid hR
  have HOR := Lib.hid hOr
  have HLL := Lib.hid hLL
  clear hX hB hB2 hBD hIN hL hR hs hOr hLL hi0 hz0 hz1 hz2
  go_enter Try.func10, Try.ntmps10
  go_upto_region 1 with fail
  generalize ((w.alloc (.cells (zcells z) 25)).alloc (.cells (dcells d) 34)).alloc (.cells (rcells r sr) 49) = w0 at *
  go_upto_region 3 with (go_at_call 27; ((with_reducible refine (HX.out _).mono ?_); rintro e w1 ⟨rfl, hb⟩; have T := Lib.hid (S.out.bel hb); clear S hb; have S := T; clear T))
  have cz := S.out.z.cell; have cd := S.out.d.cell; have cr := S.out.u.cell
  go_upto_region 4 with (go_at_call 30; ((with_reducible refine (HB.out _ (HRA.out.bel S.out.b)).mono ?_); rintro e w3 ⟨A1, c1, rfl, hown, hb⟩))
  have T := Lib.hid ((S.out.bel hb).al (.cells #[.int .i64 f.1, .int .i64 f.2] 28))
  have K1 := Lib.hid (Bk.new w3 28 #[.int .i64 f.1, .int .i64 f.2])
  have KR := Lib.hid ((Rd.own hown).al (.cells #[.int .i64 f.1, .int .i64 f.2] 28))
  clear S cz cd cr hown hb
  have S := T
  clear T
  generalize w3.heap.size = g1 at *
  generalize w3.alloc (.cells #[.int .i64 f.1, .int .i64 f.2] 28) = w4 at *
  clear w1 w3 w0
  have k1 := K1.out.cell
  have cr := S.out.u.cell
  rcases HOR.out with hf | hf
  · subst hf
    have hl := HLL.out
    rw [if_pos rfl] at hl
    subst hl
    have hn0 := HL.out rfl
    clear HLL HOR HL
    by_cases hex : r.ex = []
    · have g0 : decide (0 < (r.ex.length : Int)) = false := by simp [hex]
      have g0' : decide (0 < r.ex.length) = false := by simp [hex]
      have HEX := Lib.hid hex
      clear hex
      rcases tf (inR i 0 (BL.length - 1)) with hin | hin
      · go_wp2_with (go_at_call 24; refine (rIn_is hin _).mono ?_; rintro e w' ⟨rfl, rfl⟩)
        go_ret
        exact ⟨rfl, S.out.b⟩
      · go_upto_region 6 with (go_at_call 24; refine (rIn_is hin _).mono ?_; rintro e w' ⟨rfl, rfl⟩)
        have hn := inR_t hin
        clear hin
        obtain ⟨j, rfl⟩ : ∃ j : Nat, i = j := ⟨i.toNat, by omega⟩
        have hj : j < BL.length := by omega
        have hbd := HBD.out (by simp) BL[j] (List.getElem_mem hj)
        have j1 : (0 : Int) ≤ (j : Int) := by omega
        have j2 : (j : Int) < (BL.length : Int) := by omega
        have hw := fun ad => wantL_eq (ad := ad) (HIN.out (by simp)) hj BL.length (Nat.le_refl _)
        have HC := Lib.hid (HB2.out BL[j] (by simp) HEX.out hbd.1 hbd.2)
        obtain ⟨ad0, hA1, hre⟩ := rd_all KR.out hj
        subst hA1
        have HRE := Lib.hid hre
        have cx := HRE.out _ (Below.refl _ _) j hj
        have cx1 := HRE.out (w4.alloc (.cells (rcells r sr) 49)) (below_al (Below.refl _ _) _) j hj
        have hj2 := hj
        generalize hx : BL[j] = t at *
        have HW := Lib.hid (hw r.ad)
        have HBT := Lib.hid hbd
        clear hw hre hbd HB2 HBD HIN HB HX hn ii0 ii1 g0 g0'
        have B8 := Lib.hid ((Bk.new w4 49 (rcells r sr)).al (.cells #[.int .i64 t] 3))
        have c8 := B8.out.cell
        have f8 := B8.out.frozen
        go_upto_region 8 with fail
        have N8 : Hid (Bk ((w4.alloc (.cells #[.int .i64 r.fr, .int .i64 r.ev, .int .i64 r.ct, .int .i64 r.un, .bool r.hu, .slice sr.a5 r.wd.length sr.c5, .slice (some ⟨w4.heap.size + 1, 0, none⟩) 1 1, .slice sr.a7 r.ad.length sr.c7] 49)).alloc (.cells #[.int .i64 t] 3)) w4.heap.size 49 (rcells (r.exc t) ⟨sr.a5, sr.c5, some ⟨w4.heap.size + 1, 0, none⟩, 1, sr.a7, sr.c7⟩)) := Lib.hid ((Bk.new w4 49 #[.int .i64 r.fr, .int .i64 r.ev, .int .i64 r.ct, .int .i64 r.un, .bool r.hu, .slice sr.a5 r.wd.length sr.c5, .slice (some ⟨w4.heap.size + 1, 0, none⟩) 1 1, .slice sr.a7 r.ad.length sr.c7]).al (.cells #[.int .i64 t] 3))
        have T := Lib.hid ((S.out.al (.cells #[.int .i64 r.fr, .int .i64 r.ev, .int .i64 r.ct, .int .i64 r.un, .bool r.hu, .slice sr.a5 r.wd.length sr.c5, .slice (some ⟨w4.heap.size + 1, 0, none⟩) 1 1, .slice sr.a7 r.ad.length sr.c7] 49)).al (.cells #[.int .i64 t] 3))
        have r8 := rd_one (w4.alloc (.cells #[.int .i64 r.fr, .int .i64 r.ev, .int .i64 r.ct, .int .i64 r.un, .bool r.hu, .slice sr.a5 r.wd.length sr.c5, .slice (some ⟨w4.heap.size + 1, 0, none⟩) 1 1, .slice sr.a7 r.ad.length sr.c7] 49)) t 3
        have hz8 : (w4.alloc (.cells #[.int .i64 r.fr, .int .i64 r.ev, .int .i64 r.ct, .int .i64 r.un, .bool r.hu, .slice sr.a5 r.wd.length sr.c5, .slice (some ⟨w4.heap.size + 1, 0, none⟩) 1 1, .slice sr.a7 r.ad.length sr.c7] 49)).heap.size = w4.heap.size + 1 := by simp
        rw [hz8] at r8
        have R8 := Lib.hid r8
        have Q8 := Lib.hid ((KR.out.al (.cells #[.int .i64 r.fr, .int .i64 r.ev, .int .i64 r.ct, .int .i64 r.un, .bool r.hu, .slice sr.a5 r.wd.length sr.c5, .slice (some ⟨w4.heap.size + 1, 0, none⟩) 1 1, .slice sr.a7 r.ad.length sr.c7] 49)).al (.cells #[.int .i64 t] 3))
        have hF : ∃ F, F = BL.filter (fun x => x != t || r.ad.contains x) := ⟨_, rfl⟩
        obtain ⟨F, hF⟩ := hF
        have hw2 : wantL BL j r.ad BL.length = F := by rw [hF]; have := HW.out; rwa [List.take_length] at this
        have hfl : F.length ≤ 1801 := by rw [hF]; exact Nat.le_trans (List.length_filter_le _ _) hn0
        rw [← hF] at HC
        have HW2 := Lib.hid hw2
        clear HW hw2 hF S KR HRE B8 c8 f8 cx cx1 K1 k1 cr r8 hz8
        have S := T
        clear T
        generalize w4.heap.size = g8 at *
        generalize (w4.alloc (.cells #[.int .i64 r.fr, .int .i64 r.ev, .int .i64 r.ct, .int .i64 r.un, .bool r.hu, .slice sr.a5 r.wd.length sr.c5, .slice (some ⟨g8 + 1, 0, none⟩) 1 1, .slice sr.a7 r.ad.length sr.c7] 49)).alloc (.cells #[.int .i64 t] 3) = w5 at *
        clear w4
        have cz := S.out.z.cell; have cd := S.out.d.cell; have c8 := N8.out.cell
        go_upto_region 9 with (go_at_call 30; ((with_reducible refine (HC.out _ _ (exc_at (HRA.out.bel S.out.b) R8.out HBT.out.1 HBT.out.2)).mono ?_); rintro e w6 ⟨A2, c2, rfl, hown, hb⟩))
        have T := Lib.hid ((S.out.bel hb).al (.cells #[.int .i64 0, .int .i64 0] 28))
        have K2 := Lib.hid (Bk.new w6 28 #[.int .i64 0, .int .i64 0])
        have RX := Lib.hid ((Rd.own hown).al (.cells #[.int .i64 0, .int .i64 0] 28))
        have QL := Lib.hid ((Q8.out.bel hb).al (.cells #[.int .i64 0, .int .i64 0] 28))
        clear S N8 R8 Q8 cz cd c8 hown hb HC
        have S := T
        clear T
        generalize w6.heap.size = g9 at *
        generalize w6.alloc (.cells #[.int .i64 0, .int .i64 0] 28) = w7 at *
        clear w5 w6
        go_upto_region 11 with fail
        go_loopw [18, 19] (fun s18 s19 wr => ∃ (k : Nat) (A3 : Option Addr) (c3 : Nat), k ≤ BL.length ∧ s19 = .int .i64 k ∧ s18 = .slice A3 (wantL BL j r.ad k).length c3 ∧ Hid (OwSt w7 wr (wantL BL j r.ad k) (.slice A3 (wantL BL j r.ad k).length c3))) (fun _ s19 _ => (BL.length - (intOf s19).toNat))
        case atStart => exact ⟨0, none, 0, by omega, rfl, rfl, Lib.hid ⟨World.ownsRow_nil _ _ _ _, Below.refl _ _⟩⟩
        case round =>
          obtain ⟨k, A3, c3, hk, rfl, rfl, O⟩ := hrel
          by_cases hlt : k < BL.length
          · have hst : wantL BL j r.ad (k + 1) = if ((k : Int) ≠ (j : Int) ∨ r.ad.contains (BL.getD k 0) = true) then wantL BL j r.ad k ++ [BL.getD k 0] else wantL BL j r.ad k := rfl
            have hgd : BL.getD k 0 = BL[k] := by simp [List.getD, List.getElem?_eq_getElem hlt]
            rw [hgd] at hst
            have hlo : (wantL BL j r.ad k).length ≤ 1801 := Nat.le_trans (want_len BL j r.ad k) (by omega)
            have i1 : (0 : Int) ≤ (k : Int) := by omega
            have i2 : (k : Int) < (BL.length : Int) := by omega
            obtain ⟨ad1, hA1, hre⟩ := rd_all QL.out hlt
            injection hA1 with hA1
            subst hA1
            have hrx : ∀ W, Below w7.heap.size w7 W → W.cell? (ad0.add k) = some (.int .i64 BL[k]) := fun W hb => hre W hb k hlt
            have HRX := Lib.hid hrx
            clear hre hrx hgd
            generalize hx : BL[k] = x at *
            clear hx
            generalize hp : wantL BL j r.ad k = o at *
            have HST := Lib.hid hst
            have HLO := Lib.hid hlo
            clear hst hlo hp
            have cr := (S.out.u.bel O.out.b).s
            have sx : ∀ s : Bel wr, s.w.cell? (ad0.add k) = some (.int .i64 x) := fun s => HRX.out _ (below_go O.out.b s.below)
            have HS6 := Lib.hid (fun (s : Bel wr) => has_calls sr.a7 r.ad sr.c7 x s.w ((HRA.out.bel (below_go S.out.b (below_go O.out.b s.below))).h7) (by have := HRA.out.l7; unfold maxLen; omega))
            have HOB := Lib.hid (fun (s : Bel wr) => O.out.bel s.below)
            go_upto_region 13 with fail
            refine wp_region_bel (by kernel_rfl) (by kernel_rfl) ?_
            by_cases hkj : k = j
            · have p1 : ((k : Int) != (j : Int)) = false := by simp [hkj]
              have p1b : ((k : Int) == (j : Int)) = true := by simp [hkj]
              have hkj' : ¬ ((k : Int) ≠ (j : Int)) := by omega
              rcases tf (r.ad.contains x) with hc | hc
              · have hs6 := HS6.out
                rw [hc] at hs6
                have HS7 := Lib.hid hs6
                have hs2 := HST.out
                rw [if_neg (by rw [hc]; simp [hkj])] at hs2
                have HS2 := Lib.hid hs2
                clear hs6 HS6 hs2 HST hc hkj hkj'
                repeat (go_big_quiet_step ((go_at_call 26; exact bel_eq (HS7.out _))))
                refine wpQuiet_nil ?_
                rintro _ ⟨s0, rfl⟩
                have T := Lib.hid (HOB.out s0)
                clear O HOB sx cr
                have O := T
                clear T
                generalize s0.w = w9 at *
                clear HS7
                clear s0 wr
                have cx := HRX.out _ O.out.b
                go_wp2
                exact ⟨⟨k + 1, A3, c3, by omega, by go_num, by rw [HS2.out], by rw [HS2.out]; exact O⟩, by simp [intOf]; omega⟩
              · have hs6 := HS6.out
                rw [hc] at hs6
                have HS7 := Lib.hid hs6
                have hs2 := HST.out
                rw [if_pos (.inr hc)] at hs2
                have HS2 := Lib.hid hs2
                clear hs6 HS6 hs2 HST hc hkj hkj'
                repeat (go_big_quiet_step ((go_at_call 26; exact bel_eq (HS7.out _))))
                refine wpQuiet_nil ?_
                rintro _ ⟨s0, rfl⟩
                have T := Lib.hid (HOB.out s0)
                clear O HOB sx cr
                have O := T
                clear T
                generalize s0.w = w9 at *
                clear HS7
                clear s0 wr
                have cx := HRX.out _ O.out.b
                go_wp2_with (at_builtin; refine wpList_app1 rfl _ _ 35 rfl w7.heap.size 3 i0 (.int .i64 0) 8 Try.underlying35 HI0.out HZ0.out HZ1.out HZ2.out rfl iv A3 c3 o x _ rfl O.out.own rfl rfl (by have := HLO.out; unfold maxLen; omega) (by have := HLO.out; omega) O.out.b.size ?_; intro A3 c3 w10 hown hg; have T := Lib.hid (O.out.app hg hown); clear O cx hown hg; have O := T; clear T)
                exact ⟨⟨k + 1, A3, c3, by omega, by go_num, by rw [HS2.out]; simp, by rw [HS2.out]; exact O⟩, by simp [intOf]; omega⟩
            · have p1 : ((k : Int) != (j : Int)) = true := by simp; omega
              have p1b : ((k : Int) == (j : Int)) = false := by simp; omega
              have hkj' : (k : Int) ≠ (j : Int) := by omega
              have hs2 := HST.out
              rw [if_pos (.inl hkj')] at hs2
              have HS2 := Lib.hid hs2
              clear HS6 hs2 HST hkj hkj'
              repeat (go_big_quiet_step (fail))
              refine wpQuiet_nil ?_
              rintro _ ⟨s0, rfl⟩
              have T := Lib.hid (HOB.out s0)
              clear O HOB sx cr
              have O := T
              clear T
              generalize s0.w = w9 at *
              clear s0 wr
              have cx := HRX.out _ O.out.b
              go_wp2_with (at_builtin; refine wpList_app1 rfl _ _ 35 rfl w7.heap.size 3 i0 (.int .i64 0) 8 Try.underlying35 HI0.out HZ0.out HZ1.out HZ2.out rfl iv A3 c3 o x _ rfl O.out.own rfl rfl (by have := HLO.out; unfold maxLen; omega) (by have := HLO.out; omega) O.out.b.size ?_; intro A3 c3 w10 hown hg; have T := Lib.hid (O.out.app hg hown); clear O cx hown hg; have O := T; clear T)
              exact ⟨⟨k + 1, A3, c3, by omega, by go_num, by rw [HS2.out]; simp, by rw [HS2.out]; exact O⟩, by simp [intOf]; omega⟩
          · have hkl : k = BL.length := by omega
            subst hkl
            rw [HW2.out] at O ⊢
            have k2 := (K2.out.bel O.out.b).cell
            have hnf : F.length ≤ maxLen := by unfold maxLen; omega
            have HNF := Lib.hid hnf
            clear hnf hfl
            go_wp2_with (go_at_call 21; ((with_reducible refine (ints_same (RX.out.bel O.out.b) (Rd.own O.out.own) HNF.out).mono ?_); rintro e w10 ⟨rfl, hb10⟩))
            go_ret
            exact ⟨by simp, below_go (below_go S.out.b O.out.b) hb10⟩
    · have h0 : 0 < r.ex.length := List.length_pos_iff.2 hex
      have g0 : decide (0 < (r.ex.length : Int)) = true := by simpa using h0
      have g0' : decide (0 < r.ex.length) = true := by simpa using h0
      clear hex h0
      go_wp2
      go_ret
      exact ⟨rfl, S.out.b⟩
  · have p1 : (f.1 == 0) = false := by simpa using hf
    have p1b : (!(f.1 == 0)) = true := by rw [p1]; rfl
    have p1c : (f.1 != 0) = true := by simpa using hf
    have hl := HLL.out
    rw [if_neg (fun h => hf (by rw [h]))] at hl
    subst hl
    clear HLL HB2 HL hf HOR HBD HIN
    go_wp2
    go_ret
    exact ⟨by simp, S.out.b⟩
end Go.Proofs.Ytnjplichhkmmhaa.CalW
