import Derived.Test.YtnjplichhkmmhaaRecL4
import Derived.Test.YtnjplichhkmmhaaRec10
import Derived.Test.YtnjplichhkmmhaaMr
import Derived.Deep.RegionWith
/- Walk: the law RecurLocalTime. -/
namespace Go.Proofs.Ytnjplichhkmmhaa.CalW
open Go.RowKit Go.Proofs.Ytnjplichhkmmhaa.Base Go.Proofs.Ytnjplichhkmmhaa.Cal
set_option linter.unusedVariables false
set_option linter.unusedSimpArgs false
attribute [local go_sem high] eqA28
/-- what the law finds at an instant that is not added. -/
def LocFact (z : Zone) (d : Date) (x : Int) : Prop := ∃ o y m dd, offR z x = (o, (0, 0)) ∧ civilR x o = (⟨y, m, dd, d.h, d.mi, d.s, o⟩, (0, 0)) ∧ -900 ≤ o ∧ o ≤ 900
theorem loc_fact {z : Zone} {d : Date} {r : Rule} {a b : Int} (h : btwF z d r a b = (0, 0)) : ∀ u ∈ betL z d r a b, r.ad.contains u = false → LocFact z d u := fun u hu hn => by
  have o := btwF_ok h
  have m := ((betL_spec (z := z) (d := d) (r := r) (a := a) (b := b) o.1).2 u).1 hu
  have hna : u ∉ r.ad := by simpa using hn
  have hr : u ∈ regL z d r := by
    rcases m.2 with h | h
    · exact h.1
    · exact absurd h hna
  exact reg_local o.1 o.2.1 o.2.2.1 hr
set_option maxHeartbeats 4000000 in
set_option maxRecDepth 20000 in
theorem lawloctime_walk (z : Zone) (d : Date) (r : Rule) (sr : RS) (a b : Int) (w : World) (hs : z.name.size ≤ maxLen) (hd : True) (hR : RuleAt w r sr) (ia0 : -9223372036854775808 ≤ a) (ia1 : a ≤ 9223372036854775807) (ib0 : -9223372036854775808 ≤ b) (ib1 : b ≤ 9223372036854775807) :
    Calls Try.prog 13 #[zval z, dval d, rval r sr, .int .i64 a, .int .i64 b] w fun e w' => e = .returned (.bool true) ∧ Below w.heap.size w w' := by
  have hX := fun W => rexample_calls W
  have hB := fun W A => between_calls z d r sr a b W hs A ia0 ia1 ib0 ib1
  have hBD := fun (h : btwF z d r a b = (0, 0)) => bet_bd h
  have hLF := fun (h : btwF z d r a b = (0, 0)) => loc_fact h
  have hIN := fun (h : btwF z d r a b = (0, 0)) => (betL_spec (z := z) (d := d) (r := r) (a := a) (b := b) (btwF_ok h).1).1
  have hL := fun (h : btwF z d r a b = (0, 0)) => betL_len (z := z) (d := d) (a := a) (b := b) (btwF_ok h).2.2.2
  have hOF := fun t W h1 h2 => offset_calls z t W hs h1 h2
  have hOr := btwF_or z d r a b
  generalize btwF z d r a b = f at *
  generalize betL z d r a b = BL at *
  generalize hLL : (if f = (0, 0) then BL else []) = LL at *
  have hu25 := Try.underlying25
  have hu34 := Try.underlying34
  have hu49 := Try.underlying49
  have hu28 := Try.underlying28
  have hu35 := Try.underlying35
  have S : Hid (LwS w (((w.alloc (.cells (zcells z) 25)).alloc (.cells (dcells d) 34)).alloc (.cells (rcells r sr) 49)) (zcells z) (dcells d) (rcells r sr)) := Lib.hid
    ⟨((Bk.new w _ _).al _).al _, (Bk.new' (w.alloc (.cells (zcells z) 25)) _ _ (by simp)).al _, Bk.new' ((w.alloc (.cells (zcells z) 25)).alloc (.cells (dcells d) 34)) _ _ (by simp), below_al (below_al (below_al (Below.refl _ _) _) _) _⟩
  have HX := Lib.hid hX
  have HB := Lib.hid hB
  have HBD := Lib.hid hBD
  have HLF := Lib.hid hLF
  have HIN := Lib.hid hIN
  have HL := Lib.hid hL
  have HOF := Lib.hid hOF
  have HRA := Lib.hid hR
  have HOR := Lib.hid hOr
  have HLL := Lib.hid hLL
  clear hX hB hBD hLF hIN hL hOF hR hs hOr hLL
  go_enter Try.func13, Try.ntmps13
  go_upto_region 1 with fail
  generalize ((w.alloc (.cells (zcells z) 25)).alloc (.cells (dcells d) 34)).alloc (.cells (rcells r sr) 49) = w0 at *
  go_upto_region 3 with (go_at_call 27; ((with_reducible refine (HX.out _).mono ?_); rintro e w1 ⟨rfl, hb⟩; have T := Lib.hid (S.out.bel hb); clear S hb; have S := T; clear T))
  have cz := S.out.z.cell; have cd := S.out.d.cell; have cr := S.out.u.cell
  go_upto_region 4 with (go_at_call 30; ((with_reducible refine (HB.out _ (HRA.out.bel S.out.b)).mono ?_); rintro e w3 ⟨A1, c1, rfl, hown, hb⟩))
  have T := Lib.hid ((S.out.bel hb).al (.cells #[.int .i64 f.1, .int .i64 f.2] 28))
  have K1 := Lib.hid (Bk.new w3 28 #[.int .i64 f.1, .int .i64 f.2])
  have KR := Lib.hid ((Rd.own hown).al (.cells #[.int .i64 f.1, .int .i64 f.2] 28))
  clear S cz cd cr hown hb
  have S := T
  clear T
  generalize w3.heap.size = g1 at *
  generalize w3.alloc (.cells #[.int .i64 f.1, .int .i64 f.2] 28) = w4 at *
  clear w1 w3 w0
  have k1 := K1.out.cell
  rcases HOR.out with hf | hf
  · subst hf
    have hl := HLL.out
    rw [if_pos rfl] at hl
    subst hl
    have hn0 := HL.out rfl
    have hl4 : (BL.length : Int) ≤ 1801 := by omega
    have hlf := HLF.out rfl
    have hbd := HBD.out rfl
    have hin := HIN.out rfl
    have HLF2 := Lib.hid hlf
    have HBD2 := Lib.hid hbd
    have HIN2 := Lib.hid hin
    clear HLL HOR HL HLF HBD HIN hlf hbd hin hn0 HB HX
    have hHas := fun x W (A : RuleAt W r sr) => has_calls sr.a7 r.ad sr.c7 x W A.h7 (by have := A.l7; unfold maxLen; omega)
    have HHS := Lib.hid hHas
    clear hHas
    go_upto_region 7 with fail
    clear k1 K1
    go_loopw [13] (fun s13 wr => ∃ k : Nat, k ≤ BL.length ∧ s13 = .int .i64 k ∧ Hid (Below w4.heap.size w4 wr)) (fun s13 _ => BL.length - (intOf s13).toNat)
    case atStart => exact ⟨0, by omega, rfl, Lib.hid (Below.refl _ _)⟩
    case round =>
      obtain ⟨k, hk, rfl, hb⟩ := hrel
      by_cases hlt : k < BL.length
      · have i1 : (0 : Int) ≤ (k : Int) := by omega
        have i2 : (k : Int) < (BL.length : Int) := by omega
        obtain ⟨ad, hA, hre⟩ := rd_all KR.out hlt
        subst hA
        have hbx := HBD2.out BL[k] (List.getElem_mem hlt)
        have hlx := HLF2.out BL[k] (List.getElem_mem hlt)
        have hix : ∀ m (hm : k = m + 1), decide (BL[k] ≤ BL[m]) = false := fun m hm => by
          have := List.pairwise_iff_getElem.1 HIN2.out m k (by omega) hlt (by omega)
          simp; omega
        have HIX := Lib.hid hix
        have HRE := Lib.hid hre
        have hrx : ∀ W, Below w4.heap.size w4 W → W.cell? (ad.add k) = some (.int .i64 BL[k]) := fun W hb => HRE.out W hb k hlt
        have HRX := Lib.hid hrx
        clear hix hre hrx
        generalize hx : BL[k] = x at *
        have HXE := Lib.hid hx
        clear hx
        have KU := Lib.hid (S.out.u.bel hb.out)
        have cr := KU.out.s
        have sx : ∀ s : Bel wr, s.w.cell? (ad.add k) = some (.int .i64 x) := fun s => HRX.out _ (below_go hb.out s.below)
        have HS6 := Lib.hid (fun (s : Bel wr) => HHS.out x s.w (HRA.out.bel (below_go S.out.b (below_go hb.out s.below))))
        go_upto_region 9 with fail
        refine wp_region_bel (by kernel_rfl) (by kernel_rfl) ?_
        rcases tf (r.ad.contains x) with hc | hc
        · have hs6 := HS6.out
          rw [hc] at hs6
          have HS7 := Lib.hid hs6
          have HLX := Lib.hid (hlx hc)
          clear hs6 HS6 hlx hc
          repeat (go_big_quiet_step ((go_at_call 26; exact bel_eq (HS7.out _))))
          refine wpQuiet_nil ?_
          rintro _ ⟨s0, rfl⟩
          have hb2 := Lib.hid (below_go hb.out s0.below)
          clear sx cr HS7 KU hb
          have hb := hb2
          clear hb2
          generalize s0.w = w5 at *
          clear s0 wr
          obtain ⟨o, y, mo, dd, ho, hcv, o1, o2⟩ := HLX.out
          have hOk := fun W => HOF.out x W (by omega) (by omega)
          rw [ho] at hOk
          have hCk : ∀ W, Calls Try.prog 25 #[.int .i64 x, .int .i64 o] W fun e w' => e = .returned (.tuple #[.agg #[.int .i64 y, .int .i64 mo, .int .i64 dd, .int .i64 d.h, .int .i64 d.mi, .int .i64 d.s, .int .i64 o], .agg #[.int .i64 0, .int .i64 0]]) ∧ Below W.heap.size W w' := fun W => by
            have := civil_calls x o W (by omega) (by omega)
            rw [hcv] at this
            exact this
          have HOK := Lib.hid hOk
          have HCK := Lib.hid hCk
          clear ho hcv hOk hCk HLX hbx
          have ZW := Lib.hid (S.out.z.bel hb.out)
          have ca := HRX.out _ hb.out
          go_upto_region 10 with fail
          go_cut [14, 15] (fun s14 s15 wx => ∃ g, s14 = .int .i64 o ∧ s15 = .pointer (some ⟨g, 0, none⟩) ∧ Hid (Bk wx g 28 #[.int .i64 0, .int .i64 0] ∧ Below w5.heap.size w5 wx ∧ w5.heap.size ≤ g))
          case first =>
            have cz := ZW.out.cell
            have cz2 := (ZW.out.al (.cells #[.int .i64 0, .int .i64 0] 28)).cell
            have ca2 := HRX.out _ (below_al hb.out (.cells #[.int .i64 0, .int .i64 0] 28))
            have n3 : w.heap.size < w5.heap.size := ZW.out.lt
            go_region_with (go_at_call 17; refine (HOK.out _).mono ?_; rintro e w6 ⟨rfl, hb6⟩; first | (have B6 := Lib.hid ((Bk.new w5 28 #[.int .i64 0, .int .i64 0]).dr.bel hb6); have c6 := B6.out.cell; have f6 := B6.out.frozen) | (have B6 := Lib.hid hb6))
            all_goals
              go_wp2_with fail
              go_meet
              first
                | exact ⟨_, rfl, rfl, Lib.hid ⟨Bk.new _ _ _, below_al (below_go (below_drew1 (Below.refl _ _)) hb6) _, (below_go (below_drew1 (Below.refl _ _)) hb6).size⟩⟩
                | exact ⟨_, rfl, rfl, Lib.hid ⟨(B6.out.put 0 _).put' 1 _ rfl, below_set (below_set (below_go (below_drew1 (below_al (Below.refl _ _) _)) hb6) (Nat.le_refl _) _) (Nat.le_refl _) _, Nat.le_refl _⟩⟩
          case rest =>
            obtain ⟨g, rfl, rfl, hcut⟩ := hcut
            obtain ⟨kb, kw, kg⟩ := hcut.out
            have FX := Lib.hid kb
            have BX := Lib.hid (below_go hb.out kw)
            clear hcut kb kw kg ZW ca
            have ca := HRX.out _ BX.out
            go_upto_region 12 with (go_at_call 25; refine (HCK.out _).mono ?_; rintro e w6 ⟨rfl, hb6⟩)
            have FY := Lib.hid (((FX.out.bel hb6).al (.cells #[.int .i64 y, .int .i64 mo, .int .i64 dd, .int .i64 d.h, .int .i64 d.mi, .int .i64 d.s, .int .i64 o] 34)).al (.cells #[.int .i64 0, .int .i64 0] 28))
            have BY := Lib.hid (below_al (below_al (below_go BX.out hb6) (.cells #[.int .i64 y, .int .i64 mo, .int .i64 dd, .int .i64 d.h, .int .i64 d.mi, .int .i64 d.s, .int .i64 o] 34)) (.cells #[.int .i64 0, .int .i64 0] 28))
            have CY := Lib.hid ((Bk.new w6 34 #[.int .i64 y, .int .i64 mo, .int .i64 dd, .int .i64 d.h, .int .i64 d.mi, .int .i64 d.s, .int .i64 o]).al (.cells #[.int .i64 0, .int .i64 0] 28))
            have CF := Lib.hid (Bk.new' (n := w6.heap.size + 1) (w6.alloc (.cells #[.int .i64 y, .int .i64 mo, .int .i64 dd, .int .i64 d.h, .int .i64 d.mi, .int .i64 d.s, .int .i64 o] 34)) 28 #[.int .i64 0, .int .i64 0] (by simp))
            clear ca FX BX hb6
            generalize w6.heap.size = gc at *
            generalize (w6.alloc (.cells #[.int .i64 y, .int .i64 mo, .int .i64 dd, .int .i64 d.h, .int .i64 d.mi, .int .i64 d.s, .int .i64 o] 34)).alloc (.cells #[.int .i64 0, .int .i64 0] 28) = w8 at *
            clear w6 wc hb
            have hre : ∀ (s : Bel w8) (m : Nat) (hm : m < BL.length), s.w.cell? (ad.add m) = some (.int .i64 BL[m]) := fun s m hm => HRE.out _ (below_go BY.out s.below) m hm
            have DW := Lib.hid (S.out.d.bel BY.out)
            refine wp_region_bel (by kernel_rfl) (by kernel_rfl) ?_
            have sf := FY.out.s
            have sd := DW.out.s
            have sc := CY.out.s
            have se := CF.out.s
            have q1 : (d.h != d.h) = false := by simp
            have q2 : (d.mi != d.mi) = false := by simp
            have q3 : (d.s != d.s) = false := by simp
            have r1 : ∀ s : Bel w8, s.w.cell? (ad.add k) = some (.int .i64 x) := fun s => HRX.out _ (below_go BY.out s.below)
            rcases Nat.eq_zero_or_pos k with h0 | h0
            · have g1 : (k : Int) ≤ 0 := by omega
              have g2 : decide ((0 : Int) < (k : Int)) = false := by simp; omega
              clear hre
              repeat (go_big_quiet_step (fail))
              refine wpQuiet_nil ?_
              rintro _ ⟨s0, rfl⟩
              have hb0 := Lib.hid (below_go BY.out s0.below)
              generalize s0.w = w9 at *
              clear s0 sf sd sc se r1
              go_wp2
              exact ⟨⟨k + 1, by omega, by go_num, hb0⟩, by simp [intOf]; omega⟩
            · obtain ⟨m, hm⟩ : ∃ m, k = m + 1 := ⟨k - 1, by omega⟩
              have hml : m < BL.length := by omega
              have g1 : 0 < (k : Int) := by omega
              have g2 : decide ((0 : Int) < (k : Int)) = true := by simp; omega
              have g3 : IntKind.i64.wrap ((k : Int) - 1) = (m : Int) := by rw [i64_id (by omega)]; omega
              have m1 : (0 : Int) ≤ (m : Int) := by omega
              have m2 : (m : Int) < (BL.length : Int) := by omega
              have r2 : ∀ s : Bel w8, s.w.cell? (ad.add m) = some (.int .i64 BL[m]) := fun s => hre s m hml
              have g4 := HIX.out m hm
              generalize BL[m] = xm at *
              clear hre hm
              repeat (go_big_quiet_step (fail))
              refine wpQuiet_nil ?_
              rintro _ ⟨s0, rfl⟩
              have hb0 := Lib.hid (below_go BY.out s0.below)
              generalize s0.w = w9 at *
              clear s0 sf sd sc se r1 r2
              go_wp2
              exact ⟨⟨k + 1, by omega, by go_num, hb0⟩, by simp [intOf]; omega⟩
        · have hs6 := HS6.out
          rw [hc] at hs6
          have HS7 := Lib.hid hs6
          clear hs6 HS6 hlx hc
          repeat (go_big_quiet_step ((go_at_call 26; exact bel_eq (HS7.out _))))
          refine wpQuiet_nil ?_
          rintro _ ⟨s0, rfl⟩
          have hb0 := Lib.hid (below_go hb.out s0.below)
          generalize s0.w = w9 at *
          clear s0 sx cr
          go_wp2
          exact ⟨⟨k + 1, by omega, by go_num, hb0⟩, by simp [intOf]; omega⟩
      · go_wp2
        go_ret
        exact ⟨rfl, below_go S.out.b hb.out⟩
  · have p1 : (f.1 == 0) = false := by simpa using hf
    have p1b : (!(f.1 == 0)) = true := by rw [p1]; rfl
    have p1c : (f.1 != 0) = true := by simpa using hf
    have hl := HLL.out
    rw [if_neg (fun h => hf (by rw [h]))] at hl
    subst hl
    clear HLL HL hf HOR HBD HIN HLF
    go_wp2
    go_ret
    exact ⟨by simp, S.out.b⟩
end Go.Proofs.Ytnjplichhkmmhaa.CalW
