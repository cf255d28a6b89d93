import Derived.Test.YtnjplichhkmmhaaCalW8
import Derived.Test.YtnjplichhkmmhaaMe
import Derived.Test.YtnjplichhkmmhaaMf
/- Walks: the reference's turns and offsets. -/
namespace Go.Proofs.Ytnjplichhkmmhaa.CalW
open Go.RowKit Go.Proofs.Ytnjplichhkmmhaa.Base Go.Proofs.Ytnjplichhkmmhaa.Cal
set_option linter.unusedVariables false
set_option linter.unusedSimpArgs false

set_option maxHeartbeats 2000000 in
set_option maxRecDepth 20000 in
theorem turnday_calls (mo wk wd mi y : Int) (w : World) (ht : Turn.ok ⟨mo, wk, wd, mi⟩ = true) (hy : 1 ≤ y) (hy' : y ≤ 4500) :
    Calls Try.prog 81 #[.agg #[.int .i64 mo, .int .i64 wk, .int .i64 wd, .int .i64 mi], .int .i64 y] w fun e w' => e = .returned (.int .i64 (tday ⟨mo, wk, wd, mi⟩ y)) ∧ Below w.heap.size w w' := by
  have b := Turn.ok_bd ht
  dsimp only at b
  obtain ⟨b1, b2, b3, b4, b5, b6, b7, b8⟩ := b
  have htg := tday_gap ht y
  have gb := gap_bd ⟨mo, wk, wd, mi⟩ y
  have hga : gap ⟨mo, wk, wd, mi⟩ y = (wd - wday y mo 1) % 7 := rfl
  dsimp only at htg
  clear ht
  have hu := Try.underlying23
  generalize hv : tday ⟨mo, wk, wd, mi⟩ y = v at *
  clear hv
  generalize gap ⟨mo, wk, wd, mi⟩ y = a at *
  have g1 := gb.1
  have g2 := gb.2
  have wb := wday_bd y mo 1
  generalize hf : wday y mo 1 = f at *
  have f1 := wb.1
  have f2 := wb.2
  have HT := Lib.hid htg
  have HA := Lib.hid hga
  have HF := Lib.hid hf
  have l := mlen_bd y mo
  have l1 := l.1
  have l2 := l.2
  clear htg hga hf gb wb l
  go_enter Try.func81, Try.ntmps81
  go_upto_region 1 with fail
  have HZ := Lib.hid (Bk.new w 23 #[.int .i64 mo, .int .i64 wk, .int .i64 wd, .int .i64 mi])
  have HB := Lib.hid (below_al (Below.refl w.heap.size w) (.cells #[.int .i64 mo, .int .i64 wk, .int .i64 wd, .int .i64 mi] 23))
  generalize w.alloc (.cells #[.int .i64 mo, .int .i64 wk, .int .i64 wd, .int .i64 mi] 23) = w0 at *
  have cz := HZ.out.cell
  have hC := fun W => wday_calls y mo 1 W hy (by omega) b1 b2 (by omega) (by omega)
  rw [HF.out] at hC
  have HC := Lib.hid hC
  clear hC
  go_wp2_with (go_at_call 97; refine (HC.out _).mono ?_; rintro e w1 ⟨rfl, hb⟩; have HL := Lib.hid hb; have HZ1 := Lib.hid (HZ.out.bel hb); clear cz hb)
  go_loopw [5, 6, 8] (fun s5 s6 s8 wr => ∃ d : Int, 1 ≤ d ∧ d ≤ mlen y mo + 1 ∧ s8 = .int .i64 d ∧ s5 = .int .i64 (cnt a d) ∧ s6 = .int .i64 (lst a d) ∧ Hid (cnt a d < wk) ∧ Hid (Below w0.heap.size w0 wr)) (fun _ _ s8 _ => (mlen y mo + 2 - intOf s8).toNat)
  case atStart =>
    have c0 : cnt a 1 = 0 := by unfold cnt; omega
    exact ⟨1, by omega, by omega, rfl, by rw [c0], by unfold lst; rw [if_pos c0], by unfold Hid; rw [c0]; omega, HL⟩
  case round =>
    clear HL HZ1
    obtain ⟨d, d1, d2, rfl, rfl, rfl, hcw, HL⟩ := hrel
    have HZ1 := Lib.hid (HZ.out.bel HL.out)
    have cz := HZ1.out.cell
    have hcb : 0 ≤ cnt a d := by unfold cnt; omega
    have hcb' : cnt a d ≤ 6 := by unfold cnt; omega
    by_cases hle : d ≤ mlen y mo
    · have hs := cnt_step f1 f2 b5 b6 HA.out d1
      by_cases hm : (f + d - 1) % 7 = wd
      · obtain ⟨s1, s2⟩ := hs.1 hm
        have S1 := Lib.hid s1
        have S2 := Lib.hid s2
        have hm' : ((f + d - 1) % 7 != wd) = false := by rw [hm]; simp
        have HM := Lib.hid hm
        clear hs s1 s2 hm
        by_cases hq : cnt a d + 1 = wk
        · have hq1 : (cnt a d + 1 == wk) = true := by rw [hq]; simp
          have HQ := Lib.hid hq
          clear hq
          go_wp2_with (go_at_call 67; refine (mdays_calls _ _ _ hy b1 b2).mono ?_; rintro e w2 ⟨rfl, hb⟩; have KZ := Lib.hid (HZ1.out.bel hb); have KL := Lib.hid (below_go HL.out hb); clear cz HZ1 HL hb; have HZ1 := KZ; have HL := KL; clear KZ KL; have cz := HZ1.out.cell)
          go_ret
          refine ⟨ret_int ?_, below_go HB.out HL.out⟩
          have t1 := HT.out
          have t2 := S2.out
          have t3 := HQ.out
          clear HT S2 HQ S1 HM HA HF
          rw [t1]
          split
          · rw [if_pos (by omega)]; omega
          · omega
        · have hq1 : (cnt a d + 1 == wk) = false := by simp [hq]
          have hlt : cnt a d + 1 < wk := by have := hcw.out; omega
          have HQ := Lib.hid hlt
          clear hq hlt
          go_wp2_with (go_at_call 67; refine (mdays_calls _ _ _ hy b1 b2).mono ?_; rintro e w2 ⟨rfl, hb⟩; have KZ := Lib.hid (HZ1.out.bel hb); have KL := Lib.hid (below_go HL.out hb); clear cz HZ1 HL hb; have HZ1 := KZ; have HL := KL; clear KZ KL; have cz := HZ1.out.cell)
          go_roundw
          case rel => exact ⟨d + 1, by omega, by omega, rfl, by rw [S1.out], by unfold lst; rw [S1.out, if_neg (by omega)]; have := S2.out; exact int_tz (by omega), by unfold Hid; rw [S1.out]; exact HQ.out, HL⟩
          case measure => simp [intOf]; omega
      · have s1 := hs.2 hm
        have S1 := Lib.hid s1
        have hm' : ((f + d - 1) % 7 != wd) = true := by simpa using hm
        clear hs s1 hm
        go_wp2_with (go_at_call 67; refine (mdays_calls _ _ _ hy b1 b2).mono ?_; rintro e w2 ⟨rfl, hb⟩; have KZ := Lib.hid (HZ1.out.bel hb); have KL := Lib.hid (below_go HL.out hb); clear cz HZ1 HL hb; have HZ1 := KZ; have HL := KL; clear KZ KL; have cz := HZ1.out.cell)
        go_roundw
        case rel => exact ⟨d + 1, by omega, by omega, rfl, by rw [S1.out], by unfold lst; rw [S1.out], by unfold Hid; rw [S1.out]; exact hcw.out, HL⟩
        case measure => simp [intOf]; omega
    · have hle' : mlen y mo < d := by omega
      go_wp2_with (go_at_call 67; refine (mdays_calls _ _ _ hy b1 b2).mono ?_; rintro e w2 ⟨rfl, hb⟩; have KZ := Lib.hid (HZ1.out.bel hb); have KL := Lib.hid (below_go HL.out hb); clear cz HZ1 HL hb; have HZ1 := KZ; have HL := KL; clear KZ KL; have cz := HZ1.out.cell)
      go_ret
      refine ⟨ret_int ?_, below_go HB.out HL.out⟩
      have t1 := HT.out
      have t2 := hcw.out
      clear HT HA HF
      clear HL HB HZ HZ1 cz
      have e1 : d = mlen y mo + 1 := by omega
      clear hle hle'
      generalize mlen y mo = L at *
      subst e1
      have t3 : cnt a (L + 1) = (L + 1 + 5 - a) / 7 := rfl
      unfold lst
      rw [t1]
      have c4 : cnt a (L + 1) = 4 ∧ wk = 5 ∧ ¬ 29 + a ≤ L := by omega
      rw [if_pos c4.2.1, if_neg c4.2.2, if_neg (by omega)]
      omega

set_option maxHeartbeats 2000000 in
theorem turninst_calls (mo wk wd mi y off : Int) (w : World) (ht : Turn.ok ⟨mo, wk, wd, mi⟩ = true) (hy : 1 ≤ y) (hy' : y ≤ 4500) (ho : -900 ≤ off) (ho' : off ≤ 900) :
    Calls Try.prog 68 #[.agg #[.int .i64 mo, .int .i64 wk, .int .i64 wd, .int .i64 mi], .int .i64 y, .int .i64 off] w fun e w' => e = .returned (.int .i64 (tat ⟨mo, wk, wd, mi⟩ y off)) ∧ Below w.heap.size w w' := by
  have b := Turn.ok_bd ht
  dsimp only at b
  obtain ⟨b1, b2, b3, b4, b5, b6, b7, b8⟩ := b
  have td := tday_bd ht y
  have td1 := td.1
  have td2 := td.2
  have dn := dnum_bd y mo (tday ⟨mo, wk, wd, mi⟩ y) hy (by omega) b1 b2 (by omega) (by omega)
  have hfit : FitsR ⟨y, mo, tday ⟨mo, wk, wd, mi⟩ y, 0, 0, 0, 0⟩ := ⟨hy, by dsimp only; omega, b1, b2, by dsimp only; omega, by dsimp only; omega, by dsimp only; omega, by dsimp only; omega, by dsimp only; omega, by dsimp only; omega, by dsimp only; omega, by dsimp only; omega, by dsimp only; omega, by dsimp only; omega⟩
  have hsec : secs ⟨y, mo, tday ⟨mo, wk, wd, mi⟩ y, 0, 0, 0, 0⟩ = dnum y mo (tday ⟨mo, wk, wd, mi⟩ y) * 86400 := by unfold secs; dsimp only; omega
  have hC := fun W => secs_calls y mo (tday ⟨mo, wk, wd, mi⟩ y) 0 0 0 0 W hfit
  rw [hsec] at hC
  have HC := Lib.hid hC
  have dn1 := dn.1
  have dn2 := dn.2
  clear td dn hC hfit hsec
  have HT := Lib.hid ht
  clear ht
  have hu := Try.underlying23
  have hu2 := Try.underlying34
  go_enter Try.func68, Try.ntmps68
  go_upto_region 1 with fail
  have HZ := Lib.hid (Bk.new w 23 #[.int .i64 mo, .int .i64 wk, .int .i64 wd, .int .i64 mi])
  have HB := Lib.hid (below_al (Below.refl w.heap.size w) (.cells #[.int .i64 mo, .int .i64 wk, .int .i64 wd, .int .i64 mi] 23))
  generalize w.alloc (.cells #[.int .i64 mo, .int .i64 wk, .int .i64 wd, .int .i64 mi] 23) = w0 at *
  have cs := HZ.out.s
  refine wp_region_bel (by kernel_rfl) (by kernel_rfl) ?_
  repeat (go_big_quiet_step ((first | (go_at_call 81; exact bel_bel (turnday_calls _ _ _ _ _ _ HT.out hy hy')) | (go_at_call 23; exact bel_bel (HC.out _)))))
  refine wpQuiet_nil ?_
  rintro _ ⟨s0, rfl⟩
  have hb0 := Lib.hid s0.below
  generalize s0.w = w1 at *
  clear s0 cs
  go_wp2
  go_ret
  refine ⟨ret_int ?_, below_go HB.out hb0.out⟩
  unfold tat
  dsimp only
  omega

set_option maxHeartbeats 4000000 in
set_option maxRecDepth 20000 in
theorem offnear_calls (z : Zone) (t y : Int) (w : World) (hz : z.good) (hm : z.b.zero = true ↔ z.b.mo = 0) (hy : 2 ≤ y) (hy' : y ≤ 4400) :
    Calls Try.prog 44 #[zval z, .int .i64 t, .int .i64 y] w fun e w' => e = .returned (.int .i64 (cur z t y)) ∧ Below w.heap.size w w' := by
  obtain ⟨nm, st, su, ⟨b0, b1, b2, b3⟩, ⟨e0, e1, e2, e3⟩⟩ := z
  have hu25 := Try.underlying25
  have hu23 := Try.underlying23
  generalize hv : cur ⟨nm, st, su, ⟨b0, b1, b2, b3⟩, ⟨e0, e1, e2, e3⟩⟩ t y = v
  have HV := Lib.hid hv
  clear hv
  go_enter Try.func44, Try.ntmps44
  go_upto_region 1 with fail
  have HZ := Lib.hid (Bk.new w 25 #[.string nm, .int .i64 st, .int .i64 su, .int .i64 b0, .int .i64 b1, .int .i64 b2, .int .i64 b3, .int .i64 e0, .int .i64 e1, .int .i64 e2, .int .i64 e3])
  have HB := Lib.hid (below_al (Below.refl w.heap.size w) (.cells #[.string nm, .int .i64 st, .int .i64 su, .int .i64 b0, .int .i64 b1, .int .i64 b2, .int .i64 b3, .int .i64 e0, .int .i64 e1, .int .i64 e2, .int .i64 e3] 25))
  generalize w.alloc (.cells #[.string nm, .int .i64 st, .int .i64 su, .int .i64 b0, .int .i64 b1, .int .i64 b2, .int .i64 b3, .int .i64 e0, .int .i64 e1, .int .i64 e2, .int .i64 e3] 25) = w0 at *
  refine (tf (b0 == 0)).elim (fun h3 => ?_) (fun h3 => ?_)
  · have hz0 : Turn.zero ⟨b0, b1, b2, b3⟩ = false := by
      cases hc : Turn.zero ⟨b0, b1, b2, b3⟩
      · rfl
      · have h0 : b0 = 0 := hm.1 hc
        rw [h0] at h3; cases h3
    have hg : Turn.ok ⟨b0, b1, b2, b3⟩ = true ∧ Turn.ok ⟨e0, e1, e2, e3⟩ = true ∧ -900 ≤ st ∧ st ≤ 900 ∧ -900 ≤ su ∧ su ≤ 900 := by
      rcases hz with h | h
      · rw [hz0] at h; cases h
      · exact h
    obtain ⟨g1, g2, g3, g4, g5, g6⟩ := hg
    have hct := ref_cur (z := ⟨nm, st, su, ⟨b0, b1, b2, b3⟩, ⟨e0, e1, e2, e3⟩⟩) hz0 g1 g2 g3 g4 g5 g6 t y hy (by omega)
    have HC := Lib.hid hct
    have G1 := Lib.hid g1
    have G2 := Lib.hid g2
    clear hct hz g1 g2 hm hz0
    have cz := HZ.out.cell
    go_wp2_with fail
    go_loopw [7, 8, 9] (fun o l k wr => ∃ n : Nat, n ≤ 3 ∧ k = .int .i64 (y + 1 - n) ∧ o = .int .i64 (refTo ⟨nm, st, su, ⟨b0, b1, b2, b3⟩, ⟨e0, e1, e2, e3⟩⟩ t y n).1 ∧ l = .int .i64 (refTo ⟨nm, st, su, ⟨b0, b1, b2, b3⟩, ⟨e0, e1, e2, e3⟩⟩ t y n).2 ∧ Below w0.heap.size w0 wr) (fun _ _ k _ => (intOf k - y + 2).toNat)
    case atStart => exact ⟨0, by omega, by simp, rfl, rfl, Below.refl _ _⟩
    case round =>
      obtain ⟨n, hn, rfl, rfl, rfl, hb⟩ := hrel
      have HL := Lib.hid hb
      have HZ1 := Lib.hid (HZ.out.bel hb)
      clear cz hb
      have cz := HZ1.out.cell
      generalize hp : refTo ⟨nm, st, su, ⟨b0, b1, b2, b3⟩, ⟨e0, e1, e2, e3⟩⟩ t y n = p
      have HP := Lib.hid hp
      clear hp
      by_cases hlt : n < 3
      · have hst : refTo ⟨nm, st, su, ⟨b0, b1, b2, b3⟩, ⟨e0, e1, e2, e3⟩⟩ t y (n + 1) = stepY ⟨nm, st, su, ⟨b0, b1, b2, b3⟩, ⟨e0, e1, e2, e3⟩⟩ t (y + 1 - n) p := by rw [← HP.out]; rfl
        have HS := Lib.hid hst
        clear hst
        have k1 : 1 ≤ y + 1 - (n : Int) := by omega
        have k2 : y + 1 - (n : Int) ≤ 4500 := by omega
        go_wp2_with (go_at_call 68; (with_reducible first | refine (turninst_calls b0 b1 b2 b3 (y + 1 - n) st _ G1.out k1 k2 g3 g4).mono ?_ | refine (turninst_calls e0 e1 e2 e3 (y + 1 - n) su _ G2.out k1 k2 g5 g6).mono ?_); rintro e w1 ⟨rfl, hb⟩; have KZ := Lib.hid (HZ1.out.bel hb); have KL := Lib.hid (below_go HL.out hb); clear cz HZ1 HL hb; have HZ1 := KZ; have HL := KL; clear KZ KL; have cz := HZ1.out.cell)
        all_goals
          go_roundw
          case rel =>
            refine ⟨n + 1, by omega, by go_num, ?_, ?_, HL.out⟩
            all_goals
              rw [HS.out]
              unfold stepY
              dsimp only
              simp (disch := omega) only [stepB_t, stepB_f, stepE_t, stepE_f]
          case measure => simp [intOf]; omega
      · have e : n = 3 := by omega
        subst e
        go_wp2_with fail
        go_ret
        exact ⟨ret_int (by rw [← HV.out, ← HC.out, HP.out]), below_go HB.out HL.out⟩
  · have h0 : b0 = 0 := by simpa using h3
    have hfix : cur ⟨nm, st, su, ⟨b0, b1, b2, b3⟩, ⟨e0, e1, e2, e3⟩⟩ t y = st := by
      unfold cur
      rw [if_pos (hm.2 h0)]
    have HX := Lib.hid hfix
    clear hfix hz hm h0
    have cz := HZ.out.cell
    go_wp2_with fail
    go_ret
    exact ⟨ret_int (by rw [← HV.out, HX.out]), HB.out⟩
end Go.Proofs.Ytnjplichhkmmhaa.CalW
