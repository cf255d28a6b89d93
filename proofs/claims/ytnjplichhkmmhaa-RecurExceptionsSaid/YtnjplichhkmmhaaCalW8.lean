import Derived.Test.YtnjplichhkmmhaaMd
import Derived.Test.YtnjplichhkmmhaaMa
/- Walk: the reference's date of an instant. -/
namespace Go.Proofs.Ytnjplichhkmmhaa.CalW
open Go.RowKit Go.Proofs.Ytnjplichhkmmhaa.Base Go.Proofs.Ytnjplichhkmmhaa.Cal
set_option linter.unusedVariables false
set_option linter.unusedSimpArgs false

/-- what DateOf hands back at a date. -/
def dofV (d : Date) : Value := .tuple #[(if inR d.y 1 4000 = true then .agg #[.int .i64 d.y, .int .i64 d.mo, .int .i64 d.d, .int .i64 d.h, .int .i64 d.mi, .int .i64 d.s, .int .i64 d.z] else .agg #[.int .i64 0, .int .i64 0, .int .i64 0, .int .i64 0, .int .i64 0, .int .i64 0, .int .i64 0]), .bool (inR d.y 1 4000)]
theorem int_tz {a b : Int} (h : a = b) : Value.int .i64 a = .int .i64 b := by rw [h]
theorem dn_lo : dnum 1 1 1 = -719162 := by decide
theorem dn_hi : dnum 4000 12 31 = 741807 := by decide
theorem guess_up (n : Int) (h : 0 ≤ n) (h' : n ≤ 741807) : ystart (1970 + n / 366) ≤ n := by unfold ystart; omega
theorem guess_dn (n : Int) (h : n < 0) (h' : -719162 ≤ n) : ystart (1970 + n.tdiv 365 - 2) ≤ n := by
  have e : n.tdiv 365 = -((-n) / 365) := by
    rw [← Int.tdiv_eq_ediv_of_nonneg (by omega), Int.neg_tdiv]; omega
  rw [e]
  unfold ystart; omega
set_option maxHeartbeats 4000000 in
set_option maxRecDepth 20000 in
theorem dateof_calls (t z : Int) (w : World) (ht : -70000000000 ≤ t) (ht' : t ≤ 70000000000) (hz : -900 ≤ z) (hz' : z ≤ 900) :
    Calls Try.prog 43 #[.int .i64 t, .int .i64 z] w fun e w' => e = .returned (dofV (civ t z)) ∧ Below w.heap.size w w' := by
  have hu := Try.underlying34
  have b1 : -900000 ≤ lday t z := by unfold lday; omega
  have b2 : lday t z ≤ 900000 := by unfold lday; omega
  have b13 : 0 ≤ lsec t z := by unfold lsec; omega
  have b14 : lsec t z ≤ 86399 := by unfold lsec; omega
  have t1 := (tmod_bd (t + 60 * z) 86400 (by omega)).1
  have t2 := (tmod_bd (t + 60 * z) 86400 (by omega)).2
  generalize hr : (civ t z) = r
  have HR := Lib.hid hr
  clear hr
  generalize hv : dofV r = v
  have HV := Lib.hid hv
  clear hv
  go_enter Try.func43, Try.ntmps43
  go_upto_region 2 with fail
  go_cut [6, 7] (fun s6 s7 wx => s6 = .int .i64 (t + 60 * z) ∧ s7 = .int .i64 ((t + 60 * z).tmod 86400) ∧ wx = w.alloc (.cells #[.int .i64 0, .int .i64 0, .int .i64 0, .int .i64 0, .int .i64 0, .int .i64 0, .int .i64 0] 34))
  case first =>
    go_wp2_with fail
    go_meet
    exact ⟨rfl, rfl, rfl⟩
  case rest =>
    obtain ⟨rfl, rfl, rfl⟩ := hcut
    go_upto_if 18 with fail
    go_cut [7] (fun s7 wx => s7 = .int .i64 (lsec t z) ∧ wx = w.alloc (.cells #[.int .i64 0, .int .i64 0, .int .i64 0, .int .i64 0, .int .i64 0, .int .i64 0, .int .i64 0] 34))
    case first =>
      have em := Int.tmod_eq_emod (a := t + 60 * z) (b := 86400)
      have EM := Lib.hid em
      clear em
      by_cases hn : (t + 60 * z).tmod 86400 < 0
      all_goals
        go_wp2_with fail
        go_meet
        refine ⟨int_tz ?_, rfl⟩
        have e2 := EM.out
        unfold lsec
        rw [show t + z * 60 = t + 60 * z by omega]
        split at e2 <;> omega
    case rest =>
      obtain ⟨rfl, rfl⟩ := hcut
      go_upto_region 5 with fail
      go_cut [8] (fun s8 wx => s8 = .int .i64 (lday t z) ∧ wx = w.alloc (.cells #[.int .i64 0, .int .i64 0, .int .i64 0, .int .i64 0, .int .i64 0, .int .i64 0, .int .i64 0] 34))
      case first =>
        have ed : (t + 60 * z - lsec t z).tdiv 86400 = lday t z := by
          have : t + 60 * z - lsec t z = lday t z * 86400 := by unfold lsec lday; rw [show t + z * 60 = t + 60 * z by omega]; omega
          rw [this]; exact Int.mul_tdiv_cancel _ (by omega)
        go_wp2_with fail
        go_meet
        exact ⟨rfl, rfl⟩
      case rest =>
        obtain ⟨rfl, rfl⟩ := hcut
        clear t1 t2
        have HW := Lib.hid (below_al (Below.refl w.heap.size w) (.cells #[.int .i64 0, .int .i64 0, .int .i64 0, .int .i64 0, .int .i64 0, .int .i64 0, .int .i64 0] 34))
        have HK := Lib.hid (Bk.new w 34 #[.int .i64 0, .int .i64 0, .int .i64 0, .int .i64 0, .int .i64 0, .int .i64 0, .int .i64 0])
        generalize w.alloc (.cells #[.int .i64 0, .int .i64 0, .int .i64 0, .int .i64 0, .int .i64 0, .int .i64 0, .int .i64 0] 34) = w0 at *
        have yin := ymdY_in (lday t z)
        have yy : r.y = ymdY (lday t z) := by rw [← HR.out]; rfl
        have d1 := fun W => dnum_calls 1 1 1 W (by omega) (by omega) (by omega) (by omega) (by omega) (by omega)
        have d2 := fun W => dnum_calls 4000 12 31 W (by omega) (by omega) (by omega) (by omega) (by omega) (by omega)
        rw [dn_lo] at d1
        rw [dn_hi] at d2
        have D1 := Lib.hid d1
        have D2 := Lib.hid d2
        have YI := Lib.hid yin
        have YY := Lib.hid yy
        clear d1 d2 yin yy
        by_cases hlo : lday t z < -719162
        · have hno : inR r.y 1 4000 = false := inR_no (by
            left
            rw [YY.out]
            have := YI.out.1
            rcases Int.lt_or_le (ymdY (lday t z)) 1 with h | h
            · exact h
            · have := ystart_mono 1 _ h
              have e : ystart 1 = -719162 := by decide
              omega)
          have HN := Lib.hid hno
          clear hno
          have c4 := HK.out.cell
          have f4 := HK.out.frozen
          go_wp2_with (go_at_call 48; refine (D1.out _).mono ?_; rintro e w1 ⟨rfl, hb⟩; have HK1 := Lib.hid (HK.out.bel hb); have c4 := HK1.out.cell; have f4 := HK1.out.frozen)
          refine bodyPost_ret (v := .tuple #[.agg #[.int .i64 0, .int .i64 0, .int .i64 0, .int .i64 0, .int .i64 0, .int .i64 0, .int .i64 0], .bool false]) (res_ct Try.results43 rfl (by (with_reducible repeat (first | exact HK1.out | apply Bk.al | apply Bk.put' | (apply Bk.far; case hp => (simp <;> omega)))); all_goals rfl) hu rfl (by kernel_rfl)) rfl ⟨by rw [← HV.out]; simp [dofV, HN.out], by with_reducible repeat (first | exact HW.out | refine below_drew1 ?_ | refine below_al ?_ _ | refine below_set ?_ (by simp <;> omega) _ | refine below_go ?_ hb)⟩
        · by_cases hhi : 741807 < lday t z
          · have hno : inR r.y 1 4000 = false := inR_no (by
              right
              rw [YY.out]
              have := YI.out.2
              rcases Int.lt_or_le 4000 (ymdY (lday t z)) with h | h
              · exact h
              · have := ystart_mono (ymdY (lday t z) + 1) 4001 (by omega)
                have e : ystart 4001 = 741808 := by decide
                omega)
            have HN := Lib.hid hno
            clear hno
            go_wp2_with (first | (go_at_call_of 48 (Value.int .i64 1); refine (D1.out _).mono ?_; rintro e w1 ⟨rfl, hb⟩) | (go_at_call_of 48 (Value.int .i64 4000); refine (D2.out _).mono ?_; rintro e w2 ⟨rfl, hb2⟩; have HK1 := Lib.hid ((HK.out.bel hb).bel hb2); have c4 := HK1.out.cell; have f4 := HK1.out.frozen))
            refine bodyPost_ret (v := .tuple #[.agg #[.int .i64 0, .int .i64 0, .int .i64 0, .int .i64 0, .int .i64 0, .int .i64 0, .int .i64 0], .bool false]) (res_ct Try.results43 rfl (by (with_reducible repeat (first | exact HK1.out | apply Bk.al | apply Bk.put' | (apply Bk.far; case hp => (simp <;> omega)))); all_goals rfl) hu rfl (by kernel_rfl)) rfl ⟨by rw [← HV.out]; simp [dofV, HN.out], by with_reducible repeat (first | exact HW.out | refine below_drew1 ?_ | refine below_al ?_ _ | refine below_set ?_ (by simp <;> omega) _ | refine below_go ?_ hb2 | refine below_go ?_ hb)⟩
          · go_upto_region 8 with (first | (go_at_call_of 48 (Value.int .i64 1); refine (D1.out _).mono ?_; rintro e w1 ⟨rfl, hb⟩) | (go_at_call_of 48 (Value.int .i64 4000); refine (D2.out _).mono ?_; rintro e w2 ⟨rfl, hb2⟩))
            have HW2 := Lib.hid (below_go (below_go HW.out hb) hb2)
            have HK2 := Lib.hid ((HK.out.bel hb).bel hb2)
            clear hb hb2 D1 D2 HW HK
            have n1 : -719162 ≤ lday t z := by omega
            have n2 : lday t z ≤ 741807 := by omega
            clear hlo hhi b1 b2 ht ht'
            generalize hn : lday t z = n at *
            have HNN := Lib.hid hn
            clear hn
            have e1 := (tmod_bd n 366 (by omega)).1
            have e2 := (tmod_bd n 366 (by omega)).2
            have e3 := Int.mul_tdiv_add_tmod n 366
            have t1 : -2000 ≤ n.tdiv 366 := by omega
            have t2 : n.tdiv 366 ≤ 2100 := by omega
            have e4 := (tmod_bd n 365 (by omega)).1
            have e5 := (tmod_bd n 365 (by omega)).2
            have e6 := Int.mul_tdiv_add_tmod n 365
            have t3 : -2000 ≤ n.tdiv 365 := by omega
            have t4 : n.tdiv 365 ≤ 2100 := by omega
            clear e1 e2 e3 e4 e5 e6
            go_upto_if 38 with fail
            go_cut [9] (fun s9 wx => (∃ y0 : Int, s9 = .int .i64 y0 ∧ ystart y0 ≤ n ∧ -10000 ≤ y0 ∧ y0 ≤ 10000) ∧ w2 = wx)
            case first =>
              by_cases hneg : n < 0
              · have g := guess_dn n hneg n1
                have G := Lib.hid g
                clear g
                go_wp2_with fail
                go_meet
                exact ⟨⟨_, rfl, G.out, by omega, by omega⟩, rfl⟩
              · have g := guess_up n (by omega) n2
                have G := Lib.hid g
                clear g
                go_wp2_with fail
                go_meet
                exact ⟨⟨_, rfl, by rw [← Int.tdiv_eq_ediv_of_nonneg (by omega)] at G; exact G.out, by omega, by omega⟩, rfl⟩
            case rest =>
              obtain ⟨⟨y0, rfl, g1, g2, g3⟩, rfl⟩ := hcut
              clear t1 t2 t3 t4
              have G1 := Lib.hid g1
              clear g1
              go_upto_if 44 with fail
              go_cut [9] (fun s9 wx => (∃ y0 : Int, s9 = .int .i64 y0 ∧ ystart y0 ≤ n ∧ 1 ≤ y0 ∧ y0 ≤ 4000) ∧ w2 = wx)
              case first =>
                have hup : y0 ≤ 4000 := by
                  rcases Int.lt_or_le 4000 y0 with h | h
                  · have := ystart_mono 4001 y0 (by omega)
                    have e : ystart 4001 = 741808 := by decide
                    have := G1.out
                    omega
                  · exact h
                have h1 : ystart 1 ≤ n := by
                  have e : ystart 1 = -719162 := by decide
                  omega
                have H1 := Lib.hid h1
                clear h1
                by_cases hlow : y0 < 1
                · go_wp2_with fail
                  go_meet
                  exact ⟨⟨1, rfl, H1.out, by omega, by omega⟩, rfl⟩
                · go_wp2_with fail
                  go_meet
                  exact ⟨⟨y0, rfl, G1.out, by omega, hup⟩, rfl⟩
              case rest =>
                clear G1 g2 g3 y0
                obtain ⟨⟨y0, rfl, g1, g2, g3⟩, rfl⟩ := hcut
                have G1 := Lib.hid g1
                clear g1
                go_wp2_with fail
                go_loop [9] (fun s9 => ∃ y : Int, s9 = .int .i64 y ∧ 1 ≤ y ∧ y ≤ 4000 ∧ ystart y ≤ n) (fun s9 => (4000 - intOf s9).toNat)
                case atStart => exact ⟨y0, rfl, g2, g3, G1.out⟩
                case round =>
                  obtain ⟨y, rfl, y1, y2, y3⟩ := hrel
                  have Y3 := Lib.hid y3
                  clear y3
                  by_cases hup : ystart (y + 1) ≤ n
                  · have hlt : y + 1 ≤ 4000 := by
                      rcases Int.lt_or_le 4000 (y + 1) with h | h
                      · have e : ystart 4001 = 741808 := by decide
                        have : y + 1 = 4001 := by omega
                        rw [this] at hup
                        omega
                      · exact h
                    go_wp2_with (go_at_call 66; refine (ystart_calls _ _ (by omega) (by omega)).mono ?_; rintro e w' ⟨rfl, rfl⟩)
                    go_round
                    case rel => exact ⟨y + 1, rfl, by omega, hlt, hup⟩
                    case measure => simp [intOf]; omega
                  · have hy : ymdY n = y := ymdY_of n y Y3.out (by omega)
                    have HY := Lib.hid hy
                    clear hy
                    have hst := ystart_step y
                    have hlp := lp_01 y
                    have u1 : n - ystart y ≤ 400 := by omega
                    have u2 : 0 ≤ n - ystart y := by have := Y3.out; omega
                    have ys := ystart_bd y y1 (by omega)
                    have ys1 := ys.1
                    have ys2 := ys.2
                    clear hst hlp ys
                    go_wp2_with (go_at_call 66; refine (ystart_calls _ _ (by omega) (by omega)).mono ?_; rintro e w' ⟨rfl, rfl⟩)
                    go_loopw [8, 10] (fun s8 s10 wr => ∃ m : Int, s10 = .int .i64 m ∧ s8 = .int .i64 (n - ystart y - mstart y m) ∧ 1 ≤ m ∧ m ≤ 12 ∧ 0 ≤ n - ystart y - mstart y m ∧ Below w2.heap.size w2 wr) (fun _ s10 _ => (12 - intOf s10).toNat)
                    case atStart => exact ⟨1, rfl, by rw [mstart_1]; simp, by omega, by omega, by rw [mstart_1]; omega, Below.refl _ _⟩
                    case round =>
                      obtain ⟨m, rfl, rfl, m1, m2, m3, hb⟩ := hrel
                      have HB := Lib.hid hb
                      clear hb
                      have mb := mlen_bd y m
                      have mb1 := mb.1
                      have mb2 := mb.2
                      have sb := mstart_bd y m m1 m2
                      have sb1 := sb.1
                      have lp := lp_01 y
                      have sb2 : mstart y m ≤ 366 := by omega
                      clear mb sb lp
                      by_cases hge : mlen y m ≤ n - ystart y - mstart y m
                      · have hlt : m < 12 := by
                          rcases Int.lt_or_le m 12 with h | h
                          · exact h
                          · have e : m = 12 := by omega
                            subst e
                            have e1 := mstart_12 y
                            have e2 := (ymdY_in n).2
                            rw [HY.out, ystart_step] at e2
                            omega
                        have hs := Lib.hid (mlen_step y m m1 (by omega))
                        have hge' : 0 ≤ n - ystart y - (mstart y m + mlen y m) := by omega
                        go_wp2_with (go_at_call 67; refine (mdays_calls _ _ _ (by omega) (by omega) (by omega)).mono ?_; rintro e w3 ⟨rfl, hb⟩; have HB' := Lib.hid (below_go HB.out hb); clear HB hb; have HB := HB'; clear HB')
                        go_roundw
                        case rel => exact ⟨m + 1, rfl, by rw [hs.out]; exact int_tz (by omega), by omega, by omega, by rw [hs.out]; exact hge', HB.out⟩
                        case measure => simp [intOf]; omega
                      · have hM := ymd_of n y m (n - ystart y - mstart y m + 1) m1 m2 (by omega) (by omega) (by unfold dnum; omega)
                        have hr : r = ⟨y, m, n - ystart y - mstart y m + 1, lsec t z / 3600, lsec t z / 60 % 60, lsec t z % 60, z⟩ := by
                          rw [← HR.out]
                          unfold civ
                          rw [HNN.out, hM.1, hM.2.1, hM.2.2]
                        have HR2 := Lib.hid hr
                        clear hM hr
                        go_wp2_with (go_at_call 67; refine (mdays_calls _ _ _ (by omega) (by omega) (by omega)).mono ?_; rintro e w3 ⟨rfl, hb⟩; have HB' := Lib.hid (below_go HB.out hb); clear HB hb; have HB := HB'; clear HB'; have HK3 := Lib.hid (HK2.out.bel HB.out); have c4 := HK3.out.cell; have f4 := HK3.out.frozen)
                        refine bodyPost_ret (v := .tuple #[.agg #[.int .i64 y, .int .i64 m, .int .i64 (n - ystart y - mstart y m + 1), .int .i64 (lsec t z / 3600), .int .i64 (lsec t z / 60 % 60), .int .i64 (lsec t z % 60), .int .i64 z], .bool true]) (res_ct Try.results43 rfl (by (with_reducible repeat (first | exact HK3.out | apply Bk.al | apply Bk.put' | (apply Bk.far; case hp => (simp <;> omega)))); all_goals rfl) hu rfl (by kernel_rfl)) rfl ⟨?_, by with_reducible repeat (first | exact below_go HW2.out HB.out | refine below_drew1 ?_ | refine below_al ?_ _ | refine below_set ?_ (by simp <;> omega) _)⟩
                        rw [← HV.out, HR2.out]
                        simp [dofV, inR_mk y1 y2]
end Go.Proofs.Ytnjplichhkmmhaa.CalW
