import Derived.Test.YtnjplichhkmmhaaMa
import Derived.Test.YtnjplichhkmmhaaMb
/- Walks: the functions of dates that the zones use. -/
namespace Go.Proofs.Ytnjplichhkmmhaa.CalW
open Go.RowKit Go.Proofs.Ytnjplichhkmmhaa.Base Go.Proofs.Ytnjplichhkmmhaa.Cal
set_option linter.unusedVariables false
set_option linter.unusedSimpArgs false

theorem dwithin_calls (n lo hi : Int) (w : World) :
    Calls Try.prog 49 #[.int .i64 n, .int .i64 lo, .int .i64 hi] w fun e w' => e = .returned (.bool (inR n lo hi)) ∧ w = w' := by
  by_cases h : lo ≤ n
  all_goals
    go_enter Try.func49, Try.ntmps49
    go_wp2
    go_ret
    exact ⟨by simp [inR, h]; try omega, rfl⟩

theorem dwithin_is {n lo hi : Int} {b : Bool} (h : inR n lo hi = b) (w : World) :
    Calls Try.prog 49 #[.int .i64 n, .int .i64 lo, .int .i64 hi] w fun e w' => e = .returned (.bool b) ∧ w = w' := h ▸ dwithin_calls n lo hi w
theorem length_calls (y m : Int) (w : World) (hy : 1 ≤ y) (hy' : y ≤ 5000) :
    Calls Try.prog 70 #[.int .i64 y, .int .i64 m] w fun e w' => e = .returned (.int .i64 (mlen y m)) ∧ w = w' := by
  go_enter Try.func70, Try.ntmps70
  go_wp2
  all_goals
    go_ret
    refine ⟨ret_int ?_, rfl⟩
    simp_all [mlen, lp, leap]
    try omega

theorem days_calls (y m d : Int) (w : World) (hy : 1 ≤ y) (hy' : y ≤ 5000) (hm : 1 ≤ m) (hm' : m ≤ 12) (hd : -10000 ≤ d) (hd' : d ≤ 10000) :
    Calls Try.prog 78 #[.int .i64 y, .int .i64 m, .int .i64 d] w fun e w' => e = .returned (.int .i64 (dnum y m d)) ∧ w = w' := by
  by_cases h : m ≤ 2
  · go_enter Try.func78, Try.ntmps78
    go_wp2
    go_ret
    exact ⟨ret_int (days_lo y m d hm h), rfl⟩
  · go_enter Try.func78, Try.ntmps78
    go_wp2
    go_ret
    exact ⟨ret_int (days_hi y m d (by omega) hm'), rfl⟩

theorem dow_calls (y m d : Int) (w : World) (hy : 1 ≤ y) (hy' : y ≤ 5000) (hm : 1 ≤ m) (hm' : m ≤ 12) (hd : -10000 ≤ d) (hd' : d ≤ 10000) :
    Calls Try.prog 84 #[.int .i64 y, .int .i64 m, .int .i64 d] w fun e w' => e = .returned (.int .i64 (wday y m d)) ∧ w = w' := by
  have hb := dnum_bd y m d hy (by omega) hm hm' hd hd'
  have hb1 := hb.1
  have hb2 := hb.2
  clear hb
  have hm1 := (tmod_bd (dnum y m d + 4) 7 (by omega)).1
  have hm2 := (tmod_bd (dnum y m d + 4) 7 (by omega)).2
  go_enter Try.func84, Try.ntmps84
  go_wp2_with (go_at_call 78; refine (days_calls y m d _ hy hy' hm hm' hd hd').mono ?_; rintro e w' ⟨rfl, rfl⟩)
  go_ret
  refine ⟨ret_int ?_, rfl⟩
  rw [← Int.tmod_eq_emod_of_nonneg (by omega)]
  exact tmod_up _ 7 (by omega)

set_option maxRecDepth 20000 in
theorem check_calls (t : Int) (w : World) (ht : -9223372036854775808 ≤ t) (ht' : t ≤ 9223372036854775807) :
    Calls Try.prog 40 #[.int .i64 t] w fun e w' => e = .returned (.agg #[.int .i64 (chk t).1, .int .i64 (chk t).2]) ∧ Below w.heap.size w w' := by
  have hu := Try.underlying28
  by_cases h : inR t (-68719476736) 68719476736 = true
  · have h1 := (inR_t h).1
    have h2 := (inR_t h).2
    have hc : chk t = (0, 0) := by simp [chk, h]
    rw [hc]
    clear h hc
    go_enter Try.func40, Try.ntmps40
    go_wp2
    exact bodyPost_ret (v := .agg #[.int .i64 0, .int .i64 0]) (by simp [results, Try.results40, go_sem]) rfl ⟨rfl, (Below.refl _ _).alloc (Nat.le_refl _) _⟩
  · have hc : chk t = (3, -2) := by simp [chk, h]
    rw [hc]
    have h0 := inR_f (by simpa using h)
    clear hc h
    rcases h0 with h0 | h0
    all_goals
      go_enter Try.func40, Try.ntmps40
      go_wp2
      exact bodyPost_ret (v := .agg #[.int .i64 3, .int .i64 (-2)]) (by simp [results, Try.results40, go_sem]) rfl ⟨rfl, (Below.refl _ _).alloc (Nat.le_refl _) _⟩

abbrev dval (d : Date) : Value := .agg #[.int .i64 d.y, .int .i64 d.mo, .int .i64 d.d, .int .i64 d.h, .int .i64 d.mi, .int .i64 d.s, .int .i64 d.z]
abbrev fval (f : Int × Int) : Value := .agg #[.int .i64 f.1, .int .i64 f.2]

set_option maxHeartbeats 2000000 in
set_option maxRecDepth 20000 in
theorem dvalidate_calls (d : Date) (w : World) :
    Calls Try.prog 50 #[dval d] w fun e w' => e = .returned (fval (dfault d)) ∧ Below w.heap.size w w' := by
  obtain ⟨y, mo, d, h, mi, s, z⟩ := d
  have hu := Try.underlying34
  have hu' := Try.underlying28
  generalize hf : dfault ⟨y, mo, d, h, mi, s, z⟩ = f
  have HF := Lib.hid hf
  clear hf
  go_enter Try.func50, Try.ntmps50
  go_wp2_with fail
  refine wp_region_quiet_lit (by kernel_rfl) (by kernel_rfl) ?_
  refine (tf (inR y 1 4000)).elim (fun h1 => ?_) fun h1 => (tf (inR mo 1 12)).elim (fun h2 => ?_) fun h2 => (tf (inR d 1 (mlen y mo))).elim (fun h3 => ?_) fun h3 => (tf (inR h 0 23)).elim (fun h4 => ?_) fun h4 => (tf (inR mi 0 59)).elim (fun h5 => ?_) fun h5 => (tf (inR s 0 59)).elim (fun h6 => ?_) fun h6 => (tf (inR z (-900) 900)).elim (fun h7 => ?_) fun h7 => ?_
  all_goals
    repeat (go_big_quiet_step ((first | (go_at_call 49; first | (with_reducible exact quiet_left (dwithin_is h1 _)) | (with_reducible exact quiet_left (dwithin_is h2 _)) | (with_reducible exact quiet_left (dwithin_is h3 _)) | (with_reducible exact quiet_left (dwithin_is h4 _)) | (with_reducible exact quiet_left (dwithin_is h5 _)) | (with_reducible exact quiet_left (dwithin_is h6 _)) | (with_reducible exact quiet_left (dwithin_is h7 _))) | (go_at_call 70; exact quiet_left (length_calls _ _ _ (inR_t h1).1 (by have := (inR_t h1).2; omega))))))
    refine wpQuiet_nil ?_
    rintro _ ⟨nq, rfl⟩
    go_wp2
    have hf := HF.out
    clear HF hu hu'
    simp [dfault, Date.ok, *] at hf
    subst hf
    exact bodyPost_ret (by simp [results, Try.results50, go_sem]) rfl ⟨rfl, by repeat (first | exact Below.refl _ _ | refine below_drewN ?_ _ | refine below_al ?_ _ | refine below_set ?_ (by simp) _)⟩
end Go.Proofs.Ytnjplichhkmmhaa.CalW
/- Walk: dates.At. -/
namespace Go.Proofs.Ytnjplichhkmmhaa.CalW
open Go.RowKit Go.Proofs.Ytnjplichhkmmhaa.Base Go.Proofs.Ytnjplichhkmmhaa.Cal
set_option linter.unusedVariables false
set_option linter.unusedSimpArgs false

theorem lday_bd (t z : Int) (ht : -70000000000 ≤ t) (ht' : t ≤ 70000000000) (hz : -900 ≤ z) (hz' : z ≤ 900) : -900000 ≤ lday t z ∧ lday t z ≤ 900000 := by
  unfold lday; omega
theorem eraD_bd (n : Int) (h : -900000 ≤ n) (h' : n ≤ 900000) : -3 ≤ eraD n ∧ eraD n ≤ 12 := by unfold eraD; omega
theorem int_ty {a b : Int} (h : a = b) : Value.int .i64 a = .int .i64 b := by rw [h]
set_option maxHeartbeats 2000000 in
set_option maxRecDepth 20000 in
theorem at_calls (t z : Int) (w : World) (ht : -70000000000 ≤ t) (ht' : t ≤ 70000000000) (hz : -900 ≤ z) (hz' : z ≤ 900) :
    Calls Try.prog 41 #[.int .i64 t, .int .i64 z] w fun e w' => e = .returned (dval (civ t z)) ∧ Below w.heap.size w w' := by
  have hu := Try.underlying34
  have b1 := (lday_bd t z ht ht' hz hz').1
  have b2 := (lday_bd t z ht ht' hz hz').2
  have b3 := (eraD_bd (lday t z) b1 b2).1
  have b4 := (eraD_bd (lday t z) b1 b2).2
  have b5 := (doeD_bd (lday t z)).1
  have b6 := (doeD_bd (lday t z)).2
  have b7 := (yoeD_bd (lday t z)).1
  have b8 := (yoeD_bd (lday t z)).2
  have b9 := (doyD_bd (lday t z)).1
  have b10 := (doyD_bd (lday t z)).2
  have b11 := (mpD_bd (lday t z)).1
  have b12 := (mpD_bd (lday t z)).2
  have b13 : 0 ≤ lsec t z := by unfold lsec; omega
  have b14 : lsec t z ≤ 86399 := by unfold lsec; omega
  go_enter Try.func41, Try.ntmps41
  go_upto_region 2 with fail
  go_cut [6, 7] (fun s6 s7 wx => s6 = .int .i64 (lday t z) ∧ s7 = .int .i64 (lsec t z) ∧ wx = w.alloc (.cells #[.int .i64 0, .int .i64 0, .int .i64 0, .int .i64 0, .int .i64 0, .int .i64 0, .int .i64 0] 34))
  case first =>
    go_wp2_with fail
    go_meet
    exact ⟨int_ty (by unfold lday; omega), int_ty (by unfold lsec; omega), rfl⟩
  case rest =>
    obtain ⟨rfl, rfl, rfl⟩ := hcut
    go_upto_region 3 with fail
    go_cut [6] (fun s6 wx => s6 = .int .i64 (lday t z + 719468) ∧ wx = w.alloc (.cells #[.int .i64 0, .int .i64 0, .int .i64 0, .int .i64 0, .int .i64 0, .int .i64 0, .int .i64 0] 34))
    case first =>
      go_wp2_with fail
      all_goals
        go_meet
        exact ⟨int_ty (by omega), rfl⟩
    case rest =>
      obtain ⟨rfl, rfl⟩ := hcut
      have d0 := doeD_bd (lday t z)
      have f1 : (lday t z + 719468) = eraD (lday t z) * 146097 + doeD (lday t z) := by unfold eraD doeD; omega
      have F1 := Lib.hid f1
      clear f1 d0
      go_upto_if 27 with fail
      go_cut [8] (fun s8 wx => s8 = .int .i64 (eraD (lday t z)) ∧ wx = w.alloc (.cells #[.int .i64 0, .int .i64 0, .int .i64 0, .int .i64 0, .int .i64 0, .int .i64 0, .int .i64 0] 34))
      case first =>
        by_cases h : lday t z + 719468 < 0
        · have e1 : (lday t z + 719468 - 146096).tdiv 146097 = eraD (lday t z) := by
            have h2 := F1.out
            have h3 : lday t z + 719468 - 146096 = -(146096 - (lday t z + 719468)) := by omega
            rw [h3, Int.neg_tdiv, Int.tdiv_eq_ediv_of_nonneg (by omega)]
            omega
          go_wp2_with fail
          go_meet
          exact ⟨rfl, rfl⟩
        · have e1 : (lday t z + 719468).tdiv 146097 = eraD (lday t z) := by
            rw [Int.tdiv_eq_ediv_of_nonneg (by omega)]; rfl
          go_wp2_with fail
          go_meet
          exact ⟨rfl, rfl⟩
      case rest =>
        obtain ⟨rfl, rfl⟩ := hcut
        go_upto_region 7 with fail
        go_cut [6] (fun s6 wx => s6 = .int .i64 (doeD (lday t z)) ∧ wx = w.alloc (.cells #[.int .i64 0, .int .i64 0, .int .i64 0, .int .i64 0, .int .i64 0, .int .i64 0, .int .i64 0] 34))
        case first =>
          go_wp2_with fail
          go_meet
          exact ⟨int_ty (by have h2 := F1.out; omega), rfl⟩
        case rest =>
          obtain ⟨rfl, rfl⟩ := hcut
          go_upto_region 8 with fail
          go_cut [9] (fun s9 wx => s9 = .int .i64 (yoeD (lday t z)) ∧ wx = w.alloc (.cells #[.int .i64 0, .int .i64 0, .int .i64 0, .int .i64 0, .int .i64 0, .int .i64 0, .int .i64 0] 34))
          case first =>
            go_wp2_with fail
            go_meet
            exact ⟨int_ty (by rfl), rfl⟩
          case rest =>
            obtain ⟨rfl, rfl⟩ := hcut
            go_upto_region 9 with fail
            go_cut [6] (fun s6 wx => s6 = .int .i64 (doyD (lday t z)) ∧ wx = w.alloc (.cells #[.int .i64 0, .int .i64 0, .int .i64 0, .int .i64 0, .int .i64 0, .int .i64 0, .int .i64 0] 34))
            case first =>
              go_wp2_with fail
              go_meet
              exact ⟨int_ty (by rfl), rfl⟩
            case rest =>
              obtain ⟨rfl, rfl⟩ := hcut
              go_upto_region 10 with fail
              go_cut [10] (fun s10 wx => s10 = .int .i64 (mpD (lday t z)) ∧ wx = w.alloc (.cells #[.int .i64 0, .int .i64 0, .int .i64 0, .int .i64 0, .int .i64 0, .int .i64 0, .int .i64 0] 34))
              case first =>
                go_wp2_with fail
                go_meet
                exact ⟨int_ty (by rfl), rfl⟩
              case rest =>
                obtain ⟨rfl, rfl⟩ := hcut
                clear F1 b1 b2 b5 b6 ht ht'
                by_cases h10 : mpD (lday t z) < 10
                · go_wp2
                  refine bodyPost_ret (v := .agg #[.int .i64 (eraD (lday t z) * 400 + yoeD (lday t z)), .int .i64 (mpD (lday t z) + 3), .int .i64 (doyD (lday t z) - (153 * mpD (lday t z) + 2) / 5 + 1), .int .i64 (lsec t z / 3600), .int .i64 (lsec t z / 60 % 60), .int .i64 (lsec t z % 60), .int .i64 z]) (by simp [results, Try.results41, go_sem]) rfl ⟨?_, ((Below.refl _ _).alloc (Nat.le_refl _) _).alloc (by simp) _⟩
                  simp [dval, civ, ymdY, ymdM, ymdD, h10]
                · go_wp2
                  refine bodyPost_ret (v := .agg #[.int .i64 (eraD (lday t z) * 400 + yoeD (lday t z) + 1), .int .i64 (mpD (lday t z) + 3 - 12), .int .i64 (doyD (lday t z) - (153 * mpD (lday t z) + 2) / 5 + 1), .int .i64 (lsec t z / 3600), .int .i64 (lsec t z / 60 % 60), .int .i64 (lsec t z % 60), .int .i64 z]) (by simp [results, Try.results41, go_sem]) rfl ⟨?_, ((Below.refl _ _).alloc (Nat.le_refl _) _).alloc (by simp) _⟩
                  simp [dval, civ, ymdY, ymdM, ymdD, h10]
                  omega
end Go.Proofs.Ytnjplichhkmmhaa.CalW
/- Walks: dates.Seconds, dates.Civil. -/
namespace Go.Proofs.Ytnjplichhkmmhaa.CalW
open Go.RowKit Go.Proofs.Ytnjplichhkmmhaa.Base Go.Proofs.Ytnjplichhkmmhaa.Cal
set_option linter.unusedVariables false
set_option linter.unusedSimpArgs false

/-- a date whose sums don't wrap. -/
structure Fits (D : Date) : Prop where
  y : 1 ≤ D.y
  y' : D.y ≤ 5000
  mo : 1 ≤ D.mo
  mo' : D.mo ≤ 12
  d : -1000 ≤ D.d
  d' : D.d ≤ 1000
  h : -1000 ≤ D.h
  h' : D.h ≤ 1000
  mi : -1000 ≤ D.mi
  mi' : D.mi ≤ 1000
  s : -1000 ≤ D.s
  s' : D.s ≤ 1000
  z : -1000 ≤ D.z
  z' : D.z ≤ 1000
set_option maxHeartbeats 1000000 in
set_option maxRecDepth 20000 in
theorem seconds_calls (d : Date) (w : World) (F : Fits d) :
    Calls Try.prog 69 #[dval d] w fun e w' => e = .returned (.int .i64 (secs d)) ∧ Below w.heap.size w w' := by
  obtain ⟨y, mo, d, h, mi, s, z⟩ := d
  obtain ⟨f1, f2, f3, f4, f5, f6, f7, f8, f9, f10, f11, f12, f13, f14⟩ := F
  dsimp only at *
  have hb := dnum_bd y mo d f1 (by omega) f3 f4 (by omega) (by omega)
  have b1 := hb.1
  have b2 := hb.2
  clear hb
  have hu := Try.underlying34
  go_enter Try.func69, Try.ntmps69
  go_wp2_with fail
  refine wp_region_quiet_lit (by kernel_rfl) (by kernel_rfl) ?_
  repeat (go_big_quiet_step ((go_at_call 78; with_reducible exact quiet_left (days_calls _ _ _ _ f1 f2 f3 f4 (by omega) (by omega)))))
  refine wpQuiet_nil ?_
  rintro _ ⟨nq, rfl⟩
  go_wp2
  go_ret
  refine ⟨ret_int ?_, by repeat (first | exact Below.refl _ _ | refine below_drewN ?_ _ | refine below_al ?_ _ | refine below_set ?_ (by simp) _)⟩
  rfl

attribute [local go_sem high] eqA28
set_option maxHeartbeats 2000000 in
set_option maxRecDepth 20000 in
theorem civil_calls (t z : Int) (w : World) (ht : -9223372036854775808 ≤ t) (ht' : t ≤ 9223372036854775807) :
    Calls Try.prog 25 #[.int .i64 t, .int .i64 z] w fun e w' => e = .returned (.tuple #[dval (civilR t z).1, fval (civilR t z).2]) ∧ Below w.heap.size w w' := by
  have hu := Try.underlying34
  have hu' := Try.underlying28
  generalize hr : civilR t z = r
  have HR := Lib.hid hr
  clear hr
  have C := fun W => check_calls t W ht ht'
  generalize hk : chk t = k at C
  have HK := Lib.hid hk
  clear hk
  have CH := Lib.hid C
  clear C
  go_enter Try.func25, Try.ntmps25
  go_upto_region 2 with (go_at_call 40; refine (CH.out _).mono ?_; rintro e w1 ⟨rfl, hb⟩; have B4 := Lib.hid (((Bk.new w 34 #[.int .i64 0, .int .i64 0, .int .i64 0, .int .i64 0, .int .i64 0, .int .i64 0, .int .i64 0]).al _).bel hb); have B5 := Lib.hid ((Bk.new' (n := w.heap.size + 1) (w.alloc _) 28 #[.int .i64 0, .int .i64 0] (by simp)).bel hb); have c4 := B4.out.cell; have d4 := B4.out.frozen; have c5 := B5.out.cell; have d5 := B5.out.frozen; have l4 := B4.out.lt; have l5 := B5.out.lt; have hbl := Lib.hid hb)
  have hb0 : Below w.heap.size w w1 := below_go (below_al (below_al (Below.refl _ _) _) _) hb
  clear hb hbl
  have HB := Lib.hid hb0
  clear hb0
  refine (tf (inR t (-68719476736) 68719476736)).elim (fun h1 => ?_) fun h1 => (tf (inR z (-900) 900)).elim (fun h2 => ?_) fun h2 => ?_
  · obtain rfl : k = (3, -2) := by rw [← HK.out]; simp [chk, h1]
    obtain rfl : r = (dzero, 3, -2) := by rw [← HR.out]; simp [civilR, h1]
    go_wp2
    go_region
    all_goals
      go_wp2
      exact bodyPost_ret (res_cc Try.results25 rfl rfl (by (with_reducible repeat (first | exact G4.out | exact G5.out | exact B4.out | exact B5.out | apply Bk.drN | apply Bk.dr | apply Bk.al | apply Bk.put' | (apply Bk.far; case hp => (simp <;> omega)) | fail)); all_goals rfl) (by (with_reducible repeat (first | exact G4.out | exact G5.out | exact B4.out | exact B5.out | apply Bk.drN | apply Bk.dr | apply Bk.al | apply Bk.put' | (apply Bk.far; case hp => (simp <;> omega)) | fail)); all_goals rfl) hu rfl (by kernel_rfl) hu' rfl (by kernel_rfl)) rfl ⟨rfl, by with_reducible repeat (first | exact HB.out | refine below_drewN ?_ _ | refine below_drew1 ?_ | refine below_al ?_ _ | refine below_set ?_ (by simp <;> omega) _ | refine below_go ?_ hb3 | refine below_go ?_ hb2)⟩
  · obtain rfl : k = (0, 0) := by rw [← HK.out]; simp [chk, h1]
    obtain rfl : r = (dzero, 3, -4) := by rw [← HR.out]; simp [civilR, h1, h2]
    go_wp2_with (go_at_call 49; refine (dwithin_is h2 _).mono ?_; rintro e w' ⟨rfl, rfl⟩)
    go_region
    all_goals
      go_wp2
      exact bodyPost_ret (res_cc Try.results25 rfl rfl (by (with_reducible repeat (first | exact G4.out | exact G5.out | exact B4.out | exact B5.out | apply Bk.drN | apply Bk.dr | apply Bk.al | apply Bk.put' | (apply Bk.far; case hp => (simp <;> omega)) | fail)); all_goals rfl) (by (with_reducible repeat (first | exact G4.out | exact G5.out | exact B4.out | exact B5.out | apply Bk.drN | apply Bk.dr | apply Bk.al | apply Bk.put' | (apply Bk.far; case hp => (simp <;> omega)) | fail)); all_goals rfl) hu rfl (by kernel_rfl) hu' rfl (by kernel_rfl)) rfl ⟨rfl, by with_reducible repeat (first | exact HB.out | refine below_drewN ?_ _ | refine below_drew1 ?_ | refine below_al ?_ _ | refine below_set ?_ (by simp <;> omega) _ | refine below_go ?_ hb3 | refine below_go ?_ hb2)⟩
  · obtain rfl : k = (0, 0) := by rw [← HK.out]; simp [chk, h1]
    refine (tf (civ t z).ok).elim (fun h3 => ?_) fun h3 => ?_
    · obtain rfl : r = (dzero, 3, -3) := by rw [← HR.out]; simp [civilR, h1, h2, h3]
      have h3' : dfault (civ t z) = (3, -3) := by simp [dfault, h3]
      have V := fun W => dvalidate_calls (civ t z) W
      rw [h3'] at V
      have HV := Lib.hid V
      clear h3' V
      go_wp2_with (first | (go_at_call 49; refine (dwithin_is h2 _).mono ?_; rintro e w' ⟨rfl, rfl⟩) | (go_at_call 41; refine (at_calls t z _ (by have := inR_t h1; omega) (by have := inR_t h1; omega) (inR_t h2).1 (inR_t h2).2).mono ?_; rintro e w2 ⟨rfl, hb2⟩; have E4 := Lib.hid ((B4.out.al _).bel hb2); have E5 := Lib.hid ((B5.out.al _).bel hb2); have E6 := Lib.hid ((Bk.new w1 _ _).bel hb2); have q1 : ¬ w.heap.size = w1.heap.size := Nat.ne_of_lt l4; have q2 : ¬ w1.heap.size = w.heap.size := Nat.ne_of_gt l4; have q3 : ¬ w.heap.size + 1 = w1.heap.size := Nat.ne_of_lt l5; have q4 : ¬ w1.heap.size = w.heap.size + 1 := Nat.ne_of_gt l5; have q5 : ¬ w.heap.size = w2.heap.size := Nat.ne_of_lt E4.out.lt; have q6 : ¬ w2.heap.size = w.heap.size := Nat.ne_of_gt E4.out.lt; have q7 : ¬ w.heap.size + 1 = w2.heap.size := Nat.ne_of_lt E5.out.lt; have q8 : ¬ w2.heap.size = w.heap.size + 1 := Nat.ne_of_gt E5.out.lt; clear c4 d4 c5 d5 l4 l5) | (go_at_call 50; refine (HV.out _).mono ?_; rintro e w3 ⟨rfl, hb3⟩; have G4 := Lib.hid ((E4.out.al _).bel hb3); have G5 := Lib.hid ((E5.out.al _).bel hb3); have c4 := G4.out.cell; have d4 := G4.out.frozen; have c5 := G5.out.cell; have d5 := G5.out.frozen; have c6 := ((E6.out.al _).bel hb3).cell; have c7 := ((Bk.new w2 _ _).bel hb3).cell; have l4 := G4.out.lt; have l5 := G5.out.lt; have l6 := ((E6.out.al _).bel hb3).lt; have l7 := ((Bk.new w2 _ _).bel hb3).lt))
      go_region
      all_goals
        go_wp2
        exact bodyPost_ret (res_cc Try.results25 rfl rfl (by (with_reducible repeat (first | exact G4.out | exact G5.out | exact B4.out | exact B5.out | apply Bk.drN | apply Bk.dr | apply Bk.al | apply Bk.put' | (apply Bk.far; case hp => (simp <;> omega)) | fail)); all_goals rfl) (by (with_reducible repeat (first | exact G4.out | exact G5.out | exact B4.out | exact B5.out | apply Bk.drN | apply Bk.dr | apply Bk.al | apply Bk.put' | (apply Bk.far; case hp => (simp <;> omega)) | fail)); all_goals rfl) hu rfl (by kernel_rfl) hu' rfl (by kernel_rfl)) rfl ⟨rfl, by with_reducible repeat (first | exact HB.out | refine below_drewN ?_ _ | refine below_drew1 ?_ | refine below_al ?_ _ | refine below_set ?_ (by simp <;> omega) _ | refine below_go ?_ hb3 | refine below_go ?_ hb2)⟩
    · obtain rfl : r = (civ t z, 0, 0) := by rw [← HR.out]; simp [civilR, h1, h2, h3]
      have h3' : dfault (civ t z) = (0, 0) := by simp [dfault, h3]
      have V := fun W => dvalidate_calls (civ t z) W
      rw [h3'] at V
      have HV := Lib.hid V
      clear h3' V
      go_wp2_with (first | (go_at_call 49; refine (dwithin_is h2 _).mono ?_; rintro e w' ⟨rfl, rfl⟩) | (go_at_call 41; refine (at_calls t z _ (by have := inR_t h1; omega) (by have := inR_t h1; omega) (inR_t h2).1 (inR_t h2).2).mono ?_; rintro e w2 ⟨rfl, hb2⟩; have E4 := Lib.hid ((B4.out.al _).bel hb2); have E5 := Lib.hid ((B5.out.al _).bel hb2); have E6 := Lib.hid ((Bk.new w1 _ _).bel hb2); have q1 : ¬ w.heap.size = w1.heap.size := Nat.ne_of_lt l4; have q2 : ¬ w1.heap.size = w.heap.size := Nat.ne_of_gt l4; have q3 : ¬ w.heap.size + 1 = w1.heap.size := Nat.ne_of_lt l5; have q4 : ¬ w1.heap.size = w.heap.size + 1 := Nat.ne_of_gt l5; have q5 : ¬ w.heap.size = w2.heap.size := Nat.ne_of_lt E4.out.lt; have q6 : ¬ w2.heap.size = w.heap.size := Nat.ne_of_gt E4.out.lt; have q7 : ¬ w.heap.size + 1 = w2.heap.size := Nat.ne_of_lt E5.out.lt; have q8 : ¬ w2.heap.size = w.heap.size + 1 := Nat.ne_of_gt E5.out.lt; clear c4 d4 c5 d5 l4 l5) | (go_at_call 50; refine (HV.out _).mono ?_; rintro e w3 ⟨rfl, hb3⟩; have G4 := Lib.hid ((E4.out.al _).bel hb3); have G5 := Lib.hid ((E5.out.al _).bel hb3); have c4 := G4.out.cell; have d4 := G4.out.frozen; have c5 := G5.out.cell; have d5 := G5.out.frozen; have c6 := ((E6.out.al _).bel hb3).cell; have c7 := ((Bk.new w2 _ _).bel hb3).cell; have l4 := G4.out.lt; have l5 := G5.out.lt; have l6 := ((E6.out.al _).bel hb3).lt; have l7 := ((Bk.new w2 _ _).bel hb3).lt))
      go_region
      all_goals
        go_wp2
        exact bodyPost_ret (res_cc Try.results25 rfl rfl (by (with_reducible repeat (first | exact G4.out | exact G5.out | exact B4.out | exact B5.out | apply Bk.drN | apply Bk.dr | apply Bk.al | apply Bk.put' | (apply Bk.far; case hp => (simp <;> omega)) | fail)); all_goals rfl) (by (with_reducible repeat (first | exact G4.out | exact G5.out | exact B4.out | exact B5.out | apply Bk.drN | apply Bk.dr | apply Bk.al | apply Bk.put' | (apply Bk.far; case hp => (simp <;> omega)) | fail)); all_goals rfl) hu rfl (by kernel_rfl) hu' rfl (by kernel_rfl)) rfl ⟨rfl, by with_reducible repeat (first | exact HB.out | refine below_drewN ?_ _ | refine below_drew1 ?_ | refine below_al ?_ _ | refine below_set ?_ (by simp <;> omega) _ | refine below_go ?_ hb3 | refine below_go ?_ hb2)⟩
end Go.Proofs.Ytnjplichhkmmhaa.CalW
