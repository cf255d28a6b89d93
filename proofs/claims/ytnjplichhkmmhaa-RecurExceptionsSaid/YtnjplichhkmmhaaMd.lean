import Derived.Test.YtnjplichhkmmhaaMb
import Derived.Test.YtnjplichhkmmhaaMa
/- Walks: the reference's calendar. -/
namespace Go.Proofs.Ytnjplichhkmmhaa.CalW
open Go.RowKit Go.Proofs.Ytnjplichhkmmhaa.Base Go.Proofs.Ytnjplichhkmmhaa.Cal
set_option linter.unusedVariables false
set_option linter.unusedSimpArgs false

theorem rIn_calls (n lo hi : Int) (w : World) :
    Calls Try.prog 24 #[.int .i64 n, .int .i64 lo, .int .i64 hi] w fun e w' => e = .returned (.bool (inR n lo hi)) ∧ w = w' := by
  by_cases h : lo ≤ n
  all_goals
    go_enter Try.func24, Try.ntmps24
    go_wp2
    go_ret
    exact ⟨by simp [inR, h]; try omega, rfl⟩
theorem rIn_is {n lo hi : Int} {b : Bool} (h : inR n lo hi = b) (w : World) :
    Calls Try.prog 24 #[.int .i64 n, .int .i64 lo, .int .i64 hi] w fun e w' => e = .returned (.bool b) ∧ w = w' := h ▸ rIn_calls n lo hi w
theorem rAt_calls (c i : Int) (w : World) :
    Calls Try.prog 38 #[.int .i64 c, .int .i64 i] w fun e w' => e = .returned (.agg #[.int .i64 c, .int .i64 i]) ∧ Below w.heap.size w w' := by
  have hu := Try.underlying28
  go_enter Try.func38, Try.ntmps38
  go_wp2
  exact bodyPost_ret (by simp [results, Try.results38, go_sem]) rfl ⟨rfl, by with_reducible repeat (first | exact Below.refl _ _ | refine below_al ?_ _)⟩

theorem leap_calls (y : Int) (w : World) (hy : 1 ≤ y) :
    Calls Try.prog 80 #[.int .i64 y] w fun e w' => e = .returned (.bool (leap y)) ∧ w = w' := by
  go_enter Try.func80, Try.ntmps80
  go_wp2
  all_goals
    go_ret
    refine ⟨ret_bool ?_, rfl⟩
    simp_all [leap]

theorem lp_of {y : Int} {b : Bool} (h : leap y = b) : lp y = if b = true then 1 else 0 := by simp [lp, h]
set_option maxHeartbeats 1000000 in
theorem mdays_calls (y m : Int) (w : World) (hy : 1 ≤ y) (hm : 1 ≤ m) (hm' : m ≤ 12) :
    Calls Try.prog 67 #[.int .i64 y, .int .i64 m] w fun e w' => e = .returned (.int .i64 (mlen y m)) ∧ Below w.heap.size w w' := by
  have hc : m = 1 ∨ m = 2 ∨ m = 3 ∨ m = 4 ∨ m = 5 ∨ m = 6 ∨ m = 7 ∨ m = 8 ∨ m = 9 ∨ m = 10 ∨ m = 11 ∨ m = 12 := by omega
  generalize hl : leap y = b
  have hlp := lp_of hl
  generalize hv : mlen y m = v
  have HV := Lib.hid hv
  clear hv
  have HL := Lib.hid hlp
  clear hlp
  cases b
  all_goals
    rcases hc with rfl | rfl | rfl | rfl | rfl | rfl | rfl | rfl | rfl | rfl | rfl | rfl
    all_goals
      go_enter Try.func67, Try.ntmps67
      go_wp2_with (go_at_call 80; refine (leap_calls y _ hy).mono ?_; rintro e w' ⟨rfl, rfl⟩)
      go_ret
      refine ⟨ret_int ?_, by with_reducible repeat (first | exact Below.refl _ _ | refine below_al ?_ _)⟩
      rw [← HV.out]
      simp [mlen, HL.out]
end Go.Proofs.Ytnjplichhkmmhaa.CalW
/- Walks: the reference's numbers of days. -/
namespace Go.Proofs.Ytnjplichhkmmhaa.CalW
open Go.RowKit Go.Proofs.Ytnjplichhkmmhaa.Base Go.Proofs.Ytnjplichhkmmhaa.Cal
set_option linter.unusedVariables false
set_option linter.unusedSimpArgs false

set_option maxHeartbeats 1000000 in
theorem ystart_calls (y : Int) (w : World) (hy : 1 ≤ y) (hy' : y ≤ 5000) :
    Calls Try.prog 66 #[.int .i64 y] w fun e w' => e = .returned (.int .i64 (ystart y)) ∧ w = w' := by
  go_enter Try.func66, Try.ntmps66
  go_wp2_with fail
  go_loop [3, 4] (fun n k => ∃ j : Int, 1970 ≤ j ∧ (j ≤ y ∨ j = 1970) ∧ k = .int .i64 j ∧ n = .int .i64 (365 * (y - 1970) + ylp j)) (fun _ k => (y - intOf k).toNat)
  case atStart => exact ⟨1970, by omega, by omega, rfl, by rw [ylp_1970]; simp⟩
  case round =>
    obtain ⟨j, h1, h2, rfl, rfl⟩ := hrel
    have b1 := (ylp_bd j (by omega) (by omega)).1
    have b2 := (ylp_bd j (by omega) (by omega)).2
    by_cases hlt : j < y
    · have hs := Lib.hid (ylp_step j)
      refine (tf (leap j)).elim (fun hl => ?_) fun hl => ?_
      · have hv := Lib.hid (lp_f hl)
        go_wp2_with (go_at_call 80; refine (leap_calls j _ (by omega)).mono ?_; rintro e w' ⟨rfl, rfl⟩)
        go_round
        case rel => exact ⟨j + 1, by omega, by omega, rfl, by rw [hs.out, hv.out, Int.add_zero]⟩
        case measure => simp [intOf]; omega
      · have hv := Lib.hid (lp_t hl)
        go_wp2_with (go_at_call 80; refine (leap_calls j _ (by omega)).mono ?_; rintro e w' ⟨rfl, rfl⟩)
        go_round
        case rel => exact ⟨j + 1, by omega, by omega, rfl, by rw [hs.out, hv.out, Int.add_assoc]⟩
        case measure => simp [intOf]; omega
    · have hfin : 1970 ≤ y → ylp j = ylp y := fun h => by rw [show j = y by omega]
      have hfin' : y < 1970 → ylp j = 0 := fun h => by rw [show j = 1970 by omega, ylp_1970]
      have HF := Lib.hid hfin
      have HF' := Lib.hid hfin'
      clear hfin hfin'
      go_wp2_with fail
      go_loop [3, 5] (fun n k => ∃ i : Int, y ≤ i ∧ (i ≤ 1970 ∨ i = y) ∧ k = .int .i64 i ∧ n = .int .i64 (365 * (y - 1970) + ylp j + ylp y - ylp i)) (fun _ k => (1970 - intOf k).toNat)
      case atStart => exact ⟨y, by omega, by omega, rfl, by simp⟩
      case round =>
        obtain ⟨i, g1, g2, rfl, rfl⟩ := hrel
        have b3 := (ylp_bd i (by omega) (by omega)).1
        have b4 := (ylp_bd i (by omega) (by omega)).2
        have b5 := (ylp_bd y (by omega) (by omega)).1
        have b6 := (ylp_bd y (by omega) (by omega)).2
        by_cases hlt' : i < 1970
        · have hs := Lib.hid (ylp_step i)
          refine (tf (leap i)).elim (fun hl => ?_) fun hl => ?_
          · have hv := Lib.hid (lp_f hl)
            go_wp2_with (go_at_call 80; refine (leap_calls i _ (by omega)).mono ?_; rintro e w' ⟨rfl, rfl⟩)
            go_round
            case rel => exact ⟨i + 1, by omega, by omega, rfl, by rw [hs.out, hv.out, Int.add_zero]⟩
            case measure => simp [intOf]; omega
          · have hv := Lib.hid (lp_t hl)
            go_wp2_with (go_at_call 80; refine (leap_calls i _ (by omega)).mono ?_; rintro e w' ⟨rfl, rfl⟩)
            go_round
            case rel => exact ⟨i + 1, by omega, by omega, rfl, by rw [hs.out, hv.out]; simp; omega⟩
            case measure => simp [intOf]; omega
        · go_wp2_with fail
          go_ret
          refine ⟨ret_int ?_, rfl⟩
          rw [ystart_ylp]
          by_cases h : 1970 ≤ y
          · rw [HF.out h, show i = y by omega]; omega
          · rw [HF'.out (by omega), show i = 1970 by omega, ylp_1970]; omega

set_option maxHeartbeats 1000000 in
theorem dnum_calls (y m d : Int) (w : World) (hy : 1 ≤ y) (hy' : y ≤ 5000) (hm : 1 ≤ m) (hm' : m ≤ 12) (hd : -10000 ≤ d) (hd' : d ≤ 10000) :
    Calls Try.prog 48 #[.int .i64 y, .int .i64 m, .int .i64 d] w fun e w' => e = .returned (.int .i64 (dnum y m d)) ∧ Below w.heap.size w w' := by
  have yb := ystart_bd y hy (by omega)
  have y1 := yb.1
  have y2 := yb.2
  clear yb
  go_enter Try.func48, Try.ntmps48
  go_wp2_with (go_at_call 66; refine (ystart_calls y _ hy hy').mono ?_; rintro e w' ⟨rfl, rfl⟩)
  go_loopw [7, 8] (fun n k w' => ∃ j : Int, 1 ≤ j ∧ j ≤ m ∧ k = .int .i64 j ∧ n = .int .i64 (ystart y + d - 1 + mstart y j) ∧ Below w.heap.size w w') (fun _ k _ => (m - intOf k).toNat)
  case atStart => exact ⟨1, by omega, by omega, rfl, by rw [mstart_1]; simp, Below.refl _ _⟩
  case round =>
    obtain ⟨j, h1, h2, rfl, rfl, hb⟩ := hrel
    have HB := Lib.hid hb
    clear hb
    have mb := mstart_bd y j h1 (by omega)
    have lb := lp_01 y
    have kb := mlen_bd y j
    have m1 := mb.1
    have m2 : mstart y j ≤ 366 := by omega
    have k1 := kb.1
    have k2 := kb.2
    clear mb kb lb
    by_cases hlt : j < m
    · have hs := Lib.hid (mlen_step y j h1 (by omega))
      go_wp2_with (go_at_call 67; refine (mdays_calls y j _ hy h1 (by omega)).mono ?_; rintro e w1 ⟨rfl, hb⟩)
      go_roundw
      case rel => exact ⟨j + 1, by omega, by omega, rfl, by rw [hs.out]; simp; omega, below_go HB.out hb⟩
      case measure => simp [intOf]; omega
    · go_wp2_with fail
      go_ret
      refine ⟨ret_int ?_, HB.out⟩
      rw [show j = m by omega]
      unfold dnum; omega

theorem wday_calls (y m d : Int) (w : World) (hy : 1 ≤ y) (hy' : y ≤ 5000) (hm : 1 ≤ m) (hm' : m ≤ 12) (hd : -10000 ≤ d) (hd' : d ≤ 10000) :
    Calls Try.prog 97 #[.int .i64 y, .int .i64 m, .int .i64 d] w fun e w' => e = .returned (.int .i64 (wday y m d)) ∧ Below w.heap.size w w' := by
  have hb := dnum_bd y m d hy (by omega) hm hm' hd hd'
  have hb1 := hb.1
  have hb2 := hb.2
  clear hb
  have hm1 := (tmod_bd (dnum y m d + 4) 7 (by omega)).1
  have hm2 := (tmod_bd (dnum y m d + 4) 7 (by omega)).2
  have ht := tmod_up (dnum y m d + 4) 7 (by omega)
  have HT := Lib.hid ht
  clear ht
  go_enter Try.func97, Try.ntmps97
  go_wp2_with (go_at_call 48; refine (dnum_calls y m d _ hy hy' hm hm' hd hd').mono ?_; rintro e w1 ⟨rfl, hb⟩)
  all_goals
    go_ret
    refine ⟨ret_int ?_, hb⟩
    have h2 := HT.out
    unfold wday
    rw [Int.tmod_eq_emod_of_nonneg (by omega)] at h2
    omega
end Go.Proofs.Ytnjplichhkmmhaa.CalW
/- Walks: the reference's instants of dates. -/
namespace Go.Proofs.Ytnjplichhkmmhaa.CalW
open Go.RowKit Go.Proofs.Ytnjplichhkmmhaa.Base Go.Proofs.Ytnjplichhkmmhaa.Cal
set_option linter.unusedVariables false
set_option linter.unusedSimpArgs false

/-- a date whose sums don't wrap. -/
def FitsR (D : Date) : Prop := 1 ≤ D.y ∧ D.y ≤ 5000 ∧ 1 ≤ D.mo ∧ D.mo ≤ 12 ∧ -1000 ≤ D.d ∧ D.d ≤ 1000 ∧ -1000 ≤ D.h ∧ D.h ≤ 1000 ∧ -1000 ≤ D.mi ∧ D.mi ≤ 1000 ∧ -1000 ≤ D.s ∧ D.s ≤ 1000 ∧ -1000 ≤ D.z ∧ D.z ≤ 1000
set_option maxHeartbeats 1000000 in
set_option maxRecDepth 20000 in
theorem secs_calls (y mo d h mi s z : Int) (w : World) (F : FitsR ⟨y, mo, d, h, mi, s, z⟩) :
    Calls Try.prog 23 #[.agg #[.int .i64 y, .int .i64 mo, .int .i64 d, .int .i64 h, .int .i64 mi, .int .i64 s, .int .i64 z]] w fun e w' => e = .returned (.int .i64 (secs ⟨y, mo, d, h, mi, s, z⟩)) ∧ Below w.heap.size w w' := by
  obtain ⟨f1, f2, f3, f4, f5, f6, f7, f8, f9, f10, f11, f12, f13, f14⟩ := F
  dsimp only at *
  have hb := dnum_bd y mo d f1 (by omega) f3 f4 (by omega) (by omega)
  have b1 := hb.1
  have b2 := hb.2
  clear hb
  have hu := Try.underlying34
  go_enter Try.func23, Try.ntmps23
  go_wp2_with fail
  have B := Bk.new w 34 #[.int .i64 y, .int .i64 mo, .int .i64 d, .int .i64 h, .int .i64 mi, .int .i64 s, .int .i64 z]
  have HB := Lib.hid (below_al (Below.refl w.heap.size w) (.cells #[.int .i64 y, .int .i64 mo, .int .i64 d, .int .i64 h, .int .i64 mi, .int .i64 s, .int .i64 z] 34))
  generalize hw0 : w.alloc (.cells #[.int .i64 y, .int .i64 mo, .int .i64 d, .int .i64 h, .int .i64 mi, .int .i64 s, .int .i64 z] 34) = w0 at *
  generalize hg : w.heap.size = g at *
  clear hw0
  have HK := Lib.hid B
  clear B
  go_region_held3 (fun w' => w'.cell? ⟨g, 0, none⟩ = some (.int .i64 y) ∧ w'.cell? ⟨g, 1, none⟩ = some (.int .i64 mo) ∧ w'.cell? ⟨g, 2, none⟩ = some (.int .i64 d) ∧ w'.cell? ⟨g, 3, none⟩ = some (.int .i64 h) ∧ w'.cell? ⟨g, 4, none⟩ = some (.int .i64 mi) ∧ w'.cell? ⟨g, 5, none⟩ = some (.int .i64 s) ∧ w'.cell? ⟨g, 6, none⟩ = some (.int .i64 z)) (first | exact (HK.out.dr).c7 | exact ((Bk.bel (HK.out.dr) hb)).c7) ((go_at_call 48; refine (dnum_calls y mo d _ f1 f2 f3 f4 (by omega) (by omega)).mono ?_; rintro e w1 ⟨rfl, hb⟩))
  go_wp2
  go_ret
  refine ⟨ret_int ?_, by subst hg; exact below_go (below_drew1 HB.out) hb⟩
  simp (disch := omega) only [i64_id]
  unfold secs
  dsimp only
  omega
end Go.Proofs.Ytnjplichhkmmhaa.CalW
/- Walk: the reference's fault of a date. -/
namespace Go.Proofs.Ytnjplichhkmmhaa.CalW
open Go.RowKit Go.Proofs.Ytnjplichhkmmhaa.Base Go.Proofs.Ytnjplichhkmmhaa.Cal
set_option linter.unusedVariables false
set_option linter.unusedSimpArgs false

set_option maxHeartbeats 4000000 in
set_option maxRecDepth 20000 in
theorem datefault_calls (y mo d h mi s z : Int) (w : World) :
    Calls Try.prog 47 #[.agg #[.int .i64 y, .int .i64 mo, .int .i64 d, .int .i64 h, .int .i64 mi, .int .i64 s, .int .i64 z]] w fun e w' => e = .returned (.agg #[.int .i64 (dfault ⟨y, mo, d, h, mi, s, z⟩).1, .int .i64 (dfault ⟨y, mo, d, h, mi, s, z⟩).2]) ∧ Below w.heap.size w w' := by
  have hu := Try.underlying34
  have hu' := Try.underlying28
  generalize hf : dfault ⟨y, mo, d, h, mi, s, z⟩ = f
  have HF := Lib.hid hf
  clear hf
  go_enter Try.func47, Try.ntmps47
  go_wp2_with fail
  have B := (Bk.new w 34 #[.int .i64 y, .int .i64 mo, .int .i64 d, .int .i64 h, .int .i64 mi, .int .i64 s, .int .i64 z]).al (.cells #[.int .i64 0, .int .i64 0] 28)
  have B2 := Bk.new' (n := w.heap.size + 1) (w.alloc (.cells #[.int .i64 y, .int .i64 mo, .int .i64 d, .int .i64 h, .int .i64 mi, .int .i64 s, .int .i64 z] 34)) 28 #[.int .i64 0, .int .i64 0] (by simp)
  have HB := Lib.hid (below_al (below_al (Below.refl w.heap.size w) (.cells #[.int .i64 y, .int .i64 mo, .int .i64 d, .int .i64 h, .int .i64 mi, .int .i64 s, .int .i64 z] 34)) (.cells #[.int .i64 0, .int .i64 0] 28))
  generalize hw0 : (w.alloc (.cells #[.int .i64 y, .int .i64 mo, .int .i64 d, .int .i64 h, .int .i64 mi, .int .i64 s, .int .i64 z] 34)).alloc (.cells #[.int .i64 0, .int .i64 0] 28) = w0 at *
  clear hw0
  have HK := Lib.hid B
  have HK2 := Lib.hid B2
  clear B B2
  have cs := HK.out.s
  refine wp_region_bel (by kernel_rfl) (by kernel_rfl) ?_
  refine (tf (inR y 1 4000)).elim (fun h1 => ?_) fun h1 => (tf (inR mo 1 12)).elim (fun h2 => ?_) fun h2 => (tf (inR d 1 (mlen y mo))).elim (fun h3 => ?_) fun h3 => (tf (inR h 0 23)).elim (fun h4 => ?_) fun h4 => (tf (inR mi 0 59)).elim (fun h5 => ?_) fun h5 => (tf (inR s 0 59)).elim (fun h6 => ?_) fun h6 => (tf (inR z (-900) 900)).elim (fun h7 => ?_) fun h7 => ?_
  all_goals
    repeat (go_big_quiet_step ((first | (go_at_call 24; with_reducible (first | exact bel_eq (rIn_is h1 _) | exact bel_eq (rIn_is h2 _) | exact bel_eq (rIn_is h3 _) | exact bel_eq (rIn_is h4 _) | exact bel_eq (rIn_is h5 _) | exact bel_eq (rIn_is h6 _) | exact bel_eq (rIn_is h7 _))) | (go_at_call 67; exact bel_bel (mdays_calls y mo _ (inR_t h1).1 (inR_t h2).1 (inR_t h2).2)))))
    refine wpQuiet_nil ?_
    rintro _ ⟨s0, rfl⟩
    have hb0 := s0.below
    generalize s0.w = w1 at *
    clear s0 cs
    have hf := HF.out
    clear HF
    simp [dfault, Date.ok, *] at hf
    subst hf
    have E2 := HK2.out.bel hb0
    have HB1 := Lib.hid (below_go HB.out hb0)
    clear hb0 HK HK2 HB
    have c2 := E2.cell
    have d2 := E2.frozen
    have l2 := E2.lt
    have HE := Lib.hid E2
    clear E2
    go_wp2_with (go_at_call 38; refine (rAt_calls _ _ _).mono ?_; rintro e w2 ⟨rfl, hb⟩; have HE2 := Lib.hid (HE.out.bel hb); have c2 := HE2.out.cell; have d2 := HE2.out.frozen)
    exact bodyPost_ret (res_c Try.results47 rfl (by (with_reducible repeat (first | exact HE2.out | exact HE.out | apply Bk.drN | apply Bk.dr | apply Bk.al | apply Bk.put' | (apply Bk.far; case hp => (simp <;> omega)))); all_goals rfl) hu' rfl (by kernel_rfl)) rfl ⟨rfl, by with_reducible repeat (first | exact HB1.out | refine below_drewN ?_ _ | refine below_drew1 ?_ | refine below_al ?_ _ | refine below_set ?_ (by simp <;> omega) _ | refine below_go ?_ hb)⟩
end Go.Proofs.Ytnjplichhkmmhaa.CalW
