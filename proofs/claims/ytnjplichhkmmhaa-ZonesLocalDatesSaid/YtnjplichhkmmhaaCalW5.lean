/- Walks: the reference's numbers of days. -/
import Derived.Test.YtnjplichhkmmhaaCalW4
namespace Go.Proofs.Ytnjplichhkmmhaa.CalW
open Go.RowKit Go.Proofs.Ytnjplichhkmmhaa.Base Go.Proofs.Ytnjplichhkmmhaa.Cal
set_option linter.unusedVariables false
set_option linter.unusedSimpArgs false

set_option maxHeartbeats 1000000 in
theorem ystart_calls (y : Int) (w : World) (hy : 1 ≤ y) (hy' : y ≤ 5000) :
    Calls Try.prog 66 #[.int .i64 y] w fun e w' => e = .returned (.int .i64 (ystart y)) ∧ w = w' := by
  go_enter Try.func66, Try.ntmps66
  go_wp2_with fail
  go_loop [3, 4] (fun n k => ∃ j : Int, 1970 ≤ j ∧ (j ≤ y ∨ j = 1970) ∧ k = .int .i64 j ∧ n = .int .i64 (365 * (y - 1970) + ylp j)) (fun _ k => (y - intOf k).toNat)
  case atStart => exact ⟨1970, by omega, by omega, rfl, by rw [ylp_1970]; simp⟩
  case round =>
    obtain ⟨j, h1, h2, rfl, rfl⟩ := hrel
    have b1 := (ylp_bd j (by omega) (by omega)).1
    have b2 := (ylp_bd j (by omega) (by omega)).2
    by_cases hlt : j < y
    · have hs := Lib.hid (ylp_step j)
      refine (tf (leap j)).elim (fun hl => ?_) fun hl => ?_
      · have hv := Lib.hid (lp_f hl)
        go_wp2_with (go_at_call 80; refine (leap_calls j _ (by omega)).mono ?_; rintro e w' ⟨rfl, rfl⟩)
        go_round
        case rel => exact ⟨j + 1, by omega, by omega, rfl, by rw [hs.out, hv.out, Int.add_zero]⟩
        case measure => simp [intOf]; omega
      · have hv := Lib.hid (lp_t hl)
        go_wp2_with (go_at_call 80; refine (leap_calls j _ (by omega)).mono ?_; rintro e w' ⟨rfl, rfl⟩)
        go_round
        case rel => exact ⟨j + 1, by omega, by omega, rfl, by rw [hs.out, hv.out, Int.add_assoc]⟩
        case measure => simp [intOf]; omega
    · have hfin : 1970 ≤ y → ylp j = ylp y := fun h => by rw [show j = y by omega]
      have hfin' : y < 1970 → ylp j = 0 := fun h => by rw [show j = 1970 by omega, ylp_1970]
      have HF := Lib.hid hfin
      have HF' := Lib.hid hfin'
      clear hfin hfin'
      go_wp2_with fail
      go_loop [3, 5] (fun n k => ∃ i : Int, y ≤ i ∧ (i ≤ 1970 ∨ i = y) ∧ k = .int .i64 i ∧ n = .int .i64 (365 * (y - 1970) + ylp j + ylp y - ylp i)) (fun _ k => (1970 - intOf k).toNat)
      case atStart => exact ⟨y, by omega, by omega, rfl, by simp⟩
      case round =>
        obtain ⟨i, g1, g2, rfl, rfl⟩ := hrel
        have b3 := (ylp_bd i (by omega) (by omega)).1
        have b4 := (ylp_bd i (by omega) (by omega)).2
        have b5 := (ylp_bd y (by omega) (by omega)).1
        have b6 := (ylp_bd y (by omega) (by omega)).2
        by_cases hlt' : i < 1970
        · have hs := Lib.hid (ylp_step i)
          refine (tf (leap i)).elim (fun hl => ?_) fun hl => ?_
          · have hv := Lib.hid (lp_f hl)
            go_wp2_with (go_at_call 80; refine (leap_calls i _ (by omega)).mono ?_; rintro e w' ⟨rfl, rfl⟩)
            go_round
            case rel => exact ⟨i + 1, by omega, by omega, rfl, by rw [hs.out, hv.out, Int.add_zero]⟩
            case measure => simp [intOf]; omega
          · have hv := Lib.hid (lp_t hl)
            go_wp2_with (go_at_call 80; refine (leap_calls i _ (by omega)).mono ?_; rintro e w' ⟨rfl, rfl⟩)
            go_round
            case rel => exact ⟨i + 1, by omega, by omega, rfl, by rw [hs.out, hv.out]; simp; omega⟩
            case measure => simp [intOf]; omega
        · go_wp2_with fail
          go_ret
          refine ⟨ret_int ?_, rfl⟩
          rw [ystart_ylp]
          by_cases h : 1970 ≤ y
          · rw [HF.out h, show i = y by omega]; omega
          · rw [HF'.out (by omega), show i = 1970 by omega, ylp_1970]; omega

set_option maxHeartbeats 1000000 in
theorem dnum_calls (y m d : Int) (w : World) (hy : 1 ≤ y) (hy' : y ≤ 5000) (hm : 1 ≤ m) (hm' : m ≤ 12) (hd : -10000 ≤ d) (hd' : d ≤ 10000) :
    Calls Try.prog 48 #[.int .i64 y, .int .i64 m, .int .i64 d] w fun e w' => e = .returned (.int .i64 (dnum y m d)) ∧ Below w.heap.size w w' := by
  have yb := ystart_bd y hy (by omega)
  have y1 := yb.1
  have y2 := yb.2
  clear yb
  go_enter Try.func48, Try.ntmps48
  go_wp2_with (go_at_call 66; refine (ystart_calls y _ hy hy').mono ?_; rintro e w' ⟨rfl, rfl⟩)
  go_loopw [7, 8] (fun n k w' => ∃ j : Int, 1 ≤ j ∧ j ≤ m ∧ k = .int .i64 j ∧ n = .int .i64 (ystart y + d - 1 + mstart y j) ∧ Below w.heap.size w w') (fun _ k _ => (m - intOf k).toNat)
  case atStart => exact ⟨1, by omega, by omega, rfl, by rw [mstart_1]; simp, Below.refl _ _⟩
  case round =>
    obtain ⟨j, h1, h2, rfl, rfl, hb⟩ := hrel
    have HB := Lib.hid hb
    clear hb
    have mb := mstart_bd y j h1 (by omega)
    have lb := lp_01 y
    have kb := mlen_bd y j
    have m1 := mb.1
    have m2 : mstart y j ≤ 366 := by omega
    have k1 := kb.1
    have k2 := kb.2
    clear mb kb lb
    by_cases hlt : j < m
    · have hs := Lib.hid (mlen_step y j h1 (by omega))
      go_wp2_with (go_at_call 67; refine (mdays_calls y j _ hy h1 (by omega)).mono ?_; rintro e w1 ⟨rfl, hb⟩)
      go_roundw
      case rel => exact ⟨j + 1, by omega, by omega, rfl, by rw [hs.out]; simp; omega, below_go HB.out hb⟩
      case measure => simp [intOf]; omega
    · go_wp2_with fail
      go_ret
      refine ⟨ret_int ?_, HB.out⟩
      rw [show j = m by omega]
      unfold dnum; omega

theorem wday_calls (y m d : Int) (w : World) (hy : 1 ≤ y) (hy' : y ≤ 5000) (hm : 1 ≤ m) (hm' : m ≤ 12) (hd : -10000 ≤ d) (hd' : d ≤ 10000) :
    Calls Try.prog 97 #[.int .i64 y, .int .i64 m, .int .i64 d] w fun e w' => e = .returned (.int .i64 (wday y m d)) ∧ Below w.heap.size w w' := by
  have hb := dnum_bd y m d hy (by omega) hm hm' hd hd'
  have hb1 := hb.1
  have hb2 := hb.2
  clear hb
  have hm1 := (tmod_bd (dnum y m d + 4) 7 (by omega)).1
  have hm2 := (tmod_bd (dnum y m d + 4) 7 (by omega)).2
  have ht := tmod_up (dnum y m d + 4) 7 (by omega)
  have HT := Lib.hid ht
  clear ht
  go_enter Try.func97, Try.ntmps97
  go_wp2_with (go_at_call 48; refine (dnum_calls y m d _ hy hy' hm hm' hd hd').mono ?_; rintro e w1 ⟨rfl, hb⟩)
  all_goals
    go_ret
    refine ⟨ret_int ?_, hb⟩
    have h2 := HT.out
    unfold wday
    rw [Int.tmod_eq_emod_of_nonneg (by omega)] at h2
    omega
end Go.Proofs.Ytnjplichhkmmhaa.CalW
