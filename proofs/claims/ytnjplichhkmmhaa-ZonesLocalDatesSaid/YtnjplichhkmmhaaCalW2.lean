/- Walk: dates.At. -/
import Derived.Test.YtnjplichhkmmhaaCalW1
namespace Go.Proofs.Ytnjplichhkmmhaa.CalW
open Go.RowKit Go.Proofs.Ytnjplichhkmmhaa.Base Go.Proofs.Ytnjplichhkmmhaa.Cal
set_option linter.unusedVariables false
set_option linter.unusedSimpArgs false

theorem lday_bd (t z : Int) (ht : -70000000000 ≤ t) (ht' : t ≤ 70000000000) (hz : -900 ≤ z) (hz' : z ≤ 900) : -900000 ≤ lday t z ∧ lday t z ≤ 900000 := by
  unfold lday; omega
theorem eraD_bd (n : Int) (h : -900000 ≤ n) (h' : n ≤ 900000) : -3 ≤ eraD n ∧ eraD n ≤ 12 := by unfold eraD; omega
theorem int_ty {a b : Int} (h : a = b) : Value.int .i64 a = .int .i64 b := by rw [h]
set_option maxHeartbeats 2000000 in
set_option maxRecDepth 20000 in
theorem at_calls (t z : Int) (w : World) (ht : -70000000000 ≤ t) (ht' : t ≤ 70000000000) (hz : -900 ≤ z) (hz' : z ≤ 900) :
    Calls Try.prog 41 #[.int .i64 t, .int .i64 z] w fun e w' => e = .returned (dval (civ t z)) ∧ Below w.heap.size w w' := by
  have hu := Try.underlying34
  have b1 := (lday_bd t z ht ht' hz hz').1
  have b2 := (lday_bd t z ht ht' hz hz').2
  have b3 := (eraD_bd (lday t z) b1 b2).1
  have b4 := (eraD_bd (lday t z) b1 b2).2
  have b5 := (doeD_bd (lday t z)).1
  have b6 := (doeD_bd (lday t z)).2
  have b7 := (yoeD_bd (lday t z)).1
  have b8 := (yoeD_bd (lday t z)).2
  have b9 := (doyD_bd (lday t z)).1
  have b10 := (doyD_bd (lday t z)).2
  have b11 := (mpD_bd (lday t z)).1
  have b12 := (mpD_bd (lday t z)).2
  have b13 : 0 ≤ lsec t z := by unfold lsec; omega
  have b14 : lsec t z ≤ 86399 := by unfold lsec; omega
  go_enter Try.func41, Try.ntmps41
  go_upto_region 2 with fail
  go_cut [6, 7] (fun s6 s7 wx => s6 = .int .i64 (lday t z) ∧ s7 = .int .i64 (lsec t z) ∧ wx = w.alloc (.cells #[.int .i64 0, .int .i64 0, .int .i64 0, .int .i64 0, .int .i64 0, .int .i64 0, .int .i64 0] 34))
  case first =>
    go_wp2_with fail
    go_meet
    exact ⟨int_ty (by unfold lday; omega), int_ty (by unfold lsec; omega), rfl⟩
  case rest =>
    obtain ⟨rfl, rfl, rfl⟩ := hcut
    go_upto_region 3 with fail
    go_cut [6] (fun s6 wx => s6 = .int .i64 (lday t z + 719468) ∧ wx = w.alloc (.cells #[.int .i64 0, .int .i64 0, .int .i64 0, .int .i64 0, .int .i64 0, .int .i64 0, .int .i64 0] 34))
    case first =>
      go_wp2_with fail
      all_goals
        go_meet
        exact ⟨int_ty (by omega), rfl⟩
    case rest =>
      obtain ⟨rfl, rfl⟩ := hcut
      have d0 := doeD_bd (lday t z)
      have f1 : (lday t z + 719468) = eraD (lday t z) * 146097 + doeD (lday t z) := by unfold eraD doeD; omega
      have F1 := Lib.hid f1
      clear f1 d0
      go_upto_if 27 with fail
      go_cut [8] (fun s8 wx => s8 = .int .i64 (eraD (lday t z)) ∧ wx = w.alloc (.cells #[.int .i64 0, .int .i64 0, .int .i64 0, .int .i64 0, .int .i64 0, .int .i64 0, .int .i64 0] 34))
      case first =>
        by_cases h : lday t z + 719468 < 0
        · have e1 : (lday t z + 719468 - 146096).tdiv 146097 = eraD (lday t z) := by
            have h2 := F1.out
            have h3 : lday t z + 719468 - 146096 = -(146096 - (lday t z + 719468)) := by omega
            rw [h3, Int.neg_tdiv, Int.tdiv_eq_ediv_of_nonneg (by omega)]
            omega
          go_wp2_with fail
          go_meet
          exact ⟨rfl, rfl⟩
        · have e1 : (lday t z + 719468).tdiv 146097 = eraD (lday t z) := by
            rw [Int.tdiv_eq_ediv_of_nonneg (by omega)]; rfl
          go_wp2_with fail
          go_meet
          exact ⟨rfl, rfl⟩
      case rest =>
        obtain ⟨rfl, rfl⟩ := hcut
        go_upto_region 7 with fail
        go_cut [6] (fun s6 wx => s6 = .int .i64 (doeD (lday t z)) ∧ wx = w.alloc (.cells #[.int .i64 0, .int .i64 0, .int .i64 0, .int .i64 0, .int .i64 0, .int .i64 0, .int .i64 0] 34))
        case first =>
          go_wp2_with fail
          go_meet
          exact ⟨int_ty (by have h2 := F1.out; omega), rfl⟩
        case rest =>
          obtain ⟨rfl, rfl⟩ := hcut
          go_upto_region 8 with fail
          go_cut [9] (fun s9 wx => s9 = .int .i64 (yoeD (lday t z)) ∧ wx = w.alloc (.cells #[.int .i64 0, .int .i64 0, .int .i64 0, .int .i64 0, .int .i64 0, .int .i64 0, .int .i64 0] 34))
          case first =>
            go_wp2_with fail
            go_meet
            exact ⟨int_ty (by rfl), rfl⟩
          case rest =>
            obtain ⟨rfl, rfl⟩ := hcut
            go_upto_region 9 with fail
            go_cut [6] (fun s6 wx => s6 = .int .i64 (doyD (lday t z)) ∧ wx = w.alloc (.cells #[.int .i64 0, .int .i64 0, .int .i64 0, .int .i64 0, .int .i64 0, .int .i64 0, .int .i64 0] 34))
            case first =>
              go_wp2_with fail
              go_meet
              exact ⟨int_ty (by rfl), rfl⟩
            case rest =>
              obtain ⟨rfl, rfl⟩ := hcut
              go_upto_region 10 with fail
              go_cut [10] (fun s10 wx => s10 = .int .i64 (mpD (lday t z)) ∧ wx = w.alloc (.cells #[.int .i64 0, .int .i64 0, .int .i64 0, .int .i64 0, .int .i64 0, .int .i64 0, .int .i64 0] 34))
              case first =>
                go_wp2_with fail
                go_meet
                exact ⟨int_ty (by rfl), rfl⟩
              case rest =>
                obtain ⟨rfl, rfl⟩ := hcut
                clear F1 b1 b2 b5 b6 ht ht'
                by_cases h10 : mpD (lday t z) < 10
                · go_wp2
                  refine bodyPost_ret (v := .agg #[.int .i64 (eraD (lday t z) * 400 + yoeD (lday t z)), .int .i64 (mpD (lday t z) + 3), .int .i64 (doyD (lday t z) - (153 * mpD (lday t z) + 2) / 5 + 1), .int .i64 (lsec t z / 3600), .int .i64 (lsec t z / 60 % 60), .int .i64 (lsec t z % 60), .int .i64 z]) (by simp [results, Try.results41, go_sem]) rfl ⟨?_, ((Below.refl _ _).alloc (Nat.le_refl _) _).alloc (by simp) _⟩
                  simp [dval, civ, ymdY, ymdM, ymdD, h10]
                · go_wp2
                  refine bodyPost_ret (v := .agg #[.int .i64 (eraD (lday t z) * 400 + yoeD (lday t z) + 1), .int .i64 (mpD (lday t z) + 3 - 12), .int .i64 (doyD (lday t z) - (153 * mpD (lday t z) + 2) / 5 + 1), .int .i64 (lsec t z / 3600), .int .i64 (lsec t z / 60 % 60), .int .i64 (lsec t z % 60), .int .i64 z]) (by simp [results, Try.results41, go_sem]) rfl ⟨?_, ((Below.refl _ _).alloc (Nat.le_refl _) _).alloc (by simp) _⟩
                  simp [dval, civ, ymdY, ymdM, ymdD, h10]
                  omega
end Go.Proofs.Ytnjplichhkmmhaa.CalW
