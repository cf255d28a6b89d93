/- Walks: the reference's calendar. -/
import Derived.Test.YtnjplichhkmmhaaCalEq
import Derived.Test.YtnjplichhkmmhaaCal
namespace Go.Proofs.Ytnjplichhkmmhaa.CalW
open Go.RowKit Go.Proofs.Ytnjplichhkmmhaa.Base Go.Proofs.Ytnjplichhkmmhaa.Cal
set_option linter.unusedVariables false
set_option linter.unusedSimpArgs false

theorem rIn_calls (n lo hi : Int) (w : World) :
    Calls Try.prog 24 #[.int .i64 n, .int .i64 lo, .int .i64 hi] w fun e w' => e = .returned (.bool (inR n lo hi)) ∧ w = w' := by
  by_cases h : lo ≤ n
  all_goals
    go_enter Try.func24, Try.ntmps24
    go_wp2
    go_ret
    exact ⟨by simp [inR, h]; try omega, rfl⟩
theorem rIn_is {n lo hi : Int} {b : Bool} (h : inR n lo hi = b) (w : World) :
    Calls Try.prog 24 #[.int .i64 n, .int .i64 lo, .int .i64 hi] w fun e w' => e = .returned (.bool b) ∧ w = w' := h ▸ rIn_calls n lo hi w
theorem rAt_calls (c i : Int) (w : World) :
    Calls Try.prog 38 #[.int .i64 c, .int .i64 i] w fun e w' => e = .returned (.agg #[.int .i64 c, .int .i64 i]) ∧ Below w.heap.size w w' := by
  have hu := Try.underlying28
  go_enter Try.func38, Try.ntmps38
  go_wp2
  exact bodyPost_ret (by simp [results, Try.results38, go_sem]) rfl ⟨rfl, by with_reducible repeat (first | exact Below.refl _ _ | refine below_al ?_ _)⟩

theorem leap_calls (y : Int) (w : World) (hy : 1 ≤ y) :
    Calls Try.prog 80 #[.int .i64 y] w fun e w' => e = .returned (.bool (leap y)) ∧ w = w' := by
  go_enter Try.func80, Try.ntmps80
  go_wp2
  all_goals
    go_ret
    refine ⟨ret_bool ?_, rfl⟩
    simp_all [leap]

theorem lp_of {y : Int} {b : Bool} (h : leap y = b) : lp y = if b = true then 1 else 0 := by simp [lp, h]
set_option maxHeartbeats 1000000 in
theorem mdays_calls (y m : Int) (w : World) (hy : 1 ≤ y) (hm : 1 ≤ m) (hm' : m ≤ 12) :
    Calls Try.prog 67 #[.int .i64 y, .int .i64 m] w fun e w' => e = .returned (.int .i64 (mlen y m)) ∧ Below w.heap.size w w' := by
  have hc : m = 1 ∨ m = 2 ∨ m = 3 ∨ m = 4 ∨ m = 5 ∨ m = 6 ∨ m = 7 ∨ m = 8 ∨ m = 9 ∨ m = 10 ∨ m = 11 ∨ m = 12 := by omega
  generalize hl : leap y = b
  have hlp := lp_of hl
  generalize hv : mlen y m = v
  have HV := Lib.hid hv
  clear hv
  have HL := Lib.hid hlp
  clear hlp
  cases b
  all_goals
    rcases hc with rfl | rfl | rfl | rfl | rfl | rfl | rfl | rfl | rfl | rfl | rfl | rfl
    all_goals
      go_enter Try.func67, Try.ntmps67
      go_wp2_with (go_at_call 80; refine (leap_calls y _ hy).mono ?_; rintro e w' ⟨rfl, rfl⟩)
      go_ret
      refine ⟨ret_int ?_, by with_reducible repeat (first | exact Below.refl _ _ | refine below_al ?_ _)⟩
      rw [← HV.out]
      simp [mlen, HL.out]
end Go.Proofs.Ytnjplichhkmmhaa.CalW
