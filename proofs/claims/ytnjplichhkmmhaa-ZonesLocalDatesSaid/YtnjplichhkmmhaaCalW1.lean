/- Walks: the functions of dates that the zones use. -/
import Derived.Test.YtnjplichhkmmhaaBase
import Derived.Test.YtnjplichhkmmhaaCal
namespace Go.Proofs.Ytnjplichhkmmhaa.CalW
open Go.RowKit Go.Proofs.Ytnjplichhkmmhaa.Base Go.Proofs.Ytnjplichhkmmhaa.Cal
set_option linter.unusedVariables false
set_option linter.unusedSimpArgs false

theorem dwithin_calls (n lo hi : Int) (w : World) :
    Calls Try.prog 49 #[.int .i64 n, .int .i64 lo, .int .i64 hi] w fun e w' => e = .returned (.bool (inR n lo hi)) ∧ w = w' := by
  by_cases h : lo ≤ n
  all_goals
    go_enter Try.func49, Try.ntmps49
    go_wp2
    go_ret
    exact ⟨by simp [inR, h]; try omega, rfl⟩

theorem dwithin_is {n lo hi : Int} {b : Bool} (h : inR n lo hi = b) (w : World) :
    Calls Try.prog 49 #[.int .i64 n, .int .i64 lo, .int .i64 hi] w fun e w' => e = .returned (.bool b) ∧ w = w' := h ▸ dwithin_calls n lo hi w
theorem length_calls (y m : Int) (w : World) (hy : 1 ≤ y) (hy' : y ≤ 5000) :
    Calls Try.prog 70 #[.int .i64 y, .int .i64 m] w fun e w' => e = .returned (.int .i64 (mlen y m)) ∧ w = w' := by
  go_enter Try.func70, Try.ntmps70
  go_wp2
  all_goals
    go_ret
    refine ⟨ret_int ?_, rfl⟩
    simp_all [mlen, lp, leap]
    try omega

theorem days_calls (y m d : Int) (w : World) (hy : 1 ≤ y) (hy' : y ≤ 5000) (hm : 1 ≤ m) (hm' : m ≤ 12) (hd : -10000 ≤ d) (hd' : d ≤ 10000) :
    Calls Try.prog 78 #[.int .i64 y, .int .i64 m, .int .i64 d] w fun e w' => e = .returned (.int .i64 (dnum y m d)) ∧ w = w' := by
  by_cases h : m ≤ 2
  · go_enter Try.func78, Try.ntmps78
    go_wp2
    go_ret
    exact ⟨ret_int (days_lo y m d hm h), rfl⟩
  · go_enter Try.func78, Try.ntmps78
    go_wp2
    go_ret
    exact ⟨ret_int (days_hi y m d (by omega) hm'), rfl⟩

theorem dow_calls (y m d : Int) (w : World) (hy : 1 ≤ y) (hy' : y ≤ 5000) (hm : 1 ≤ m) (hm' : m ≤ 12) (hd : -10000 ≤ d) (hd' : d ≤ 10000) :
    Calls Try.prog 84 #[.int .i64 y, .int .i64 m, .int .i64 d] w fun e w' => e = .returned (.int .i64 (wday y m d)) ∧ w = w' := by
  have hb := dnum_bd y m d hy (by omega) hm hm' hd hd'
  have hb1 := hb.1
  have hb2 := hb.2
  clear hb
  have hm1 := (tmod_bd (dnum y m d + 4) 7 (by omega)).1
  have hm2 := (tmod_bd (dnum y m d + 4) 7 (by omega)).2
  go_enter Try.func84, Try.ntmps84
  go_wp2_with (go_at_call 78; refine (days_calls y m d _ hy hy' hm hm' hd hd').mono ?_; rintro e w' ⟨rfl, rfl⟩)
  go_ret
  refine ⟨ret_int ?_, rfl⟩
  rw [← Int.tmod_eq_emod_of_nonneg (by omega)]
  exact tmod_up _ 7 (by omega)

set_option maxRecDepth 20000 in
theorem check_calls (t : Int) (w : World) (ht : -9223372036854775808 ≤ t) (ht' : t ≤ 9223372036854775807) :
    Calls Try.prog 40 #[.int .i64 t] w fun e w' => e = .returned (.agg #[.int .i64 (chk t).1, .int .i64 (chk t).2]) ∧ Below w.heap.size w w' := by
  have hu := Try.underlying28
  by_cases h : inR t (-68719476736) 68719476736 = true
  · have h1 := (inR_t h).1
    have h2 := (inR_t h).2
    have hc : chk t = (0, 0) := by simp [chk, h]
    rw [hc]
    clear h hc
    go_enter Try.func40, Try.ntmps40
    go_wp2
    exact bodyPost_ret (v := .agg #[.int .i64 0, .int .i64 0]) (by simp [results, Try.results40, go_sem]) rfl ⟨rfl, (Below.refl _ _).alloc (Nat.le_refl _) _⟩
  · have hc : chk t = (3, -2) := by simp [chk, h]
    rw [hc]
    have h0 := inR_f (by simpa using h)
    clear hc h
    rcases h0 with h0 | h0
    all_goals
      go_enter Try.func40, Try.ntmps40
      go_wp2
      exact bodyPost_ret (v := .agg #[.int .i64 3, .int .i64 (-2)]) (by simp [results, Try.results40, go_sem]) rfl ⟨rfl, (Below.refl _ _).alloc (Nat.le_refl _) _⟩

abbrev dval (d : Date) : Value := .agg #[.int .i64 d.y, .int .i64 d.mo, .int .i64 d.d, .int .i64 d.h, .int .i64 d.mi, .int .i64 d.s, .int .i64 d.z]
abbrev fval (f : Int × Int) : Value := .agg #[.int .i64 f.1, .int .i64 f.2]

set_option maxHeartbeats 2000000 in
set_option maxRecDepth 20000 in
theorem dvalidate_calls (d : Date) (w : World) :
    Calls Try.prog 50 #[dval d] w fun e w' => e = .returned (fval (dfault d)) ∧ Below w.heap.size w w' := by
  obtain ⟨y, mo, d, h, mi, s, z⟩ := d
  have hu := Try.underlying34
  have hu' := Try.underlying28
  generalize hf : dfault ⟨y, mo, d, h, mi, s, z⟩ = f
  have HF := Lib.hid hf
  clear hf
  go_enter Try.func50, Try.ntmps50
  go_wp2_with fail
  refine wp_region_quiet_lit (by kernel_rfl) (by kernel_rfl) ?_
  refine (tf (inR y 1 4000)).elim (fun h1 => ?_) fun h1 => (tf (inR mo 1 12)).elim (fun h2 => ?_) fun h2 => (tf (inR d 1 (mlen y mo))).elim (fun h3 => ?_) fun h3 => (tf (inR h 0 23)).elim (fun h4 => ?_) fun h4 => (tf (inR mi 0 59)).elim (fun h5 => ?_) fun h5 => (tf (inR s 0 59)).elim (fun h6 => ?_) fun h6 => (tf (inR z (-900) 900)).elim (fun h7 => ?_) fun h7 => ?_
  all_goals
    repeat (go_big_quiet_step ((first | (go_at_call 49; first | (with_reducible exact quiet_left (dwithin_is h1 _)) | (with_reducible exact quiet_left (dwithin_is h2 _)) | (with_reducible exact quiet_left (dwithin_is h3 _)) | (with_reducible exact quiet_left (dwithin_is h4 _)) | (with_reducible exact quiet_left (dwithin_is h5 _)) | (with_reducible exact quiet_left (dwithin_is h6 _)) | (with_reducible exact quiet_left (dwithin_is h7 _))) | (go_at_call 70; exact quiet_left (length_calls _ _ _ (inR_t h1).1 (by have := (inR_t h1).2; omega))))))
    refine wpQuiet_nil ?_
    rintro _ ⟨nq, rfl⟩
    go_wp2
    have hf := HF.out
    clear HF hu hu'
    simp [dfault, Date.ok, *] at hf
    subst hf
    exact bodyPost_ret (by simp [results, Try.results50, go_sem]) rfl ⟨rfl, by repeat (first | exact Below.refl _ _ | refine below_drewN ?_ _ | refine below_al ?_ _ | refine below_set ?_ (by simp) _)⟩
end Go.Proofs.Ytnjplichhkmmhaa.CalW
