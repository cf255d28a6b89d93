import Derived.Test.YtnjplichhkmmhaaZonW9
/- Walk: zones.Check. -/
namespace Go.Proofs.Ytnjplichhkmmhaa.CalW
open Go.RowKit Go.Proofs.Ytnjplichhkmmhaa.Base Go.Proofs.Ytnjplichhkmmhaa.Cal
set_option linter.unusedVariables false
set_option linter.unusedSimpArgs false

attribute [local go_sem high] eqA28
set_option maxHeartbeats 4000000 in
set_option maxRecDepth 20000 in
theorem zcheck_calls (d : Date) (w : World) :
    Calls Try.prog 45 #[dval d] w fun e w' => e = .returned (.agg #[.int .i64 (locf d).1, .int .i64 (locf d).2]) ∧ Below w.heap.size w w' := by
  have hV := fun W => dvalidate_calls d W
  obtain ⟨y, mo, dd, h, mi, s, dz⟩ := d
  have hu28 := Try.underlying28
  have hu34 := Try.underlying34
  generalize hv : locf ⟨y, mo, dd, h, mi, s, dz⟩ = v
  have HV := Lib.hid hv
  clear hv
  generalize hk : dfault ⟨y, mo, dd, h, mi, s, dz⟩ = k at *
  have HK := Lib.hid hk
  have HVAL := Lib.hid hV
  clear hk hV
  go_enter Try.func45, Try.ntmps45
  go_upto_region 1 with fail
  have HZ := Lib.hid ((Bk.new w 34 #[.int .i64 y, .int .i64 mo, .int .i64 dd, .int .i64 h, .int .i64 mi, .int .i64 s, .int .i64 dz]).al (.cells #[.int .i64 0, .int .i64 0] 28))
  have HE := Lib.hid (Bk.new' (n := w.heap.size + 1) (w.alloc (.cells #[.int .i64 y, .int .i64 mo, .int .i64 dd, .int .i64 h, .int .i64 mi, .int .i64 s, .int .i64 dz] 34)) 28 #[.int .i64 0, .int .i64 0] (by simp))
  have HB := Lib.hid (below_al (below_al (Below.refl w.heap.size w) (.cells #[.int .i64 y, .int .i64 mo, .int .i64 dd, .int .i64 h, .int .i64 mi, .int .i64 s, .int .i64 dz] 34)) (.cells #[.int .i64 0, .int .i64 0] 28))
  generalize (w.alloc (.cells #[.int .i64 y, .int .i64 mo, .int .i64 dd, .int .i64 h, .int .i64 mi, .int .i64 s, .int .i64 dz] 34)).alloc (.cells #[.int .i64 0, .int .i64 0] 28) = w0 at *
  have cz := HZ.out.cell
  go_upto_region 2 with (go_at_call 50; refine (HVAL.out _).mono ?_; rintro e w1 ⟨rfl, hb⟩)
  have KZ := Lib.hid ((HZ.out.bel hb).al (.cells #[.int .i64 k.1, .int .i64 k.2] 28))
  have KE := Lib.hid ((HE.out.bel hb).al (.cells #[.int .i64 k.1, .int .i64 k.2] 28))
  have KF := Lib.hid (Bk.new w1 28 #[.int .i64 k.1, .int .i64 k.2])
  have KB := Lib.hid (below_al (below_go HB.out hb) (.cells #[.int .i64 k.1, .int .i64 k.2] 28))
  have n1 : ¬ w1.heap.size = w.heap.size := Nat.ne_of_gt (HZ.out.bel hb).lt
  have n2 : ¬ w1.heap.size = w.heap.size + 1 := Nat.ne_of_gt (HE.out.bel hb).lt
  have n3 : ¬ w.heap.size = w1.heap.size := fun h => n1 h.symm
  have n4 : ¬ w.heap.size + 1 = w1.heap.size := fun h => n2 h.symm
  clear cz HZ HE HB hb HVAL w0
  generalize hg : w1.heap.size = g at *
  clear hg
  generalize w1.alloc (.cells #[.int .i64 k.1, .int .i64 k.2] 28) = w2 at *
  clear w1
  have cz := KZ.out.cell
  have ce := KE.out.cell
  have fe := KE.out.frozen
  have cf := KF.out.cell
  by_cases hk : k = (0, 0)
  · subst hk
    refine (tf (dz == 0)).elim (fun k1 => ?_) fun k1 => (tf (inR y 3 3998)).elim (fun k2 => ?_) fun k2 => ?_
    · have k1' : (dz != 0) = true := by simpa using k1
      have hr : v = (5, -9) := by rw [← HV.out]; unfold locf; rw [HK.out]; simp at k1; simp [k1]
      have HR := Lib.hid hr
      clear hr
      go_wp2_with (go_at_call 35; refine (zwithin_is k2 _).mono ?_; rintro e w' ⟨rfl, rfl⟩)
      exact bodyPost_ret (v := .agg #[.int .i64 5, .int .i64 (-9)]) (res_c Try.results45 rfl (by (with_reducible repeat (first | exact KE.out | apply Bk.al | apply Bk.dr | apply Bk.put' | (apply Bk.far; case hp => (simp [*] <;> omega)))); all_goals rfl) hu28 rfl (by kernel_rfl)) rfl ⟨by rw [HR.out], by with_reducible repeat (first | exact KB.out | refine below_drew1 ?_ | refine below_al ?_ _ | refine below_set ?_ (by simp <;> omega) _)⟩
    · have k1' : (dz != 0) = false := by simpa using k1
      have hr : v = (3, -9) := by rw [← HV.out]; unfold locf; rw [HK.out]; simp at k1; simp [k1, k2]
      have HR := Lib.hid hr
      clear hr
      go_wp2_with (go_at_call 35; refine (zwithin_is k2 _).mono ?_; rintro e w' ⟨rfl, rfl⟩)
      exact bodyPost_ret (v := .agg #[.int .i64 3, .int .i64 (-9)]) (res_c Try.results45 rfl (by (with_reducible repeat (first | exact KE.out | apply Bk.al | apply Bk.dr | apply Bk.put' | (apply Bk.far; case hp => (simp [*] <;> omega)))); all_goals rfl) hu28 rfl (by kernel_rfl)) rfl ⟨by rw [HR.out], by with_reducible repeat (first | exact KB.out | refine below_drew1 ?_ | refine below_al ?_ _ | refine below_set ?_ (by simp <;> omega) _)⟩
    · have k1' : (dz != 0) = false := by simpa using k1
      have hr : v = (0, 0) := by rw [← HV.out]; unfold locf; rw [HK.out]; simp at k1; simp [k1, k2]
      have HR := Lib.hid hr
      clear hr
      go_wp2_with (go_at_call 35; refine (zwithin_is k2 _).mono ?_; rintro e w' ⟨rfl, rfl⟩)
      exact bodyPost_ret (v := .agg #[.int .i64 0, .int .i64 0]) (res_c Try.results45 rfl (by (with_reducible repeat (first | exact KE.out | apply Bk.al | apply Bk.dr | apply Bk.put' | (apply Bk.far; case hp => (simp [*] <;> omega)))); all_goals rfl) hu28 rfl (by kernel_rfl)) rfl ⟨by rw [HR.out], by with_reducible repeat (first | exact KB.out | refine below_drew1 ?_ | refine below_al ?_ _ | refine below_set ?_ (by simp <;> omega) _)⟩
  · have p1 := pair_no hk
    have p2 := pair_no' hk
    have hr : v = k := by rw [← HV.out]; unfold locf; rw [HK.out, if_pos hk]
    have HR := Lib.hid hr
    clear hr hk
    go_wp2_with fail
    exact bodyPost_ret (v := .agg #[.int .i64 k.1, .int .i64 k.2]) (res_c Try.results45 rfl (by (with_reducible repeat (first | exact KE.out | apply Bk.al | apply Bk.dr | apply Bk.put' | (apply Bk.far; case hp => (simp [*] <;> omega)))); all_goals rfl) hu28 rfl (by kernel_rfl)) rfl ⟨by rw [HR.out], by with_reducible repeat (first | exact KB.out | refine below_drew1 ?_ | refine below_al ?_ _ | refine below_set ?_ (by simp <;> omega) _)⟩
end Go.Proofs.Ytnjplichhkmmhaa.CalW
