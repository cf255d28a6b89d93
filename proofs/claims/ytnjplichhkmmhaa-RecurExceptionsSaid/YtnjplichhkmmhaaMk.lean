import Derived.Test.YtnjplichhkmmhaaMj
import Derived.Test.YtnjplichhkmmhaaMi
import Derived.Test.YtnjplichhkmmhaaMh
/- Walk: the reference's BetweenFault. -/
namespace Go.Proofs.Ytnjplichhkmmhaa.CalW
open Go.RowKit Go.Proofs.Ytnjplichhkmmhaa.Base Go.Proofs.Ytnjplichhkmmhaa.Cal
set_option linter.unusedVariables false
set_option linter.unusedSimpArgs false
theorem fldF (W : World) (a b : Int) : (Instr.field 28 (.agg #[.int .i64 a, .int .i64 b]) 0).run Try.prog W = .ok (.int .i64 a) W := by
  have hu := Try.underlying28
  simp [Instr.field, run_underlying hu, go_sem, asAgg]
attribute [local go_sem high] fldF
set_option maxHeartbeats 1000000 in
set_option maxRecDepth 20000 in
theorem betweenfault_calls (z : Zone) (d : Date) (r : Rule) (sr : RS) (a b : Int) (w : World) (hs : z.name.size ≤ maxLen) (hR : RuleAt w r sr) :
    Calls Try.prog 31 #[zval z, dval d, rval r sr, .int .i64 a, .int .i64 b] w fun e w' => e = .returned (fval (btwF z d r a b)) ∧ Below w.heap.size w w' := by
  have hZ := fun W => zonefault_calls z W hs
  have hD := fun W => localfault_calls d W
  have hV := fun W A => rulefault_calls r sr W A
  have hko := z.fault_or'
  have hqo := locf_or d
  have hfo := r.fault_or
  generalize hv : btwF z d r a b = v
  unfold btwF rckF at hv
  obtain ⟨nm, st, su, ⟨b0, b1, b2, b3⟩, ⟨e0, e1, e2, e3⟩⟩ := z
  obtain ⟨y, mo, dd, h, mi, s, dz⟩ := d
  obtain ⟨fr, ev, ct, un, hu, wd, ex, ad⟩ := r
  obtain ⟨a5, c5, a6, c6, a7, c7⟩ := sr
  have hu25 := Try.underlying25
  have hu34 := Try.underlying34
  have hu49 := Try.underlying49
  have hu28 := Try.underlying28
  dsimp only at hv
  generalize Zone.fault ⟨nm, st, su, ⟨b0, b1, b2, b3⟩, ⟨e0, e1, e2, e3⟩⟩ = k at *
  generalize locf ⟨y, mo, dd, h, mi, s, dz⟩ = q at *
  generalize Rule.fault ⟨fr, ev, ct, un, hu, wd, ex, ad⟩ = f at *
  have S := Lib.hid (CkSt.mk ((((Bk.new w 25 #[.string nm, .int .i64 st, .int .i64 su, .int .i64 b0, .int .i64 b1, .int .i64 b2, .int .i64 b3, .int .i64 e0, .int .i64 e1, .int .i64 e2, .int .i64 e3]).al (.cells #[.int .i64 y, .int .i64 mo, .int .i64 dd, .int .i64 h, .int .i64 mi, .int .i64 s, .int .i64 dz] 34)).al (.cells #[.int .i64 fr, .int .i64 ev, .int .i64 ct, .int .i64 un, .bool hu, .slice a5 wd.length c5, .slice a6 ex.length c6, .slice a7 ad.length c7] 49)).al (.cells #[.int .i64 0, .int .i64 0] 28)) (((Bk.new' (n := w.heap.size + 1) (w.alloc (.cells #[.string nm, .int .i64 st, .int .i64 su, .int .i64 b0, .int .i64 b1, .int .i64 b2, .int .i64 b3, .int .i64 e0, .int .i64 e1, .int .i64 e2, .int .i64 e3] 25)) 34 #[.int .i64 y, .int .i64 mo, .int .i64 dd, .int .i64 h, .int .i64 mi, .int .i64 s, .int .i64 dz] (by simp)).al (.cells #[.int .i64 fr, .int .i64 ev, .int .i64 ct, .int .i64 un, .bool hu, .slice a5 wd.length c5, .slice a6 ex.length c6, .slice a7 ad.length c7] 49)).al (.cells #[.int .i64 0, .int .i64 0] 28)) ((Bk.new' (n := w.heap.size + 1 + 1) ((w.alloc (.cells #[.string nm, .int .i64 st, .int .i64 su, .int .i64 b0, .int .i64 b1, .int .i64 b2, .int .i64 b3, .int .i64 e0, .int .i64 e1, .int .i64 e2, .int .i64 e3] 25)).alloc (.cells #[.int .i64 y, .int .i64 mo, .int .i64 dd, .int .i64 h, .int .i64 mi, .int .i64 s, .int .i64 dz] 34)) 49 #[.int .i64 fr, .int .i64 ev, .int .i64 ct, .int .i64 un, .bool hu, .slice a5 wd.length c5, .slice a6 ex.length c6, .slice a7 ad.length c7] (by simp)).al (.cells #[.int .i64 0, .int .i64 0] 28)) (Bk.new' (n := w.heap.size + 1 + 1 + 1) (((w.alloc (.cells #[.string nm, .int .i64 st, .int .i64 su, .int .i64 b0, .int .i64 b1, .int .i64 b2, .int .i64 b3, .int .i64 e0, .int .i64 e1, .int .i64 e2, .int .i64 e3] 25)).alloc (.cells #[.int .i64 y, .int .i64 mo, .int .i64 dd, .int .i64 h, .int .i64 mi, .int .i64 s, .int .i64 dz] 34)).alloc (.cells #[.int .i64 fr, .int .i64 ev, .int .i64 ct, .int .i64 un, .bool hu, .slice a5 wd.length c5, .slice a6 ex.length c6, .slice a7 ad.length c7] 49)) 28 #[.int .i64 0, .int .i64 0] (by simp)) ((((hR.al (.cells #[.string nm, .int .i64 st, .int .i64 su, .int .i64 b0, .int .i64 b1, .int .i64 b2, .int .i64 b3, .int .i64 e0, .int .i64 e1, .int .i64 e2, .int .i64 e3] 25)).al (.cells #[.int .i64 y, .int .i64 mo, .int .i64 dd, .int .i64 h, .int .i64 mi, .int .i64 s, .int .i64 dz] 34)).al (.cells #[.int .i64 fr, .int .i64 ev, .int .i64 ct, .int .i64 un, .bool hu, .slice a5 wd.length c5, .slice a6 ex.length c6, .slice a7 ad.length c7] 49)).al (.cells #[.int .i64 0, .int .i64 0] 28)) (below_al (below_al (below_al (below_al (Below.refl w.heap.size w) (.cells #[.string nm, .int .i64 st, .int .i64 su, .int .i64 b0, .int .i64 b1, .int .i64 b2, .int .i64 b3, .int .i64 e0, .int .i64 e1, .int .i64 e2, .int .i64 e3] 25)) (.cells #[.int .i64 y, .int .i64 mo, .int .i64 dd, .int .i64 h, .int .i64 mi, .int .i64 s, .int .i64 dz] 34)) (.cells #[.int .i64 fr, .int .i64 ev, .int .i64 ct, .int .i64 un, .bool hu, .slice a5 wd.length c5, .slice a6 ex.length c6, .slice a7 ad.length c7] 49)) (.cells #[.int .i64 0, .int .i64 0] 28)) : CkSt w ((((w.alloc (.cells #[.string nm, .int .i64 st, .int .i64 su, .int .i64 b0, .int .i64 b1, .int .i64 b2, .int .i64 b3, .int .i64 e0, .int .i64 e1, .int .i64 e2, .int .i64 e3] 25)).alloc (.cells #[.int .i64 y, .int .i64 mo, .int .i64 dd, .int .i64 h, .int .i64 mi, .int .i64 s, .int .i64 dz] 34)).alloc (.cells #[.int .i64 fr, .int .i64 ev, .int .i64 ct, .int .i64 un, .bool hu, .slice a5 wd.length c5, .slice a6 ex.length c6, .slice a7 ad.length c7] 49)).alloc (.cells #[.int .i64 0, .int .i64 0] 28)) #[.string nm, .int .i64 st, .int .i64 su, .int .i64 b0, .int .i64 b1, .int .i64 b2, .int .i64 b3, .int .i64 e0, .int .i64 e1, .int .i64 e2, .int .i64 e3] #[.int .i64 y, .int .i64 mo, .int .i64 dd, .int .i64 h, .int .i64 mi, .int .i64 s, .int .i64 dz] #[.int .i64 fr, .int .i64 ev, .int .i64 ct, .int .i64 un, .bool hu, .slice a5 wd.length c5, .slice a6 ex.length c6, .slice a7 ad.length c7] #[.int .i64 0, .int .i64 0] ⟨fr, ev, ct, un, hu, wd, ex, ad⟩ ⟨a5, c5, a6, c6, a7, c7⟩)
  have HV := Lib.hid hv
  have HZ := Lib.hid hZ
  have HD := Lib.hid hD
  have HR := Lib.hid hV
  have HKO := Lib.hid hko
  have HQO := Lib.hid hqo
  have HFO := Lib.hid hfo
  clear hv hZ hD hV hR hko hqo hfo
  go_enter Try.func31, Try.ntmps31
  go_upto_region 1 with fail
  generalize (((w.alloc (.cells #[.string nm, .int .i64 st, .int .i64 su, .int .i64 b0, .int .i64 b1, .int .i64 b2, .int .i64 b3, .int .i64 e0, .int .i64 e1, .int .i64 e2, .int .i64 e3] 25)).alloc (.cells #[.int .i64 y, .int .i64 mo, .int .i64 dd, .int .i64 h, .int .i64 mi, .int .i64 s, .int .i64 dz] 34)).alloc (.cells #[.int .i64 fr, .int .i64 ev, .int .i64 ct, .int .i64 un, .bool hu, .slice a5 wd.length c5, .slice a6 ex.length c6, .slice a7 ad.length c7] 49)).alloc (.cells #[.int .i64 0, .int .i64 0] 28) = w0 at *
  have cz := S.out.z.cell; have cd := S.out.d.cell; have cr := S.out.u.cell; have ce := S.out.e.cell; have fe := S.out.e.frozen
  by_cases hk : k = (0, 0)
  · subst hk
    have hv := HV.out
    rw [if_neg (show ¬ ((0, 0) : Int × Int) ≠ (0, 0) by simp)] at hv
    clear HV
    have HV := Lib.hid hv
    clear hv
    by_cases hq : q = (0, 0)
    · subst hq
      have hv := HV.out
      rw [if_neg (show ¬ ((0, 0) : Int × Int) ≠ (0, 0) by simp)] at hv
      clear HV
      by_cases hy : 3980 < y
      · rw [if_pos hy, if_neg (by simp)] at hv
        subst hv
        go_wp2_with (first | (go_at_call 16; ((with_reducible refine (HZ.out _).mono ?_); rintro e w1 ⟨rfl, hb⟩; have T := Lib.hid (S.out.bel hb); clear S cz cd cr ce fe; clear hb; have S := T; clear T; have cz := S.out.z.cell; have cd := S.out.d.cell; have cr := S.out.u.cell; have ce := S.out.e.cell; have fe := S.out.e.frozen)) | (go_at_call 20; ((with_reducible refine (HD.out _).mono ?_); rintro e w1 ⟨rfl, hb⟩; have T := Lib.hid (S.out.bel hb); clear S cz cd cr ce fe; clear hb; have S := T; clear T; have cz := S.out.z.cell; have cd := S.out.d.cell; have cr := S.out.u.cell; have ce := S.out.e.cell; have fe := S.out.e.frozen)) | (go_at_call 38; ((with_reducible refine (rAt_calls _ _ _).mono ?_); rintro e w1 ⟨rfl, hb⟩; have T := Lib.hid (S.out.bel hb); clear S cz cd cr ce fe; clear hb; have S := T; clear T; have cz := S.out.z.cell; have cd := S.out.d.cell; have cr := S.out.u.cell; have ce := S.out.e.cell; have fe := S.out.e.frozen)))
        refine bodyPost_ret (v := .agg #[.int .i64 3, .int .i64 (-11)]) (res_c Try.results31 rfl (by (with_reducible repeat (first | exact S.out.e | apply Bk.al | apply Bk.dr | apply Bk.put' | (apply Bk.far; case hp => (simp [*] <;> omega)))); all_goals rfl) hu28 rfl (by kernel_rfl)) rfl ⟨by rfl, (by with_reducible repeat (first | exact S.out.b | refine below_drew1 ?_ | refine below_al ?_ _ | refine below_set ?_ (by simp <;> omega) _))⟩
      · rw [if_neg hy] at hv
        have hy' : y ≤ 3980 := by omega
        have HV := Lib.hid hv
        clear hy hv
        go_upto_region 8 with (first | (go_at_call 16; ((with_reducible refine (HZ.out _).mono ?_); rintro e w1 ⟨rfl, hb⟩; have T := Lib.hid (S.out.bel hb); clear S cz cd cr ce fe; clear hb; have S := T; clear T; have cz := S.out.z.cell; have cd := S.out.d.cell; have cr := S.out.u.cell; have ce := S.out.e.cell; have fe := S.out.e.frozen)) | (go_at_call 20; ((with_reducible refine (HD.out _).mono ?_); rintro e w1 ⟨rfl, hb⟩; have T := Lib.hid (S.out.bel hb); clear S cz cd cr ce fe; clear hb; have S := T; clear T; have cz := S.out.z.cell; have cd := S.out.d.cell; have cr := S.out.u.cell; have ce := S.out.e.cell; have fe := S.out.e.frozen)) | (go_at_call 29; ((with_reducible refine (HR.out _ S.out.a).mono ?_); rintro e w1 ⟨rfl, hb⟩; have T := Lib.hid (S.out.bel hb); clear S cz cd cr ce fe; clear hb; have S := T; clear T; have cz := S.out.z.cell; have cd := S.out.d.cell; have cr := S.out.u.cell; have ce := S.out.e.cell; have fe := S.out.e.frozen)))
        have T := Lib.hid (S.out.al (.cells #[.int .i64 f.1, .int .i64 f.2] 28))
        have K2 := Lib.hid (Bk.new w1 28 #[.int .i64 f.1, .int .i64 f.2])
        have n2 : w.heap.size + 1 + 1 + 1 < w1.heap.size := S.out.e.lt
        clear S cz cd cr ce fe
        have S := T
        clear T
        generalize w1.heap.size = g2 at *
        generalize w1.alloc (.cells #[.int .i64 f.1, .int .i64 f.2] 28) = w3 at *
        clear w1
        have cz := S.out.z.cell; have cd := S.out.d.cell; have cr := S.out.u.cell; have ce := S.out.e.cell; have fe := S.out.e.frozen
        have c2 := K2.out.cell
        have f2 := K2.out.frozen
        by_cases hf : f = (0, 0)
        · subst hf
          refine (tf (inR a (-68719476736) 68719476736)).elim (fun ha => ?_) fun ha => ?_
          · have hv := HV.out
            rw [if_pos ⟨rfl, .inl ha⟩] at hv
            subst hv
            clear HV
            go_wp2_with (first | (go_at_call 24; ((with_reducible refine (rIn_is ha _).mono ?_); rintro e w1 ⟨rfl, rfl⟩)) | (go_at_call 38; ((with_reducible refine (rAt_calls _ _ _).mono ?_); rintro e w1 ⟨rfl, hb⟩; have T := Lib.hid (S.out.bel hb); have K3 := Lib.hid (K2.out.bel hb); clear S cz cd cr ce fe; clear hb K2 c2 f2; have S := T; have K2 := K3; clear T K3; have cz := S.out.z.cell; have cd := S.out.d.cell; have cr := S.out.u.cell; have ce := S.out.e.cell; have fe := S.out.e.frozen; have c2 := K2.out.cell; have f2 := K2.out.frozen)))
            refine bodyPost_ret (v := .agg #[.int .i64 3, .int .i64 (-12)]) (res_c Try.results31 rfl (by (with_reducible repeat (first | exact S.out.e | apply Bk.al | apply Bk.dr | apply Bk.put' | (apply Bk.far; case hp => (simp [*] <;> omega)))); all_goals rfl) hu28 rfl (by kernel_rfl)) rfl ⟨by rfl, (by with_reducible repeat (first | exact S.out.b | refine below_drew1 ?_ | refine below_al ?_ _ | refine below_set ?_ (by simp <;> omega) _))⟩
          · refine (tf (inR b a 68719476736)).elim (fun hb2 => ?_) fun hb2 => ?_
            · have hv := HV.out
              rw [if_pos ⟨rfl, .inr hb2⟩] at hv
              subst hv
              clear HV
              go_wp2_with (first | (go_at_call 24; ((with_reducible refine (rIn_is ha _).mono ?_); rintro e w1 ⟨rfl, rfl⟩)) | (go_at_call 24; ((with_reducible refine (rIn_is hb2 _).mono ?_); rintro e w1 ⟨rfl, rfl⟩)) | (go_at_call 38; ((with_reducible refine (rAt_calls _ _ _).mono ?_); rintro e w1 ⟨rfl, hb⟩; have T := Lib.hid (S.out.bel hb); have K3 := Lib.hid (K2.out.bel hb); clear S cz cd cr ce fe; clear hb K2 c2 f2; have S := T; have K2 := K3; clear T K3; have cz := S.out.z.cell; have cd := S.out.d.cell; have cr := S.out.u.cell; have ce := S.out.e.cell; have fe := S.out.e.frozen; have c2 := K2.out.cell; have f2 := K2.out.frozen)))
              refine bodyPost_ret (v := .agg #[.int .i64 3, .int .i64 (-12)]) (res_c Try.results31 rfl (by (with_reducible repeat (first | exact S.out.e | apply Bk.al | apply Bk.dr | apply Bk.put' | (apply Bk.far; case hp => (simp [*] <;> omega)))); all_goals rfl) hu28 rfl (by kernel_rfl)) rfl ⟨by rfl, (by with_reducible repeat (first | exact S.out.b | refine below_drew1 ?_ | refine below_al ?_ _ | refine below_set ?_ (by simp <;> omega) _))⟩
            · have hv := HV.out
              rw [if_neg (by rw [ha, hb2]; simp)] at hv
              subst hv
              clear HV
              go_wp2_with (first | (go_at_call 24; ((with_reducible refine (rIn_is ha _).mono ?_); rintro e w1 ⟨rfl, rfl⟩)) | (go_at_call 24; ((with_reducible refine (rIn_is hb2 _).mono ?_); rintro e w1 ⟨rfl, rfl⟩)))
              refine bodyPost_ret (v := .agg #[.int .i64 0, .int .i64 0]) (res_c Try.results31 rfl (by (with_reducible repeat (first | exact S.out.e | apply Bk.al | apply Bk.dr | apply Bk.put' | (apply Bk.far; case hp => (simp [*] <;> omega)))); all_goals rfl) hu28 rfl (by kernel_rfl)) rfl ⟨by rfl, (by with_reducible repeat (first | exact S.out.b | refine below_drew1 ?_ | refine below_al ?_ _ | refine below_set ?_ (by simp <;> omega) _))⟩
        · have p := (HFO.out).resolve_left hf
          have p1 : (f.1 == 0) = false := by simpa using p
          have hv := HV.out
          rw [if_neg (fun h => hf h.1)] at hv
          subst hv
          clear HV hf p
          go_wp2
          refine bodyPost_ret (v := .agg #[.int .i64 f.1, .int .i64 f.2]) (res_c Try.results31 rfl (by (with_reducible repeat (first | exact S.out.e | apply Bk.al | apply Bk.dr | apply Bk.put' | (apply Bk.far; case hp => (simp [*] <;> omega)))); all_goals rfl) hu28 rfl (by kernel_rfl)) rfl ⟨by rfl, (by with_reducible repeat (first | exact S.out.b | refine below_drew1 ?_ | refine below_al ?_ _ | refine below_set ?_ (by simp <;> omega) _))⟩
    · have p := (HQO.out).resolve_left hq
      have p1 : (q.1 != 0) = true := by simpa using p
      have hv := HV.out
      rw [if_pos hq, if_neg (fun h => by have := h.1; simp at this)] at hv
      subst hv
      clear HV hq p
      go_wp2_with (first | (go_at_call 16; ((with_reducible refine (HZ.out _).mono ?_); rintro e w1 ⟨rfl, hb⟩; have T := Lib.hid (S.out.bel hb); clear S cz cd cr ce fe; clear hb; have S := T; clear T; have cz := S.out.z.cell; have cd := S.out.d.cell; have cr := S.out.u.cell; have ce := S.out.e.cell; have fe := S.out.e.frozen)) | (go_at_call 20; ((with_reducible refine (HD.out _).mono ?_); rintro e w1 ⟨rfl, hb⟩; have T := Lib.hid (S.out.bel hb); clear S cz cd cr ce fe; clear hb; have S := T; clear T; have cz := S.out.z.cell; have cd := S.out.d.cell; have cr := S.out.u.cell; have ce := S.out.e.cell; have fe := S.out.e.frozen)) | (go_at_call 38; ((with_reducible refine (rAt_calls _ _ _).mono ?_); rintro e w1 ⟨rfl, hb⟩; have T := Lib.hid (S.out.bel hb); clear S cz cd cr ce fe; clear hb; have S := T; clear T; have cz := S.out.z.cell; have cd := S.out.d.cell; have cr := S.out.u.cell; have ce := S.out.e.cell; have fe := S.out.e.frozen)))
      refine bodyPost_ret (v := .agg #[.int .i64 q.1, .int .i64 (-11)]) (res_c Try.results31 rfl (by (with_reducible repeat (first | exact S.out.e | apply Bk.al | apply Bk.dr | apply Bk.put' | (apply Bk.far; case hp => (simp [*] <;> omega)))); all_goals rfl) hu28 rfl (by kernel_rfl)) rfl ⟨by rfl, (by with_reducible repeat (first | exact S.out.b | refine below_drew1 ?_ | refine below_al ?_ _ | refine below_set ?_ (by simp <;> omega) _))⟩
  · have p := (HKO.out).resolve_left hk
    have p1 : (k.1 != 0) = true := by simpa using p
    have hv := HV.out
    rw [if_pos hk, if_neg (fun h => by have := h.1; simp at this)] at hv
    subst hv
    clear HV hk p
    go_wp2_with (first | (go_at_call 16; ((with_reducible refine (HZ.out _).mono ?_); rintro e w1 ⟨rfl, hb⟩; have T := Lib.hid (S.out.bel hb); clear S cz cd cr ce fe; clear hb; have S := T; clear T; have cz := S.out.z.cell; have cd := S.out.d.cell; have cr := S.out.u.cell; have ce := S.out.e.cell; have fe := S.out.e.frozen)) | (go_at_call 38; ((with_reducible refine (rAt_calls _ _ _).mono ?_); rintro e w1 ⟨rfl, hb⟩; have T := Lib.hid (S.out.bel hb); clear S cz cd cr ce fe; clear hb; have S := T; clear T; have cz := S.out.z.cell; have cd := S.out.d.cell; have cr := S.out.u.cell; have ce := S.out.e.cell; have fe := S.out.e.frozen)))
    refine bodyPost_ret (v := .agg #[.int .i64 k.1, .int .i64 (-10)]) (res_c Try.results31 rfl (by (with_reducible repeat (first | exact S.out.e | apply Bk.al | apply Bk.dr | apply Bk.put' | (apply Bk.far; case hp => (simp [*] <;> omega)))); all_goals rfl) hu28 rfl (by kernel_rfl)) rfl ⟨by rfl, (by with_reducible repeat (first | exact S.out.b | refine below_drew1 ?_ | refine below_al ?_ _ | refine below_set ?_ (by simp <;> omega) _))⟩
end Go.Proofs.Ytnjplichhkmmhaa.CalW
/- Plain laws of the days of a recurrence. No Go. -/
namespace Go.Proofs.Ytnjplichhkmmhaa.Cal
open Go.Proofs.Ytnjplichhkmmhaa.Base
set_option linter.unusedVariables false
def firstD (d : Date) : Int := dnum d.y d.mo d.d
def monthsD (d : Date) (n : Int) : Int := 12 * (ymdY n - d.y) + ymdM n - d.mo
def wdD (d : Date) : Int := wday d.y d.mo d.d
/-- whether a rule has the day n, which is not before the first one. -/
def onD (d : Date) (r : Rule) (n : Int) : Bool :=
  if r.fr = 0 then n == firstD d
  else if r.fr = 1 then (n - firstD d) % r.ev == 0
  else if r.fr = 2 then (r.wd.contains ((n - firstD d + wdD d) % 7) || ((r.wd.length : Int) == 0 && (n - firstD d + wdD d) % 7 == wdD d)) && (n - firstD d + wdD d) / 7 % r.ev == 0
  else if r.fr = 3 then ymdD n == d.d && monthsD d n % r.ev == 0
  else ymdD n == d.d && monthsD d n % (12 * r.ev) == 0
theorem ymdY_bd (n : Int) (h : -719162 ≤ n) (h' : n ≤ 800000) : 1 ≤ ymdY n ∧ ymdY n ≤ 4200 := by
  have i := ymdY_in n
  constructor
  · rcases Int.lt_or_le (ymdY n) 1 with hy | hy
    · have := ystart_mono (ymdY n + 1) 1 (by omega)
      have e : ystart 1 = -719162 := by decide
      omega
    · exact hy
  · rcases Int.lt_or_le 4200 (ymdY n) with hy | hy
    · have := ystart_mono 4200 (ymdY n) (by omega)
      have e : ystart 4200 = 814491 := by decide
      omega
    · exact hy
/-- a valid first day. -/
structure FirstOk (d : Date) : Prop where
  y0 : 3 ≤ d.y
  y1 : d.y ≤ 3980
  m0 : 1 ≤ d.mo
  m1 : d.mo ≤ 12
  d0 : 1 ≤ d.d
  d1 : d.d ≤ mlen d.y d.mo
theorem FirstOk.of {d : Date} (h : locf d = (0, 0)) (hy : d.y ≤ 3980) : FirstOk d := by
  have b := Date.ok_bd (locf_ok h).1
  have c := (locf_ok h).2.2
  exact ⟨c.1, hy, b.2.2.1, b.2.2.2.1, b.2.2.2.2.1, b.2.2.2.2.2.1⟩
theorem FirstOk.bd {d : Date} (F : FirstOk d) : -718432 ≤ firstD d ∧ firstD d ≤ 734502 := by
  obtain ⟨y0, y1, m0, m1, d0, d1⟩ := F
  have mb := mstart_bd d.y d.mo m0 m1
  have l := lp_01 d.y
  have a := ystart_mono 3 d.y y0
  have b := ystart_mono d.y 3980 y1
  have e : ystart 3 = -718432 := by decide
  have e' : ystart 3980 = 734137 := by decide
  have e2 := mstart_bd d.y d.mo m0 m1
  unfold firstD dnum
  omega
theorem FirstOk.yr {d : Date} (F : FirstOk d) {n : Int} (h : firstD d ≤ n) (h' : n ≤ firstD d + 1500) : 3 ≤ ymdY n ∧ ymdY n ≤ 3985 := by
  have b := F.bd
  have i := ymdY_in n
  constructor
  · rcases Int.lt_or_le (ymdY n) 3 with hy | hy
    · have := ystart_mono (ymdY n + 1) 3 (by omega)
      have e : ystart 3 = -718432 := by decide
      omega
    · exact hy
  · rcases Int.lt_or_le 3985 (ymdY n) with hy | hy
    · have := ystart_mono 3986 (ymdY n) (by omega)
      have e : ystart 3986 = 736329 := by decide
      omega
    · exact hy
theorem FirstOk.ymd {d : Date} (F : FirstOk d) : ymdY (firstD d) = d.y ∧ ymdM (firstD d) = d.mo ∧ ymdD (firstD d) = d.d :=
  ymd_of (firstD d) d.y d.mo d.d F.m0 F.m1 F.d0 F.d1 rfl
theorem FirstOk.months {d : Date} (F : FirstOk d) {n : Int} (h : firstD d ≤ n) : 0 ≤ monthsD d n := by
  obtain ⟨e, d1, d2⟩ := dnum_ymd n
  have mb := ymdM_bd n
  have i := ymdY_in n
  have F' := F
  obtain ⟨y0, y1, m0, m1, d0, dd1⟩ := F'
  have sb := mstart_bd d.y d.mo m0 m1
  have hy : d.y ≤ ymdY n := by
    rcases Int.lt_or_le (ymdY n) d.y with hy | hy
    · have := ystart_mono (ymdY n + 1) d.y (by omega)
      unfold firstD dnum at h
      omega
    · exact hy
  unfold monthsD
  rcases Int.lt_or_le d.y (ymdY n) with hlt | hle
  · omega
  · have hye : ymdY n = d.y := by omega
    rcases Int.lt_or_le (ymdM n) d.mo with hm | hm
    · exfalso
      have a := mlen_step d.y (ymdM n) mb.1 (by omega)
      have b := mstart_mono d.y (ymdM n + 1) d.mo (by omega) (by omega) m1
      rw [hye] at e d2
      unfold firstD at h
      unfold dnum at h e
      omega
    · omega
theorem wdD_bd (d : Date) : 0 ≤ wdD d ∧ wdD d ≤ 6 := wday_bd _ _ _
end Go.Proofs.Ytnjplichhkmmhaa.Cal
/- Walk: the reference's OnDay. -/
namespace Go.Proofs.Ytnjplichhkmmhaa.CalW
open Go.RowKit Go.Proofs.Ytnjplichhkmmhaa.Base Go.Proofs.Ytnjplichhkmmhaa.Cal
set_option linter.unusedVariables false
set_option linter.unusedSimpArgs false
/-- a date and a recurrence in memory. -/
structure OdSt (w wr : World) (dc rc : Array Value) (r : Rule) (sr : RS) : Prop where
  d : Bk wr w.heap.size 34 dc
  u : Bk wr (w.heap.size + 1) 49 rc
  a : RuleAt wr r sr
  b : Below w.heap.size w wr
theorem OdSt.bel {w wr w' : World} {dc rc : Array Value} {r : Rule} {sr : RS} (h : OdSt w wr dc rc r sr) (hb : Below wr.heap.size wr w') : OdSt w w' dc rc r sr :=
  ⟨h.d.bel hb, h.u.bel hb, h.a.bel hb, below_go h.b hb⟩
theorem OdSt.al {w wr : World} {dc rc : Array Value} {r : Rule} {sr : RS} (h : OdSt w wr dc rc r sr) (o : Obj) : OdSt w (wr.alloc o) dc rc r sr := h.bel (below_al (Below.refl _ _) _)
theorem dateof_day (n : Int) (w : World) (h1 : -719162 ≤ n) (h2 : n ≤ 741000) (hy : inR (ymdY n) 1 4000 = true) : ∃ ch cmi cs : Int,
    Calls Try.prog 43 #[.int .i64 (86400 * n), .int .i64 0] w fun e w' => e = .returned (.tuple #[.agg #[.int .i64 (ymdY n), .int .i64 (ymdM n), .int .i64 (ymdD n), .int .i64 ch, .int .i64 cmi, .int .i64 cs, .int .i64 0], .bool true]) ∧ Below w.heap.size w w' := by
  have h := dateof_calls (86400 * n) 0 w (by omega) (by omega) (by omega) (by omega)
  have e : lday (86400 * n) 0 = n := by unfold lday; omega
  have hc : civ (86400 * n) 0 = ⟨ymdY n, ymdM n, ymdD n, (civ (86400 * n) 0).h, (civ (86400 * n) 0).mi, (civ (86400 * n) 0).s, 0⟩ := by
    unfold civ; rw [e]
  generalize civ (86400 * n) 0 = c at *
  refine ⟨c.h, c.mi, c.s, ?_⟩
  rw [hc] at h
  unfold dofV at h
  dsimp only at h
  rw [hy, if_pos rfl] at h
  exact h
theorem seven {a : Int} (h : 0 ≤ a) : a.tmod 7 = a % 7 ∧ a.tdiv 7 = a / 7 := ⟨Int.tmod_eq_emod_of_nonneg h, Int.tdiv_eq_ediv_of_nonneg h⟩
set_option maxHeartbeats 2000000 in
set_option maxRecDepth 20000 in
theorem onday_calls (d : Date) (r : Rule) (sr : RS) (n : Int) (w : World) (hR : RuleAt w r sr) (F : FirstOk d) (hn : firstD d ≤ n) (hn' : n ≤ firstD d + 1500) (he : 1 ≤ r.ev) (he' : r.ev ≤ 100) (hf : inR r.fr 0 4 = true) :
    Calls Try.prog 77 #[dval d, rval r sr, .int .i64 (firstD d), .int .i64 n] w fun e w' => e = .returned (.bool (onD d r n)) ∧ Below w.heap.size w w' := by
  have bd := F.bd
  have yr := F.yr hn hn'
  have mb := ymdM_bd n
  have mn := F.months hn
  have wb := wdD_bd d
  have db := (dnum_ymd n).2
  have mlb := mlen_bd (ymdY n) (ymdM n)
  have hW := fun W => wday_calls d.y d.mo d.d W (by have := F.y0; omega) (by have := F.y1; omega) F.m0 F.m1 (by have := F.d0; omega) (by have := F.d1; have := mlen_bd d.y d.mo; omega)
  have hT := fun W => dateof_day n W (by omega) (by omega) (inR_mk (by omega) (by omega))
  have hH := fun W (A : RuleAt W r sr) x => has_calls sr.a5 r.wd sr.c5 x W A.h5 (by have := A.l5; unfold maxLen; omega)
  have y0 := F.y0
  have y1 := F.y1
  have m0 := F.m0
  have m1 := F.m1
  have hl5 := hR.l5
  generalize hv : onD d r n = v
  unfold onD at hv
  have hmo : monthsD d n = 12 * (ymdY n - d.y) + ymdM n - d.mo := rfl
  have hwd : wday d.y d.mo d.d = wdD d := rfl
  have mu : monthsD d n ≤ 100000 := by rw [hmo]; omega
  rw [hwd] at hW
  generalize firstD d = fi at *
  generalize monthsD d n = mm at *
  generalize wdD d = wk at *
  generalize ymdY n = ny at *
  generalize ymdM n = nmo at *
  generalize ymdD n = nd at *
  have yr1 := yr.1
  have yr2 := yr.2
  have mb1 := mb.1
  have mb2 := mb.2
  have wb1 := wb.1
  have wb2 := wb.2
  have bd1 := bd.1
  have bd2 := bd.2
  clear yr mb wb bd db mlb hwd F
  obtain ⟨y, mo, dd, h, mi, s, dz⟩ := d
  obtain ⟨fr, ev, ct, un, hu, wd, ex, ad⟩ := r
  obtain ⟨a5, c5, a6, c6, a7, c7⟩ := sr
  dsimp only at hv hmo y0 y1 m0 m1 he he' hf hl5 hW hH
  have hu34 := Try.underlying34
  have hu49 := Try.underlying49
  have hu35 := Try.underlying35
  have S := Lib.hid (OdSt.mk ((Bk.new w 34 #[.int .i64 y, .int .i64 mo, .int .i64 dd, .int .i64 h, .int .i64 mi, .int .i64 s, .int .i64 dz]).al (.cells #[.int .i64 fr, .int .i64 ev, .int .i64 ct, .int .i64 un, .bool hu, .slice a5 wd.length c5, .slice a6 ex.length c6, .slice a7 ad.length c7] 49)) (Bk.new' (n := w.heap.size + 1) (w.alloc (.cells #[.int .i64 y, .int .i64 mo, .int .i64 dd, .int .i64 h, .int .i64 mi, .int .i64 s, .int .i64 dz] 34)) 49 #[.int .i64 fr, .int .i64 ev, .int .i64 ct, .int .i64 un, .bool hu, .slice a5 wd.length c5, .slice a6 ex.length c6, .slice a7 ad.length c7] (by simp)) ((hR.al (.cells #[.int .i64 y, .int .i64 mo, .int .i64 dd, .int .i64 h, .int .i64 mi, .int .i64 s, .int .i64 dz] 34)).al (.cells #[.int .i64 fr, .int .i64 ev, .int .i64 ct, .int .i64 un, .bool hu, .slice a5 wd.length c5, .slice a6 ex.length c6, .slice a7 ad.length c7] 49)) (below_al (below_al (Below.refl w.heap.size w) (.cells #[.int .i64 y, .int .i64 mo, .int .i64 dd, .int .i64 h, .int .i64 mi, .int .i64 s, .int .i64 dz] 34)) (.cells #[.int .i64 fr, .int .i64 ev, .int .i64 ct, .int .i64 un, .bool hu, .slice a5 wd.length c5, .slice a6 ex.length c6, .slice a7 ad.length c7] 49)) : OdSt w ((w.alloc (.cells #[.int .i64 y, .int .i64 mo, .int .i64 dd, .int .i64 h, .int .i64 mi, .int .i64 s, .int .i64 dz] 34)).alloc (.cells #[.int .i64 fr, .int .i64 ev, .int .i64 ct, .int .i64 un, .bool hu, .slice a5 wd.length c5, .slice a6 ex.length c6, .slice a7 ad.length c7] 49)) #[.int .i64 y, .int .i64 mo, .int .i64 dd, .int .i64 h, .int .i64 mi, .int .i64 s, .int .i64 dz] #[.int .i64 fr, .int .i64 ev, .int .i64 ct, .int .i64 un, .bool hu, .slice a5 wd.length c5, .slice a6 ex.length c6, .slice a7 ad.length c7] ⟨fr, ev, ct, un, hu, wd, ex, ad⟩ ⟨a5, c5, a6, c6, a7, c7⟩)
  have HV := Lib.hid hv
  have HW := Lib.hid hW
  have HH := Lib.hid hH
  have HMO := Lib.hid hmo
  clear hv hW hH hmo hR
  go_enter Try.func77, Try.ntmps77
  go_upto_region 1 with fail
  generalize (w.alloc (.cells #[.int .i64 y, .int .i64 mo, .int .i64 dd, .int .i64 h, .int .i64 mi, .int .i64 s, .int .i64 dz] 34)).alloc (.cells #[.int .i64 fr, .int .i64 ev, .int .i64 ct, .int .i64 un, .bool hu, .slice a5 wd.length c5, .slice a6 ex.length c6, .slice a7 ad.length c7] 49) = w0 at *
  have cd := S.out.d.cell; have cr := S.out.u.cell
  obtain ⟨nh, nmi, ns, hT0⟩ := hT w0
  have HT := Lib.hid hT0
  clear hT hT0
  go_upto_region 2 with (go_at_call 43; ((with_reducible refine (HT.out).mono ?_); rintro e w1 ⟨rfl, hb⟩; have T := Lib.hid (S.out.bel hb); clear S cd cr; clear hb; have S := T; clear T; have cd := S.out.d.cell; have cr := S.out.u.cell))
  have T := Lib.hid (S.out.al (.cells #[.int .i64 ny, .int .i64 nmo, .int .i64 nd, .int .i64 nh, .int .i64 nmi, .int .i64 ns, .int .i64 0] 34))
  have K := Lib.hid (Bk.new w1 34 #[.int .i64 ny, .int .i64 nmo, .int .i64 nd, .int .i64 nh, .int .i64 nmi, .int .i64 ns, .int .i64 0])
  clear S cd cr
  have S := T
  clear T HT
  generalize w1.heap.size = gn at *
  generalize w1.alloc (.cells #[.int .i64 ny, .int .i64 nmo, .int .i64 nd, .int .i64 nh, .int .i64 nmi, .int .i64 ns, .int .i64 0] 34) = w2 at *
  clear w0 w1
  have cd := S.out.d.cell; have cr := S.out.u.cell
  have kn := K.out.cell
  go_cut [11] (fun s11 wx => s11 = .int .i64 mm ∧ wx = w2)
  case first =>
    go_wp2_with fail
    go_meet
    exact ⟨int_ty (by rw [HMO.out]), rfl⟩
  case rest =>
    obtain ⟨rfl, rfl⟩ := hcut
    have hfr := inR_t hf
    have h5 : fr = 0 ∨ fr = 1 ∨ fr = 2 ∨ fr = 3 ∨ fr = 4 := by omega
    clear hfr hf HMO
    have p0 : 0 ≤ n - fi := by omega
    have p7 : 0 ≤ n - fi + wk := by omega
    rcases h5 with rfl | rfl | rfl | rfl | rfl
    · go_wp2
      go_ret
      exact ⟨ret_bool (by rw [← HV.out]; rfl), (by with_reducible repeat (first | exact S.out.b | refine below_drew1 ?_ | refine below_al ?_ _ | refine below_set ?_ (by simp <;> omega) _))⟩
    · go_wp2
      go_ret
      exact ⟨ret_bool (by rw [← HV.out]; rfl), (by with_reducible repeat (first | exact S.out.b | refine below_drew1 ?_ | refine below_al ?_ _ | refine below_set ?_ (by simp <;> omega) _))⟩
    · have hv := HV.out
      rw [if_neg (by omega), if_neg (by omega), if_pos rfl] at hv
      clear HV
      by_cases hz : wd = []
      · subst hz
        have hx := fun W A => HH.out W A ((n - fi + wk) % 7)
        rw [show ([] : List Int).contains ((n - fi + wk) % 7) = false from rfl] at hx
        simp only [List.length_nil] at hx
        have HX := Lib.hid hx
        have HV := Lib.hid hv
        clear hx HH hv
        rcases tf ((n - fi + wk) % 7 == wk) with h3 | h3
        · go_wp2_with (first | (go_at_call 97; ((with_reducible refine (HW.out _).mono ?_); rintro e w1 ⟨rfl, hb⟩; have T := Lib.hid (S.out.bel hb); clear S cd cr; clear hb; have S := T; clear T; have cd := S.out.d.cell; have cr := S.out.u.cell)) | (go_at_call 26; ((with_reducible refine (HX.out _ S.out.a).mono ?_); rintro e w2 ⟨rfl, rfl⟩)))
          go_ret
          exact ⟨ret_bool (by rw [← HV.out, h3]; simp), (by with_reducible repeat (first | exact S.out.b | refine below_drew1 ?_ | refine below_al ?_ _ | refine below_set ?_ (by simp <;> omega) _))⟩
        · go_wp2_with (first | (go_at_call 97; ((with_reducible refine (HW.out _).mono ?_); rintro e w1 ⟨rfl, hb⟩; have T := Lib.hid (S.out.bel hb); clear S cd cr; clear hb; have S := T; clear T; have cd := S.out.d.cell; have cr := S.out.u.cell)) | (go_at_call 26; ((with_reducible refine (HX.out _ S.out.a).mono ?_); rintro e w2 ⟨rfl, rfl⟩)))
          go_ret
          exact ⟨ret_bool (by rw [← HV.out, h3]; simp), (by with_reducible repeat (first | exact S.out.b | refine below_drew1 ?_ | refine below_al ?_ _ | refine below_set ?_ (by simp <;> omega) _))⟩
      · have hl0 : ((wd.length : Nat) : Int) ≠ 0 := by
          have := List.length_pos_iff.2 hz
          omega
        have hl1 : (((wd.length : Nat) : Int) == 0) = false := by simpa using hl0
        have hl2 : 0 < wd.length := List.length_pos_iff.2 hz
        rw [hl1] at hv
        rcases tf (wd.contains ((n - fi + wk) % 7)) with hc | hc
        · have hx := fun W A => HH.out W A ((n - fi + wk) % 7)
          rw [hc] at hx hv
          have HX := Lib.hid hx
          have HV := Lib.hid hv
          clear hx HH hv hz hl0 hc
          go_wp2_with (first | (go_at_call 97; ((with_reducible refine (HW.out _).mono ?_); rintro e w1 ⟨rfl, hb⟩; have T := Lib.hid (S.out.bel hb); clear S cd cr; clear hb; have S := T; clear T; have cd := S.out.d.cell; have cr := S.out.u.cell)) | (go_at_call 26; ((with_reducible refine (HX.out _ S.out.a).mono ?_); rintro e w2 ⟨rfl, rfl⟩)))
          go_ret
          exact ⟨ret_bool (by rw [← HV.out]; simp), (by with_reducible repeat (first | exact S.out.b | refine below_drew1 ?_ | refine below_al ?_ _ | refine below_set ?_ (by simp <;> omega) _))⟩
        · have hx := fun W A => HH.out W A ((n - fi + wk) % 7)
          rw [hc] at hx hv
          have HX := Lib.hid hx
          have HV := Lib.hid hv
          clear hx HH hv hz hl0 hc
          go_wp2_with (first | (go_at_call 97; ((with_reducible refine (HW.out _).mono ?_); rintro e w1 ⟨rfl, hb⟩; have T := Lib.hid (S.out.bel hb); clear S cd cr; clear hb; have S := T; clear T; have cd := S.out.d.cell; have cr := S.out.u.cell)) | (go_at_call 26; ((with_reducible refine (HX.out _ S.out.a).mono ?_); rintro e w2 ⟨rfl, rfl⟩)))
          go_ret
          exact ⟨ret_bool (by rw [← HV.out]; simp), (by with_reducible repeat (first | exact S.out.b | refine below_drew1 ?_ | refine below_al ?_ _ | refine below_set ?_ (by simp <;> omega) _))⟩
    · rcases tf (nd == dd) with h3 | h3
      · go_wp2
        go_ret
        exact ⟨ret_bool (by rw [← HV.out]; simp [h3]), (by with_reducible repeat (first | exact S.out.b | refine below_drew1 ?_ | refine below_al ?_ _ | refine below_set ?_ (by simp <;> omega) _))⟩
      · go_wp2
        go_ret
        exact ⟨ret_bool (by rw [← HV.out]; simp [h3]), (by with_reducible repeat (first | exact S.out.b | refine below_drew1 ?_ | refine below_al ?_ _ | refine below_set ?_ (by simp <;> omega) _))⟩
    · rcases tf (nd == dd) with h3 | h3
      · go_wp2
        go_ret
        exact ⟨ret_bool (by rw [← HV.out]; simp [h3]), (by with_reducible repeat (first | exact S.out.b | refine below_drew1 ?_ | refine below_al ?_ _ | refine below_set ?_ (by simp <;> omega) _))⟩
      · go_wp2
        go_ret
        exact ⟨ret_bool (by rw [← HV.out]; simp [h3]), (by with_reducible repeat (first | exact S.out.b | refine below_drew1 ?_ | refine below_al ?_ _ | refine below_set ?_ (by simp <;> omega) _))⟩
end Go.Proofs.Ytnjplichhkmmhaa.CalW
