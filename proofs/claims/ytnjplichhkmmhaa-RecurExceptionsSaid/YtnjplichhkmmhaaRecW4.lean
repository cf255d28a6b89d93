import Derived.Test.YtnjplichhkmmhaaRecW3
/- Walk: the reference's RuleFault. -/
namespace Go.Proofs.Ytnjplichhkmmhaa.CalW
open Go.RowKit Go.Proofs.Ytnjplichhkmmhaa.Base Go.Proofs.Ytnjplichhkmmhaa.Cal
set_option linter.unusedVariables false
set_option linter.unusedSimpArgs false
theorem chk_in {t : Int} : (chk t = (0, 0)) ↔ inR t (-68719476736) 68719476736 = true := by
  unfold chk
  constructor
  · intro h
    split at h
    · assumption
    · simp at h
  · intro h
    rw [if_pos h]
theorem chk_out {t : Int} : (chk t ≠ (0, 0)) ↔ inR t (-68719476736) 68719476736 = false := by
  rw [Ne, chk_in]; simp
set_option maxHeartbeats 4000000 in
set_option maxRecDepth 20000 in
theorem rulefault_calls (r : Rule) (s : RS) (w : World) (h : RuleAt w r s) :
    Calls Try.prog 29 #[rval r s] w fun e w' => e = .returned (fval r.fault) ∧ Below w.heap.size w w' := by
  generalize hv : r.fault = v
  unfold Rule.fault at hv
  obtain ⟨fr, ev, ct, un, hu, wd, ex, ad⟩ := r
  obtain ⟨a5, c5, a6, c6, a7, c7⟩ := s
  dsimp only at hv
  have hu49 := Try.underlying49
  have hu28 := Try.underlying28
  have hu35 := Try.underlying35
  have hl5 := h.l5
  dsimp only at hl5
  have S := Lib.hid (VSt.mk ((Bk.new w 49 #[.int .i64 fr, .int .i64 ev, .int .i64 ct, .int .i64 un, .bool hu, .slice a5 wd.length c5, .slice a6 ex.length c6, .slice a7 ad.length c7]).al (.cells #[.int .i64 0, .int .i64 0] 28)) (Bk.new' (n := w.heap.size + 1) (w.alloc (.cells #[.int .i64 fr, .int .i64 ev, .int .i64 ct, .int .i64 un, .bool hu, .slice a5 wd.length c5, .slice a6 ex.length c6, .slice a7 ad.length c7] 49)) 28 #[.int .i64 0, .int .i64 0] (by simp)) ((h.al (.cells #[.int .i64 fr, .int .i64 ev, .int .i64 ct, .int .i64 un, .bool hu, .slice a5 wd.length c5, .slice a6 ex.length c6, .slice a7 ad.length c7] 49)).al (.cells #[.int .i64 0, .int .i64 0] 28)) (below_al (below_al (Below.refl w.heap.size w) (.cells #[.int .i64 fr, .int .i64 ev, .int .i64 ct, .int .i64 un, .bool hu, .slice a5 wd.length c5, .slice a6 ex.length c6, .slice a7 ad.length c7] 49)) (.cells #[.int .i64 0, .int .i64 0] 28)) : VSt w ((w.alloc (.cells #[.int .i64 fr, .int .i64 ev, .int .i64 ct, .int .i64 un, .bool hu, .slice a5 wd.length c5, .slice a6 ex.length c6, .slice a7 ad.length c7] 49)).alloc (.cells #[.int .i64 0, .int .i64 0] 28)) w.heap.size (w.heap.size + 1) #[.int .i64 fr, .int .i64 ev, .int .i64 ct, .int .i64 un, .bool hu, .slice a5 wd.length c5, .slice a6 ex.length c6, .slice a7 ad.length c7] #[.int .i64 0, .int .i64 0] ⟨fr, ev, ct, un, hu, wd, ex, ad⟩ ⟨a5, c5, a6, c6, a7, c7⟩)
  have HV := Lib.hid hv
  clear hv h
  go_enter Try.func29, Try.ntmps29
  go_upto_region 1 with fail
  generalize (w.alloc (.cells #[.int .i64 fr, .int .i64 ev, .int .i64 ct, .int .i64 un, .bool hu, .slice a5 wd.length c5, .slice a6 ex.length c6, .slice a7 ad.length c7] 49)).alloc (.cells #[.int .i64 0, .int .i64 0] 28) = w0 at *
  have cr := S.out.z.cell
  have ce := S.out.e.cell
  have fe := S.out.e.frozen
  refine (tf (inR fr 0 4)).elim (fun h1 => ?_) fun h1 => ?_
  · have hv := HV.out
    rw [if_pos h1] at hv
    subst hv
    clear HV
    go_wp2_with (first | (go_at_call 24; ((with_reducible refine (rIn_is h1 _).mono ?_); rintro e w' ⟨rfl, rfl⟩)) | (go_at_call 38; refine (rAt_calls _ _ _).mono ?_; rintro e w1 ⟨rfl, hb⟩; have T := Lib.hid (S.out.bel hb); clear S cr ce fe; have S := T; clear T; have cr := S.out.z.cell; have ce := S.out.e.cell; have fe := S.out.e.frozen))
    refine bodyPost_ret (v := .agg #[.int .i64 4, .int .i64 (-3)]) (res_c Try.results29 rfl (by (with_reducible repeat (first | exact S.out.e | apply Bk.al | apply Bk.dr | apply Bk.put' | (apply Bk.far; case hp => (simp [*] <;> omega)))); all_goals rfl) hu28 rfl (by kernel_rfl)) rfl ⟨by rfl, (by with_reducible repeat (first | exact S.out.b | refine below_drew1 ?_ | refine below_al ?_ _ | refine below_set ?_ (by simp <;> omega) _))⟩
  refine (tf (inR ev 1 100)).elim (fun h2 => ?_) fun h2 => ?_
  · have hv := HV.out
    rw [if_neg (by rw [h1]; simp), if_pos h2] at hv
    subst hv
    clear HV
    go_wp2_with (first | (go_at_call 24; ((with_reducible refine (rIn_is h1 _).mono ?_); rintro e w' ⟨rfl, rfl⟩)) | (go_at_call 24; ((with_reducible refine (rIn_is h2 _).mono ?_); rintro e w' ⟨rfl, rfl⟩)) | (go_at_call 38; refine (rAt_calls _ _ _).mono ?_; rintro e w1 ⟨rfl, hb⟩; have T := Lib.hid (S.out.bel hb); clear S cr ce fe; have S := T; clear T; have cr := S.out.z.cell; have ce := S.out.e.cell; have fe := S.out.e.frozen))
    refine bodyPost_ret (v := .agg #[.int .i64 3, .int .i64 (-4)]) (res_c Try.results29 rfl (by (with_reducible repeat (first | exact S.out.e | apply Bk.al | apply Bk.dr | apply Bk.put' | (apply Bk.far; case hp => (simp [*] <;> omega)))); all_goals rfl) hu28 rfl (by kernel_rfl)) rfl ⟨by rfl, (by with_reducible repeat (first | exact S.out.b | refine below_drew1 ?_ | refine below_al ?_ _ | refine below_set ?_ (by simp <;> omega) _))⟩
  refine (tf (inR ct 0 1500)).elim (fun h3 => ?_) fun h3 => ?_
  · have hv := HV.out
    rw [if_neg (by rw [h1]; simp), if_neg (by rw [h2]; simp), if_pos h3] at hv
    subst hv
    clear HV
    go_wp2_with (first | (go_at_call 24; ((with_reducible refine (rIn_is h1 _).mono ?_); rintro e w' ⟨rfl, rfl⟩)) | (go_at_call 24; ((with_reducible refine (rIn_is h2 _).mono ?_); rintro e w' ⟨rfl, rfl⟩)) | (go_at_call 24; ((with_reducible refine (rIn_is h3 _).mono ?_); rintro e w' ⟨rfl, rfl⟩)) | (go_at_call 38; refine (rAt_calls _ _ _).mono ?_; rintro e w1 ⟨rfl, hb⟩; have T := Lib.hid (S.out.bel hb); clear S cr ce fe; have S := T; clear T; have cr := S.out.z.cell; have ce := S.out.e.cell; have fe := S.out.e.frozen))
    refine bodyPost_ret (v := .agg #[.int .i64 3, .int .i64 (-5)]) (res_c Try.results29 rfl (by (with_reducible repeat (first | exact S.out.e | apply Bk.al | apply Bk.dr | apply Bk.put' | (apply Bk.far; case hp => (simp [*] <;> omega)))); all_goals rfl) hu28 rfl (by kernel_rfl)) rfl ⟨by rfl, (by with_reducible repeat (first | exact S.out.b | refine below_drew1 ?_ | refine below_al ?_ _ | refine below_set ?_ (by simp <;> omega) _))⟩
  have hv := HV.out
  rw [if_neg (by rw [h1]; simp), if_neg (by rw [h2]; simp), if_neg (by rw [h3]; simp)] at hv
  clear HV
  have HV := Lib.hid hv
  clear hv
  go_upto_region 7 with (first | (go_at_call 24; ((with_reducible refine (rIn_is h1 _).mono ?_); rintro e w' ⟨rfl, rfl⟩)) | (go_at_call 24; ((with_reducible refine (rIn_is h2 _).mono ?_); rintro e w' ⟨rfl, rfl⟩)) | (go_at_call 24; ((with_reducible refine (rIn_is h3 _).mono ?_); rintro e w' ⟨rfl, rfl⟩)))
  clear h1 h2 h3
  by_cases hbad : hu = true ∧ chk un ≠ (0, 0)
  · obtain ⟨rfl, h4⟩ := hbad
    have hv := HV.out
    rw [if_pos ⟨rfl, h4⟩] at hv
    subst hv
    have h5 := chk_out.1 h4
    clear HV h4
    go_wp2_with (first | (go_at_call 24; ((with_reducible refine (rIn_is h5 _).mono ?_); rintro e w' ⟨rfl, rfl⟩)) | (go_at_call 38; refine (rAt_calls _ _ _).mono ?_; rintro e w1 ⟨rfl, hb⟩; have T := Lib.hid (S.out.bel hb); clear S cr ce fe; have S := T; clear T; have cr := S.out.z.cell; have ce := S.out.e.cell; have fe := S.out.e.frozen))
    refine bodyPost_ret (v := .agg #[.int .i64 3, .int .i64 (-6)]) (res_c Try.results29 rfl (by (with_reducible repeat (first | exact S.out.e | apply Bk.al | apply Bk.dr | apply Bk.put' | (apply Bk.far; case hp => (simp [*] <;> omega)))); all_goals rfl) hu28 rfl (by kernel_rfl)) rfl ⟨by rfl, (by with_reducible repeat (first | exact S.out.b | refine below_drew1 ?_ | refine below_al ?_ _ | refine below_set ?_ (by simp <;> omega) _))⟩
  by_cases hbad2 : hu = false ∧ un ≠ 0
  · obtain ⟨rfl, h4⟩ := hbad2
    have hv := HV.out
    rw [if_neg hbad, if_pos ⟨rfl, h4⟩] at hv
    subst hv
    have p1 : (un != 0) = true := by simpa using h4
    clear HV h4 hbad
    go_wp2_with (go_at_call 38; refine (rAt_calls _ _ _).mono ?_; rintro e w1 ⟨rfl, hb⟩; have T := Lib.hid (S.out.bel hb); clear S cr ce fe; have S := T; clear T; have cr := S.out.z.cell; have ce := S.out.e.cell; have fe := S.out.e.frozen)
    refine bodyPost_ret (v := .agg #[.int .i64 5, .int .i64 (-6)]) (res_c Try.results29 rfl (by (with_reducible repeat (first | exact S.out.e | apply Bk.al | apply Bk.dr | apply Bk.put' | (apply Bk.far; case hp => (simp [*] <;> omega)))); all_goals rfl) hu28 rfl (by kernel_rfl)) rfl ⟨by rfl, (by with_reducible repeat (first | exact S.out.b | refine below_drew1 ?_ | refine below_al ?_ _ | refine below_set ?_ (by simp <;> omega) _))⟩
  have hv := HV.out
  rw [if_neg hbad, if_neg hbad2] at hv
  clear HV
  have HV := Lib.hid hv
  clear hv
  have hok : (hu = true ∧ chk un = (0, 0)) ∨ (hu = false ∧ un = 0) := by
    cases hu
    · exact .inr ⟨rfl, Classical.byContradiction fun h => hbad2 ⟨rfl, h⟩⟩
    · exact .inl ⟨rfl, Classical.byContradiction fun h => hbad ⟨rfl, h⟩⟩
  clear hbad hbad2
  rcases hok with ⟨rfl, hok⟩ | ⟨rfl, rfl⟩
  · have h5 := chk_in.1 hok
    clear hok
    go_upto_region 11 with (go_at_call 24; ((with_reducible refine (rIn_is h5 _).mono ?_); rintro e w' ⟨rfl, rfl⟩))
    clear h5
    have hwd : wdF ⟨fr, ev, ct, un, true, wd, ex, ad⟩ = if 0 < wd.length ∧ fr ≠ 2 then 5 else firstC (incC 0 6 wd) wd.length := rfl
    generalize wdF ⟨fr, ev, ct, un, true, wd, ex, ad⟩ = e5 at *
    generalize hc6 : instF ex = e6 at *
    generalize hc7 : instF ad = e7 at *
    have W6 := fun W (A : RuleAt W ⟨fr, ev, ct, un, true, wd, ex, ad⟩ ⟨a5, c5, a6, c6, a7, c7⟩) => icode_calls a6 ex c6 W A.h6 (by have := A.l6; dsimp only at this; unfold maxLen; omega) A.i6
    rw [hc6] at W6
    have W7 := fun W (A : RuleAt W ⟨fr, ev, ct, un, true, wd, ex, ad⟩ ⟨a5, c5, a6, c6, a7, c7⟩) => icode_calls a7 ad c7 W A.h7 (by have := A.l7; dsimp only at this; unfold maxLen; omega) A.i7
    rw [hc7] at W7
    have HW6 := Lib.hid W6
    have HW7 := Lib.hid W7
    have HWD := Lib.hid hwd
    clear W6 W7 hc6 hc7 hwd
    by_cases hb : 0 < wd.length ∧ fr ≠ 2
    · obtain ⟨h0, h2⟩ := hb
      have g1 : (fr != 2) = true := by simpa using h2
      have g2 : (0 : Int) < (wd.length : Int) := by omega
      have he := HWD.out
      rw [if_pos ⟨h0, h2⟩] at he
      subst he
      have hv := HV.out
      rw [if_pos (by simp)] at hv
      subst hv
      clear HV HWD h2
      go_wp2_with (go_at_call 38; refine (rAt_calls _ _ _).mono ?_; rintro e w1 ⟨rfl, hb⟩; have T := Lib.hid (S.out.bel hb); clear S cr ce fe; have S := T; clear T; have cr := S.out.z.cell; have ce := S.out.e.cell; have fe := S.out.e.frozen)
      refine bodyPost_ret (v := .agg #[.int .i64 5, .int .i64 (-7)]) (res_c Try.results29 rfl (by (with_reducible repeat (first | exact S.out.e | apply Bk.al | apply Bk.dr | apply Bk.put' | (apply Bk.far; case hp => (simp [*] <;> omega)))); all_goals rfl) hu28 rfl (by kernel_rfl)) rfl ⟨by rfl, (by with_reducible repeat (first | exact S.out.b | refine below_drew1 ?_ | refine below_al ?_ _ | refine below_set ?_ (by simp <;> omega) _))⟩
    · have he := HWD.out
      rw [if_neg hb] at he
      clear HWD
      have HWD := Lib.hid he
      clear he
      have hcase : wd.length ≤ 0 ∨ (0 < wd.length ∧ fr = 2) := by
        rcases Nat.eq_zero_or_pos wd.length with h | h
        · exact .inl (by omega)
        · exact .inr ⟨h, Classical.byContradiction fun h' => hb ⟨h, h'⟩⟩
      clear hb
      rcases hcase with hz | ⟨h0, h2⟩
      · have g2 : (wd.length : Int) ≤ 0 := by omega
        go_upto_region 14 with fail
        go_loopw [3] (fun i wr => ∃ k : Nat, k ≤ wd.length ∧ i = .int .i64 k ∧ Hid (firstC (incC 0 6 wd) k = 0) ∧ Hid (VSt w wr w.heap.size (w.heap.size + 1) #[.int .i64 fr, .int .i64 ev, .int .i64 ct, .int .i64 un, .bool true, .slice a5 wd.length c5, .slice a6 ex.length c6, .slice a7 ad.length c7] #[.int .i64 0, .int .i64 0] ⟨fr, ev, ct, un, true, wd, ex, ad⟩ ⟨a5, c5, a6, c6, a7, c7⟩)) (fun i _ => wd.length - (intOf i).toNat)
        case atStart => exact ⟨0, Nat.zero_le _, rfl, Lib.hid rfl, S⟩
        case round =>
          clear S cr ce fe
          obtain ⟨k, hk, rfl, HF, S⟩ := hrel
          have cr := S.out.z.cell
          have ce := S.out.e.cell
          have fe := S.out.e.frozen
          by_cases hlt : k < wd.length
          · exact absurd hlt (by omega)
          · have he := HWD.out
            have hkk : k = wd.length := by omega
            rw [← hkk, HF.out] at he
            subst he
            have hv := HV.out
            rw [if_neg (by simp)] at hv
            clear HV HWD HF hkk
            by_cases hz : e6 = 0
            · subst hz
              rw [if_neg (by simp)] at hv
              by_cases hz : e7 = 0
              · subst hz
                rw [if_neg (by simp)] at hv
                subst hv
                go_wp2_with (first | ((with_reducible refine (HW6.out _ S.out.a).mono ?_); rintro e w1 ⟨rfl, hb⟩; have T := Lib.hid (S.out.bel hb); clear S cr ce fe; have S := T; clear T; have cr := S.out.z.cell; have ce := S.out.e.cell; have fe := S.out.e.frozen) | ((with_reducible refine (HW7.out _ S.out.a).mono ?_); rintro e w1 ⟨rfl, hb⟩; have T := Lib.hid (S.out.bel hb); clear S cr ce fe; have S := T; clear T; have cr := S.out.z.cell; have ce := S.out.e.cell; have fe := S.out.e.frozen) | (go_at_call 38; refine (rAt_calls _ _ _).mono ?_; rintro e w1 ⟨rfl, hb⟩; have T := Lib.hid (S.out.bel hb); clear S cr ce fe; have S := T; clear T; have cr := S.out.z.cell; have ce := S.out.e.cell; have fe := S.out.e.frozen))
                refine bodyPost_ret (v := .agg #[.int .i64 0, .int .i64 0]) (res_c Try.results29 rfl (by (with_reducible repeat (first | exact S.out.e | apply Bk.al | apply Bk.dr | apply Bk.put' | (apply Bk.far; case hp => (simp [*] <;> omega)))); all_goals rfl) hu28 rfl (by kernel_rfl)) rfl ⟨by rfl, (by with_reducible repeat (first | exact S.out.b | refine below_drew1 ?_ | refine below_al ?_ _ | refine below_set ?_ (by simp <;> omega) _))⟩
              · have p1 : (e7 != 0) = true := by simpa using hz
                rw [if_pos hz] at hv
                subst hv
                clear hz
                go_wp2_with (first | ((with_reducible refine (HW6.out _ S.out.a).mono ?_); rintro e w1 ⟨rfl, hb⟩; have T := Lib.hid (S.out.bel hb); clear S cr ce fe; have S := T; clear T; have cr := S.out.z.cell; have ce := S.out.e.cell; have fe := S.out.e.frozen) | ((with_reducible refine (HW7.out _ S.out.a).mono ?_); rintro e w1 ⟨rfl, hb⟩; have T := Lib.hid (S.out.bel hb); clear S cr ce fe; have S := T; clear T; have cr := S.out.z.cell; have ce := S.out.e.cell; have fe := S.out.e.frozen) | (go_at_call 38; refine (rAt_calls _ _ _).mono ?_; rintro e w1 ⟨rfl, hb⟩; have T := Lib.hid (S.out.bel hb); clear S cr ce fe; have S := T; clear T; have cr := S.out.z.cell; have ce := S.out.e.cell; have fe := S.out.e.frozen))
                refine bodyPost_ret (v := .agg #[.int .i64 e7, .int .i64 (-9)]) (res_c Try.results29 rfl (by (with_reducible repeat (first | exact S.out.e | apply Bk.al | apply Bk.dr | apply Bk.put' | (apply Bk.far; case hp => (simp [*] <;> omega)))); all_goals rfl) hu28 rfl (by kernel_rfl)) rfl ⟨by rfl, (by with_reducible repeat (first | exact S.out.b | refine below_drew1 ?_ | refine below_al ?_ _ | refine below_set ?_ (by simp <;> omega) _))⟩
            · have p1 : (e6 != 0) = true := by simpa using hz
              rw [if_pos hz] at hv
              subst hv
              clear hz
              go_wp2_with (first | ((with_reducible refine (HW6.out _ S.out.a).mono ?_); rintro e w1 ⟨rfl, hb⟩; have T := Lib.hid (S.out.bel hb); clear S cr ce fe; have S := T; clear T; have cr := S.out.z.cell; have ce := S.out.e.cell; have fe := S.out.e.frozen) | ((with_reducible refine (HW7.out _ S.out.a).mono ?_); rintro e w1 ⟨rfl, hb⟩; have T := Lib.hid (S.out.bel hb); clear S cr ce fe; have S := T; clear T; have cr := S.out.z.cell; have ce := S.out.e.cell; have fe := S.out.e.frozen) | (go_at_call 38; refine (rAt_calls _ _ _).mono ?_; rintro e w1 ⟨rfl, hb⟩; have T := Lib.hid (S.out.bel hb); clear S cr ce fe; have S := T; clear T; have cr := S.out.z.cell; have ce := S.out.e.cell; have fe := S.out.e.frozen))
              refine bodyPost_ret (v := .agg #[.int .i64 e6, .int .i64 (-8)]) (res_c Try.results29 rfl (by (with_reducible repeat (first | exact S.out.e | apply Bk.al | apply Bk.dr | apply Bk.put' | (apply Bk.far; case hp => (simp [*] <;> omega)))); all_goals rfl) hu28 rfl (by kernel_rfl)) rfl ⟨by rfl, (by with_reducible repeat (first | exact S.out.b | refine below_drew1 ?_ | refine below_al ?_ _ | refine below_set ?_ (by simp <;> omega) _))⟩
      · have g2 : (0 : Int) < (wd.length : Int) := by omega
        have g0 : (fr != 2) = false := by simpa using h2
        clear h2
        go_upto_region 14 with fail
        go_loopw [3] (fun i wr => ∃ k : Nat, k ≤ wd.length ∧ i = .int .i64 k ∧ Hid (firstC (incC 0 6 wd) k = 0) ∧ Hid (VSt w wr w.heap.size (w.heap.size + 1) #[.int .i64 fr, .int .i64 ev, .int .i64 ct, .int .i64 un, .bool true, .slice a5 wd.length c5, .slice a6 ex.length c6, .slice a7 ad.length c7] #[.int .i64 0, .int .i64 0] ⟨fr, ev, ct, un, true, wd, ex, ad⟩ ⟨a5, c5, a6, c6, a7, c7⟩)) (fun i _ => wd.length - (intOf i).toNat)
        case atStart => exact ⟨0, Nat.zero_le _, rfl, Lib.hid rfl, S⟩
        case round =>
          clear S cr ce fe
          obtain ⟨k, hk, rfl, HF, S⟩ := hrel
          have cr := S.out.z.cell
          have ce := S.out.e.cell
          have fe := S.out.e.frozen
          by_cases hlt : k < wd.length
          · have i1 : (0 : Int) ≤ (k : Int) := by omega
            have i2 : (k : Int) < (wd.length : Int) := by omega
            obtain ⟨ad', rfl, hre⟩ := rd_all S.out.a.h5 hlt
            have ca := hre _ (Below.refl _ _) k hlt
            have HRE := Lib.hid hre
            clear hre
            dsimp only at ca
            generalize hx : wd[k] = x at *
            refine (tf (inR x 0 6)).elim (fun hin => ?_) fun hin => ?_
            · have hc3 : firstC (incC 0 6 wd) wd.length = 3 := by
                have e := incC_out (lo := 0) (hi := 6) hlt (by rw [hx]; exact inR_f hin)
                rw [firstC_at HF.out hlt (by rw [e]; simp), e]
              have he := HWD.out
              rw [hc3] at he
              subst he
              have hv := HV.out
              rw [if_pos (by simp)] at hv
              subst hv
              clear HV HWD hc3 hx
              go_wp2_with (first | (go_at_call 24; ((with_reducible refine (rIn_is hin _).mono ?_); rintro e w' ⟨rfl, rfl⟩)) | (go_at_call 38; refine (rAt_calls _ _ _).mono ?_; rintro e w1 ⟨rfl, hb⟩; have T := Lib.hid (S.out.bel hb); clear S cr ce fe; have S := T; clear T; have cr := S.out.z.cell; have ce := S.out.e.cell; have fe := S.out.e.frozen))
              refine bodyPost_ret (v := .agg #[.int .i64 3, .int .i64 (-7)]) (res_c Try.results29 rfl (by (with_reducible repeat (first | exact S.out.e | apply Bk.al | apply Bk.dr | apply Bk.put' | (apply Bk.far; case hp => (simp [*] <;> omega)))); all_goals rfl) hu28 rfl (by kernel_rfl)) rfl ⟨by rfl, (by with_reducible repeat (first | exact S.out.b | refine below_drew1 ?_ | refine below_al ?_ _ | refine below_set ?_ (by simp <;> omega) _))⟩
            · have hin' := inR_t hin
              rcases Nat.eq_zero_or_pos k with h0' | h0'
              · have g1 : (k : Int) ≤ 0 := by omega
                have g3 : decide ((0 : Int) < (k : Int)) = false := by simp; omega
                have g4 : decide (0 < k) = false := by simp; omega
                have hc0 : firstC (incC 0 6 wd) (k + 1) = 0 := by
                  rw [firstC_step HF.out]
                  subst h0'
                  exact incC_zero hlt (by rw [hx]; omega) (by rw [hx]; omega)
                have HC := Lib.hid hc0
                clear hc0 hx h0' hin'
                go_wp2_with (go_at_call 24; ((with_reducible refine (rIn_is hin _).mono ?_); rintro e w' ⟨rfl, rfl⟩))
                have sr := S.out.z.s
                refine wp_region_bel (by kernel_rfl) (by kernel_rfl) ?_
                repeat (go_big_quiet_step (fail))
                refine wpQuiet_nil ?_
                rintro _ ⟨s0, rfl⟩
                have T := Lib.hid (S.out.bel s0.below)
                clear S cr ce fe
                have S := T
                clear T
                generalize s0.w = w2 at *
                clear s0 sr
                have cr := S.out.z.cell
                have ce := S.out.e.cell
                have fe := S.out.e.frozen
                go_wp2
                exact ⟨⟨k + 1, by omega, by go_num, HC, S⟩, by simp [intOf]; omega⟩
              · have g1 : 0 < (k : Int) := by omega
                have g3 : decide ((0 : Int) < (k : Int)) = true := by simp; omega
                have g4 : decide (0 < k) = true := by simp; omega
                have hst : firstC (incC 0 6 wd) (k + 1) = if x ≤ wd[k - 1] then 19 else 0 := by
                  rw [firstC_step HF.out, incC_in hlt h0' (by rw [hx]; omega) (by rw [hx]; omega), hx]
                have hlp : k - 1 < wd.length := by omega
                obtain ⟨j, hj⟩ : ∃ j : Nat, j = k - 1 := ⟨_, rfl⟩
                generalize hy : wd[k - 1] = y at *
                have hr1 : ∀ s : Bel wr, s.w.cell? (ad'.add k) = some (.int .i64 x) := fun s => by have := HRE.out s.w s.below _ hlt; rw [← hx]; exact this
                have hr2 : ∀ s : Bel wr, s.w.cell? (ad'.add j) = some (.int .i64 y) := fun s => by subst hj; have := HRE.out s.w s.below _ hlp; rw [← hy]; exact this
                have g5 : IntKind.i64.wrap ((k : Int) - 1) = (j : Int) := by rw [i64_id (by omega)]; omega
                have g6 : (0 : Int) ≤ (j : Int) := by omega
                have g7 : (j : Int) < (wd.length : Int) := by omega
                clear hx hy hin' hj hlp
                by_cases hle : x ≤ y
                · rw [if_pos hle] at hst
                  have hc3 : firstC (incC 0 6 wd) wd.length = 19 := by rw [firstC_stop (k := k + 1) (by rw [hst]; simp) _ (by omega), hst]
                  have he := HWD.out
                  rw [hc3] at he
                  subst he
                  have hv := HV.out
                  rw [if_pos (by simp)] at hv
                  subst hv
                  have g8 : decide (x ≤ y) = true := by simpa using hle
                  clear hc3 hst hle HV HWD
                  go_wp2_with (go_at_call 24; ((with_reducible refine (rIn_is hin _).mono ?_); rintro e w' ⟨rfl, rfl⟩))
                  have sr := S.out.z.s
                  refine wp_region_bel (by kernel_rfl) (by kernel_rfl) ?_
                  repeat (go_big_quiet_step (fail))
                  refine wpQuiet_nil ?_
                  rintro _ ⟨s0, rfl⟩
                  have T := Lib.hid (S.out.bel s0.below)
                  clear S cr ce fe
                  have S := T
                  clear T
                  generalize s0.w = w2 at *
                  clear s0 sr hr1 hr2
                  have cr := S.out.z.cell
                  have ce := S.out.e.cell
                  have fe := S.out.e.frozen
                  go_wp2_with (go_at_call 38; refine (rAt_calls _ _ _).mono ?_; rintro e w1 ⟨rfl, hb⟩; have T := Lib.hid (S.out.bel hb); clear S cr ce fe; have S := T; clear T; have cr := S.out.z.cell; have ce := S.out.e.cell; have fe := S.out.e.frozen)
                  refine bodyPost_ret (v := .agg #[.int .i64 19, .int .i64 (-7)]) (res_c Try.results29 rfl (by (with_reducible repeat (first | exact S.out.e | apply Bk.al | apply Bk.dr | apply Bk.put' | (apply Bk.far; case hp => (simp [*] <;> omega)))); all_goals rfl) hu28 rfl (by kernel_rfl)) rfl ⟨by rfl, (by with_reducible repeat (first | exact S.out.b | refine below_drew1 ?_ | refine below_al ?_ _ | refine below_set ?_ (by simp <;> omega) _))⟩
                · rw [if_neg hle] at hst
                  have HC := Lib.hid hst
                  have g8 : decide (x ≤ y) = false := by simpa using hle
                  clear hst hle
                  go_wp2_with (go_at_call 24; ((with_reducible refine (rIn_is hin _).mono ?_); rintro e w' ⟨rfl, rfl⟩))
                  have sr := S.out.z.s
                  refine wp_region_bel (by kernel_rfl) (by kernel_rfl) ?_
                  repeat (go_big_quiet_step (fail))
                  refine wpQuiet_nil ?_
                  rintro _ ⟨s0, rfl⟩
                  have T := Lib.hid (S.out.bel s0.below)
                  clear S cr ce fe
                  have S := T
                  clear T
                  generalize s0.w = w2 at *
                  clear s0 sr hr1 hr2
                  have cr := S.out.z.cell
                  have ce := S.out.e.cell
                  have fe := S.out.e.frozen
                  go_wp2
                  exact ⟨⟨k + 1, by omega, by go_num, HC, S⟩, by simp [intOf]; omega⟩
          · have he := HWD.out
            have hkk : k = wd.length := by omega
            rw [← hkk, HF.out] at he
            subst he
            have hv := HV.out
            rw [if_neg (by simp)] at hv
            clear HV HWD HF hkk
            by_cases hz : e6 = 0
            · subst hz
              rw [if_neg (by simp)] at hv
              by_cases hz : e7 = 0
              · subst hz
                rw [if_neg (by simp)] at hv
                subst hv
                go_wp2_with (first | ((with_reducible refine (HW6.out _ S.out.a).mono ?_); rintro e w1 ⟨rfl, hb⟩; have T := Lib.hid (S.out.bel hb); clear S cr ce fe; have S := T; clear T; have cr := S.out.z.cell; have ce := S.out.e.cell; have fe := S.out.e.frozen) | ((with_reducible refine (HW7.out _ S.out.a).mono ?_); rintro e w1 ⟨rfl, hb⟩; have T := Lib.hid (S.out.bel hb); clear S cr ce fe; have S := T; clear T; have cr := S.out.z.cell; have ce := S.out.e.cell; have fe := S.out.e.frozen) | (go_at_call 38; refine (rAt_calls _ _ _).mono ?_; rintro e w1 ⟨rfl, hb⟩; have T := Lib.hid (S.out.bel hb); clear S cr ce fe; have S := T; clear T; have cr := S.out.z.cell; have ce := S.out.e.cell; have fe := S.out.e.frozen))
                refine bodyPost_ret (v := .agg #[.int .i64 0, .int .i64 0]) (res_c Try.results29 rfl (by (with_reducible repeat (first | exact S.out.e | apply Bk.al | apply Bk.dr | apply Bk.put' | (apply Bk.far; case hp => (simp [*] <;> omega)))); all_goals rfl) hu28 rfl (by kernel_rfl)) rfl ⟨by rfl, (by with_reducible repeat (first | exact S.out.b | refine below_drew1 ?_ | refine below_al ?_ _ | refine below_set ?_ (by simp <;> omega) _))⟩
              · have p1 : (e7 != 0) = true := by simpa using hz
                rw [if_pos hz] at hv
                subst hv
                clear hz
                go_wp2_with (first | ((with_reducible refine (HW6.out _ S.out.a).mono ?_); rintro e w1 ⟨rfl, hb⟩; have T := Lib.hid (S.out.bel hb); clear S cr ce fe; have S := T; clear T; have cr := S.out.z.cell; have ce := S.out.e.cell; have fe := S.out.e.frozen) | ((with_reducible refine (HW7.out _ S.out.a).mono ?_); rintro e w1 ⟨rfl, hb⟩; have T := Lib.hid (S.out.bel hb); clear S cr ce fe; have S := T; clear T; have cr := S.out.z.cell; have ce := S.out.e.cell; have fe := S.out.e.frozen) | (go_at_call 38; refine (rAt_calls _ _ _).mono ?_; rintro e w1 ⟨rfl, hb⟩; have T := Lib.hid (S.out.bel hb); clear S cr ce fe; have S := T; clear T; have cr := S.out.z.cell; have ce := S.out.e.cell; have fe := S.out.e.frozen))
                refine bodyPost_ret (v := .agg #[.int .i64 e7, .int .i64 (-9)]) (res_c Try.results29 rfl (by (with_reducible repeat (first | exact S.out.e | apply Bk.al | apply Bk.dr | apply Bk.put' | (apply Bk.far; case hp => (simp [*] <;> omega)))); all_goals rfl) hu28 rfl (by kernel_rfl)) rfl ⟨by rfl, (by with_reducible repeat (first | exact S.out.b | refine below_drew1 ?_ | refine below_al ?_ _ | refine below_set ?_ (by simp <;> omega) _))⟩
            · have p1 : (e6 != 0) = true := by simpa using hz
              rw [if_pos hz] at hv
              subst hv
              clear hz
              go_wp2_with (first | ((with_reducible refine (HW6.out _ S.out.a).mono ?_); rintro e w1 ⟨rfl, hb⟩; have T := Lib.hid (S.out.bel hb); clear S cr ce fe; have S := T; clear T; have cr := S.out.z.cell; have ce := S.out.e.cell; have fe := S.out.e.frozen) | ((with_reducible refine (HW7.out _ S.out.a).mono ?_); rintro e w1 ⟨rfl, hb⟩; have T := Lib.hid (S.out.bel hb); clear S cr ce fe; have S := T; clear T; have cr := S.out.z.cell; have ce := S.out.e.cell; have fe := S.out.e.frozen) | (go_at_call 38; refine (rAt_calls _ _ _).mono ?_; rintro e w1 ⟨rfl, hb⟩; have T := Lib.hid (S.out.bel hb); clear S cr ce fe; have S := T; clear T; have cr := S.out.z.cell; have ce := S.out.e.cell; have fe := S.out.e.frozen))
              refine bodyPost_ret (v := .agg #[.int .i64 e6, .int .i64 (-8)]) (res_c Try.results29 rfl (by (with_reducible repeat (first | exact S.out.e | apply Bk.al | apply Bk.dr | apply Bk.put' | (apply Bk.far; case hp => (simp [*] <;> omega)))); all_goals rfl) hu28 rfl (by kernel_rfl)) rfl ⟨by rfl, (by with_reducible repeat (first | exact S.out.b | refine below_drew1 ?_ | refine below_al ?_ _ | refine below_set ?_ (by simp <;> omega) _))⟩
  · go_upto_region 11 with fail
    have hwd : wdF ⟨fr, ev, ct, 0, false, wd, ex, ad⟩ = if 0 < wd.length ∧ fr ≠ 2 then 5 else firstC (incC 0 6 wd) wd.length := rfl
    generalize wdF ⟨fr, ev, ct, 0, false, wd, ex, ad⟩ = e5 at *
    generalize hc6 : instF ex = e6 at *
    generalize hc7 : instF ad = e7 at *
    have W6 := fun W (A : RuleAt W ⟨fr, ev, ct, 0, false, wd, ex, ad⟩ ⟨a5, c5, a6, c6, a7, c7⟩) => icode_calls a6 ex c6 W A.h6 (by have := A.l6; dsimp only at this; unfold maxLen; omega) A.i6
    rw [hc6] at W6
    have W7 := fun W (A : RuleAt W ⟨fr, ev, ct, 0, false, wd, ex, ad⟩ ⟨a5, c5, a6, c6, a7, c7⟩) => icode_calls a7 ad c7 W A.h7 (by have := A.l7; dsimp only at this; unfold maxLen; omega) A.i7
    rw [hc7] at W7
    have HW6 := Lib.hid W6
    have HW7 := Lib.hid W7
    have HWD := Lib.hid hwd
    clear W6 W7 hc6 hc7 hwd
    by_cases hb : 0 < wd.length ∧ fr ≠ 2
    · obtain ⟨h0, h2⟩ := hb
      have g1 : (fr != 2) = true := by simpa using h2
      have g2 : (0 : Int) < (wd.length : Int) := by omega
      have he := HWD.out
      rw [if_pos ⟨h0, h2⟩] at he
      subst he
      have hv := HV.out
      rw [if_pos (by simp)] at hv
      subst hv
      clear HV HWD h2
      go_wp2_with (go_at_call 38; refine (rAt_calls _ _ _).mono ?_; rintro e w1 ⟨rfl, hb⟩; have T := Lib.hid (S.out.bel hb); clear S cr ce fe; have S := T; clear T; have cr := S.out.z.cell; have ce := S.out.e.cell; have fe := S.out.e.frozen)
      refine bodyPost_ret (v := .agg #[.int .i64 5, .int .i64 (-7)]) (res_c Try.results29 rfl (by (with_reducible repeat (first | exact S.out.e | apply Bk.al | apply Bk.dr | apply Bk.put' | (apply Bk.far; case hp => (simp [*] <;> omega)))); all_goals rfl) hu28 rfl (by kernel_rfl)) rfl ⟨by rfl, (by with_reducible repeat (first | exact S.out.b | refine below_drew1 ?_ | refine below_al ?_ _ | refine below_set ?_ (by simp <;> omega) _))⟩
    · have he := HWD.out
      rw [if_neg hb] at he
      clear HWD
      have HWD := Lib.hid he
      clear he
      have hcase : wd.length ≤ 0 ∨ (0 < wd.length ∧ fr = 2) := by
        rcases Nat.eq_zero_or_pos wd.length with h | h
        · exact .inl (by omega)
        · exact .inr ⟨h, Classical.byContradiction fun h' => hb ⟨h, h'⟩⟩
      clear hb
      rcases hcase with hz | ⟨h0, h2⟩
      · have g2 : (wd.length : Int) ≤ 0 := by omega
        go_upto_region 14 with fail
        go_loopw [3] (fun i wr => ∃ k : Nat, k ≤ wd.length ∧ i = .int .i64 k ∧ Hid (firstC (incC 0 6 wd) k = 0) ∧ Hid (VSt w wr w.heap.size (w.heap.size + 1) #[.int .i64 fr, .int .i64 ev, .int .i64 ct, .int .i64 0, .bool false, .slice a5 wd.length c5, .slice a6 ex.length c6, .slice a7 ad.length c7] #[.int .i64 0, .int .i64 0] ⟨fr, ev, ct, 0, false, wd, ex, ad⟩ ⟨a5, c5, a6, c6, a7, c7⟩)) (fun i _ => wd.length - (intOf i).toNat)
        case atStart => exact ⟨0, Nat.zero_le _, rfl, Lib.hid rfl, S⟩
        case round =>
          clear S cr ce fe
          obtain ⟨k, hk, rfl, HF, S⟩ := hrel
          have cr := S.out.z.cell
          have ce := S.out.e.cell
          have fe := S.out.e.frozen
          by_cases hlt : k < wd.length
          · exact absurd hlt (by omega)
          · have he := HWD.out
            have hkk : k = wd.length := by omega
            rw [← hkk, HF.out] at he
            subst he
            have hv := HV.out
            rw [if_neg (by simp)] at hv
            clear HV HWD HF hkk
            by_cases hz : e6 = 0
            · subst hz
              rw [if_neg (by simp)] at hv
              by_cases hz : e7 = 0
              · subst hz
                rw [if_neg (by simp)] at hv
                subst hv
                go_wp2_with (first | ((with_reducible refine (HW6.out _ S.out.a).mono ?_); rintro e w1 ⟨rfl, hb⟩; have T := Lib.hid (S.out.bel hb); clear S cr ce fe; have S := T; clear T; have cr := S.out.z.cell; have ce := S.out.e.cell; have fe := S.out.e.frozen) | ((with_reducible refine (HW7.out _ S.out.a).mono ?_); rintro e w1 ⟨rfl, hb⟩; have T := Lib.hid (S.out.bel hb); clear S cr ce fe; have S := T; clear T; have cr := S.out.z.cell; have ce := S.out.e.cell; have fe := S.out.e.frozen) | (go_at_call 38; refine (rAt_calls _ _ _).mono ?_; rintro e w1 ⟨rfl, hb⟩; have T := Lib.hid (S.out.bel hb); clear S cr ce fe; have S := T; clear T; have cr := S.out.z.cell; have ce := S.out.e.cell; have fe := S.out.e.frozen))
                refine bodyPost_ret (v := .agg #[.int .i64 0, .int .i64 0]) (res_c Try.results29 rfl (by (with_reducible repeat (first | exact S.out.e | apply Bk.al | apply Bk.dr | apply Bk.put' | (apply Bk.far; case hp => (simp [*] <;> omega)))); all_goals rfl) hu28 rfl (by kernel_rfl)) rfl ⟨by rfl, (by with_reducible repeat (first | exact S.out.b | refine below_drew1 ?_ | refine below_al ?_ _ | refine below_set ?_ (by simp <;> omega) _))⟩
              · have p1 : (e7 != 0) = true := by simpa using hz
                rw [if_pos hz] at hv
                subst hv
                clear hz
                go_wp2_with (first | ((with_reducible refine (HW6.out _ S.out.a).mono ?_); rintro e w1 ⟨rfl, hb⟩; have T := Lib.hid (S.out.bel hb); clear S cr ce fe; have S := T; clear T; have cr := S.out.z.cell; have ce := S.out.e.cell; have fe := S.out.e.frozen) | ((with_reducible refine (HW7.out _ S.out.a).mono ?_); rintro e w1 ⟨rfl, hb⟩; have T := Lib.hid (S.out.bel hb); clear S cr ce fe; have S := T; clear T; have cr := S.out.z.cell; have ce := S.out.e.cell; have fe := S.out.e.frozen) | (go_at_call 38; refine (rAt_calls _ _ _).mono ?_; rintro e w1 ⟨rfl, hb⟩; have T := Lib.hid (S.out.bel hb); clear S cr ce fe; have S := T; clear T; have cr := S.out.z.cell; have ce := S.out.e.cell; have fe := S.out.e.frozen))
                refine bodyPost_ret (v := .agg #[.int .i64 e7, .int .i64 (-9)]) (res_c Try.results29 rfl (by (with_reducible repeat (first | exact S.out.e | apply Bk.al | apply Bk.dr | apply Bk.put' | (apply Bk.far; case hp => (simp [*] <;> omega)))); all_goals rfl) hu28 rfl (by kernel_rfl)) rfl ⟨by rfl, (by with_reducible repeat (first | exact S.out.b | refine below_drew1 ?_ | refine below_al ?_ _ | refine below_set ?_ (by simp <;> omega) _))⟩
            · have p1 : (e6 != 0) = true := by simpa using hz
              rw [if_pos hz] at hv
              subst hv
              clear hz
              go_wp2_with (first | ((with_reducible refine (HW6.out _ S.out.a).mono ?_); rintro e w1 ⟨rfl, hb⟩; have T := Lib.hid (S.out.bel hb); clear S cr ce fe; have S := T; clear T; have cr := S.out.z.cell; have ce := S.out.e.cell; have fe := S.out.e.frozen) | ((with_reducible refine (HW7.out _ S.out.a).mono ?_); rintro e w1 ⟨rfl, hb⟩; have T := Lib.hid (S.out.bel hb); clear S cr ce fe; have S := T; clear T; have cr := S.out.z.cell; have ce := S.out.e.cell; have fe := S.out.e.frozen) | (go_at_call 38; refine (rAt_calls _ _ _).mono ?_; rintro e w1 ⟨rfl, hb⟩; have T := Lib.hid (S.out.bel hb); clear S cr ce fe; have S := T; clear T; have cr := S.out.z.cell; have ce := S.out.e.cell; have fe := S.out.e.frozen))
              refine bodyPost_ret (v := .agg #[.int .i64 e6, .int .i64 (-8)]) (res_c Try.results29 rfl (by (with_reducible repeat (first | exact S.out.e | apply Bk.al | apply Bk.dr | apply Bk.put' | (apply Bk.far; case hp => (simp [*] <;> omega)))); all_goals rfl) hu28 rfl (by kernel_rfl)) rfl ⟨by rfl, (by with_reducible repeat (first | exact S.out.b | refine below_drew1 ?_ | refine below_al ?_ _ | refine below_set ?_ (by simp <;> omega) _))⟩
      · have g2 : (0 : Int) < (wd.length : Int) := by omega
        have g0 : (fr != 2) = false := by simpa using h2
        clear h2
        go_upto_region 14 with fail
        go_loopw [3] (fun i wr => ∃ k : Nat, k ≤ wd.length ∧ i = .int .i64 k ∧ Hid (firstC (incC 0 6 wd) k = 0) ∧ Hid (VSt w wr w.heap.size (w.heap.size + 1) #[.int .i64 fr, .int .i64 ev, .int .i64 ct, .int .i64 0, .bool false, .slice a5 wd.length c5, .slice a6 ex.length c6, .slice a7 ad.length c7] #[.int .i64 0, .int .i64 0] ⟨fr, ev, ct, 0, false, wd, ex, ad⟩ ⟨a5, c5, a6, c6, a7, c7⟩)) (fun i _ => wd.length - (intOf i).toNat)
        case atStart => exact ⟨0, Nat.zero_le _, rfl, Lib.hid rfl, S⟩
        case round =>
          clear S cr ce fe
          obtain ⟨k, hk, rfl, HF, S⟩ := hrel
          have cr := S.out.z.cell
          have ce := S.out.e.cell
          have fe := S.out.e.frozen
          by_cases hlt : k < wd.length
          · have i1 : (0 : Int) ≤ (k : Int) := by omega
            have i2 : (k : Int) < (wd.length : Int) := by omega
            obtain ⟨ad', rfl, hre⟩ := rd_all S.out.a.h5 hlt
            have ca := hre _ (Below.refl _ _) k hlt
            have HRE := Lib.hid hre
            clear hre
            dsimp only at ca
            generalize hx : wd[k] = x at *
            refine (tf (inR x 0 6)).elim (fun hin => ?_) fun hin => ?_
            · have hc3 : firstC (incC 0 6 wd) wd.length = 3 := by
                have e := incC_out (lo := 0) (hi := 6) hlt (by rw [hx]; exact inR_f hin)
                rw [firstC_at HF.out hlt (by rw [e]; simp), e]
              have he := HWD.out
              rw [hc3] at he
              subst he
              have hv := HV.out
              rw [if_pos (by simp)] at hv
              subst hv
              clear HV HWD hc3 hx
              go_wp2_with (first | (go_at_call 24; ((with_reducible refine (rIn_is hin _).mono ?_); rintro e w' ⟨rfl, rfl⟩)) | (go_at_call 38; refine (rAt_calls _ _ _).mono ?_; rintro e w1 ⟨rfl, hb⟩; have T := Lib.hid (S.out.bel hb); clear S cr ce fe; have S := T; clear T; have cr := S.out.z.cell; have ce := S.out.e.cell; have fe := S.out.e.frozen))
              refine bodyPost_ret (v := .agg #[.int .i64 3, .int .i64 (-7)]) (res_c Try.results29 rfl (by (with_reducible repeat (first | exact S.out.e | apply Bk.al | apply Bk.dr | apply Bk.put' | (apply Bk.far; case hp => (simp [*] <;> omega)))); all_goals rfl) hu28 rfl (by kernel_rfl)) rfl ⟨by rfl, (by with_reducible repeat (first | exact S.out.b | refine below_drew1 ?_ | refine below_al ?_ _ | refine below_set ?_ (by simp <;> omega) _))⟩
            · have hin' := inR_t hin
              rcases Nat.eq_zero_or_pos k with h0' | h0'
              · have g1 : (k : Int) ≤ 0 := by omega
                have g3 : decide ((0 : Int) < (k : Int)) = false := by simp; omega
                have g4 : decide (0 < k) = false := by simp; omega
                have hc0 : firstC (incC 0 6 wd) (k + 1) = 0 := by
                  rw [firstC_step HF.out]
                  subst h0'
                  exact incC_zero hlt (by rw [hx]; omega) (by rw [hx]; omega)
                have HC := Lib.hid hc0
                clear hc0 hx h0' hin'
                go_wp2_with (go_at_call 24; ((with_reducible refine (rIn_is hin _).mono ?_); rintro e w' ⟨rfl, rfl⟩))
                have sr := S.out.z.s
                refine wp_region_bel (by kernel_rfl) (by kernel_rfl) ?_
                repeat (go_big_quiet_step (fail))
                refine wpQuiet_nil ?_
                rintro _ ⟨s0, rfl⟩
                have T := Lib.hid (S.out.bel s0.below)
                clear S cr ce fe
                have S := T
                clear T
                generalize s0.w = w2 at *
                clear s0 sr
                have cr := S.out.z.cell
                have ce := S.out.e.cell
                have fe := S.out.e.frozen
                go_wp2
                exact ⟨⟨k + 1, by omega, by go_num, HC, S⟩, by simp [intOf]; omega⟩
              · have g1 : 0 < (k : Int) := by omega
                have g3 : decide ((0 : Int) < (k : Int)) = true := by simp; omega
                have g4 : decide (0 < k) = true := by simp; omega
                have hst : firstC (incC 0 6 wd) (k + 1) = if x ≤ wd[k - 1] then 19 else 0 := by
                  rw [firstC_step HF.out, incC_in hlt h0' (by rw [hx]; omega) (by rw [hx]; omega), hx]
                have hlp : k - 1 < wd.length := by omega
                obtain ⟨j, hj⟩ : ∃ j : Nat, j = k - 1 := ⟨_, rfl⟩
                generalize hy : wd[k - 1] = y at *
                have hr1 : ∀ s : Bel wr, s.w.cell? (ad'.add k) = some (.int .i64 x) := fun s => by have := HRE.out s.w s.below _ hlt; rw [← hx]; exact this
                have hr2 : ∀ s : Bel wr, s.w.cell? (ad'.add j) = some (.int .i64 y) := fun s => by subst hj; have := HRE.out s.w s.below _ hlp; rw [← hy]; exact this
                have g5 : IntKind.i64.wrap ((k : Int) - 1) = (j : Int) := by rw [i64_id (by omega)]; omega
                have g6 : (0 : Int) ≤ (j : Int) := by omega
                have g7 : (j : Int) < (wd.length : Int) := by omega
                clear hx hy hin' hj hlp
                by_cases hle : x ≤ y
                · rw [if_pos hle] at hst
                  have hc3 : firstC (incC 0 6 wd) wd.length = 19 := by rw [firstC_stop (k := k + 1) (by rw [hst]; simp) _ (by omega), hst]
                  have he := HWD.out
                  rw [hc3] at he
                  subst he
                  have hv := HV.out
                  rw [if_pos (by simp)] at hv
                  subst hv
                  have g8 : decide (x ≤ y) = true := by simpa using hle
                  clear hc3 hst hle HV HWD
                  go_wp2_with (go_at_call 24; ((with_reducible refine (rIn_is hin _).mono ?_); rintro e w' ⟨rfl, rfl⟩))
                  have sr := S.out.z.s
                  refine wp_region_bel (by kernel_rfl) (by kernel_rfl) ?_
                  repeat (go_big_quiet_step (fail))
                  refine wpQuiet_nil ?_
                  rintro _ ⟨s0, rfl⟩
                  have T := Lib.hid (S.out.bel s0.below)
                  clear S cr ce fe
                  have S := T
                  clear T
                  generalize s0.w = w2 at *
                  clear s0 sr hr1 hr2
                  have cr := S.out.z.cell
                  have ce := S.out.e.cell
                  have fe := S.out.e.frozen
                  go_wp2_with (go_at_call 38; refine (rAt_calls _ _ _).mono ?_; rintro e w1 ⟨rfl, hb⟩; have T := Lib.hid (S.out.bel hb); clear S cr ce fe; have S := T; clear T; have cr := S.out.z.cell; have ce := S.out.e.cell; have fe := S.out.e.frozen)
                  refine bodyPost_ret (v := .agg #[.int .i64 19, .int .i64 (-7)]) (res_c Try.results29 rfl (by (with_reducible repeat (first | exact S.out.e | apply Bk.al | apply Bk.dr | apply Bk.put' | (apply Bk.far; case hp => (simp [*] <;> omega)))); all_goals rfl) hu28 rfl (by kernel_rfl)) rfl ⟨by rfl, (by with_reducible repeat (first | exact S.out.b | refine below_drew1 ?_ | refine below_al ?_ _ | refine below_set ?_ (by simp <;> omega) _))⟩
                · rw [if_neg hle] at hst
                  have HC := Lib.hid hst
                  have g8 : decide (x ≤ y) = false := by simpa using hle
                  clear hst hle
                  go_wp2_with (go_at_call 24; ((with_reducible refine (rIn_is hin _).mono ?_); rintro e w' ⟨rfl, rfl⟩))
                  have sr := S.out.z.s
                  refine wp_region_bel (by kernel_rfl) (by kernel_rfl) ?_
                  repeat (go_big_quiet_step (fail))
                  refine wpQuiet_nil ?_
                  rintro _ ⟨s0, rfl⟩
                  have T := Lib.hid (S.out.bel s0.below)
                  clear S cr ce fe
                  have S := T
                  clear T
                  generalize s0.w = w2 at *
                  clear s0 sr hr1 hr2
                  have cr := S.out.z.cell
                  have ce := S.out.e.cell
                  have fe := S.out.e.frozen
                  go_wp2
                  exact ⟨⟨k + 1, by omega, by go_num, HC, S⟩, by simp [intOf]; omega⟩
          · have he := HWD.out
            have hkk : k = wd.length := by omega
            rw [← hkk, HF.out] at he
            subst he
            have hv := HV.out
            rw [if_neg (by simp)] at hv
            clear HV HWD HF hkk
            by_cases hz : e6 = 0
            · subst hz
              rw [if_neg (by simp)] at hv
              by_cases hz : e7 = 0
              · subst hz
                rw [if_neg (by simp)] at hv
                subst hv
                go_wp2_with (first | ((with_reducible refine (HW6.out _ S.out.a).mono ?_); rintro e w1 ⟨rfl, hb⟩; have T := Lib.hid (S.out.bel hb); clear S cr ce fe; have S := T; clear T; have cr := S.out.z.cell; have ce := S.out.e.cell; have fe := S.out.e.frozen) | ((with_reducible refine (HW7.out _ S.out.a).mono ?_); rintro e w1 ⟨rfl, hb⟩; have T := Lib.hid (S.out.bel hb); clear S cr ce fe; have S := T; clear T; have cr := S.out.z.cell; have ce := S.out.e.cell; have fe := S.out.e.frozen) | (go_at_call 38; refine (rAt_calls _ _ _).mono ?_; rintro e w1 ⟨rfl, hb⟩; have T := Lib.hid (S.out.bel hb); clear S cr ce fe; have S := T; clear T; have cr := S.out.z.cell; have ce := S.out.e.cell; have fe := S.out.e.frozen))
                refine bodyPost_ret (v := .agg #[.int .i64 0, .int .i64 0]) (res_c Try.results29 rfl (by (with_reducible repeat (first | exact S.out.e | apply Bk.al | apply Bk.dr | apply Bk.put' | (apply Bk.far; case hp => (simp [*] <;> omega)))); all_goals rfl) hu28 rfl (by kernel_rfl)) rfl ⟨by rfl, (by with_reducible repeat (first | exact S.out.b | refine below_drew1 ?_ | refine below_al ?_ _ | refine below_set ?_ (by simp <;> omega) _))⟩
              · have p1 : (e7 != 0) = true := by simpa using hz
                rw [if_pos hz] at hv
                subst hv
                clear hz
                go_wp2_with (first | ((with_reducible refine (HW6.out _ S.out.a).mono ?_); rintro e w1 ⟨rfl, hb⟩; have T := Lib.hid (S.out.bel hb); clear S cr ce fe; have S := T; clear T; have cr := S.out.z.cell; have ce := S.out.e.cell; have fe := S.out.e.frozen) | ((with_reducible refine (HW7.out _ S.out.a).mono ?_); rintro e w1 ⟨rfl, hb⟩; have T := Lib.hid (S.out.bel hb); clear S cr ce fe; have S := T; clear T; have cr := S.out.z.cell; have ce := S.out.e.cell; have fe := S.out.e.frozen) | (go_at_call 38; refine (rAt_calls _ _ _).mono ?_; rintro e w1 ⟨rfl, hb⟩; have T := Lib.hid (S.out.bel hb); clear S cr ce fe; have S := T; clear T; have cr := S.out.z.cell; have ce := S.out.e.cell; have fe := S.out.e.frozen))
                refine bodyPost_ret (v := .agg #[.int .i64 e7, .int .i64 (-9)]) (res_c Try.results29 rfl (by (with_reducible repeat (first | exact S.out.e | apply Bk.al | apply Bk.dr | apply Bk.put' | (apply Bk.far; case hp => (simp [*] <;> omega)))); all_goals rfl) hu28 rfl (by kernel_rfl)) rfl ⟨by rfl, (by with_reducible repeat (first | exact S.out.b | refine below_drew1 ?_ | refine below_al ?_ _ | refine below_set ?_ (by simp <;> omega) _))⟩
            · have p1 : (e6 != 0) = true := by simpa using hz
              rw [if_pos hz] at hv
              subst hv
              clear hz
              go_wp2_with (first | ((with_reducible refine (HW6.out _ S.out.a).mono ?_); rintro e w1 ⟨rfl, hb⟩; have T := Lib.hid (S.out.bel hb); clear S cr ce fe; have S := T; clear T; have cr := S.out.z.cell; have ce := S.out.e.cell; have fe := S.out.e.frozen) | ((with_reducible refine (HW7.out _ S.out.a).mono ?_); rintro e w1 ⟨rfl, hb⟩; have T := Lib.hid (S.out.bel hb); clear S cr ce fe; have S := T; clear T; have cr := S.out.z.cell; have ce := S.out.e.cell; have fe := S.out.e.frozen) | (go_at_call 38; refine (rAt_calls _ _ _).mono ?_; rintro e w1 ⟨rfl, hb⟩; have T := Lib.hid (S.out.bel hb); clear S cr ce fe; have S := T; clear T; have cr := S.out.z.cell; have ce := S.out.e.cell; have fe := S.out.e.frozen))
              refine bodyPost_ret (v := .agg #[.int .i64 e6, .int .i64 (-8)]) (res_c Try.results29 rfl (by (with_reducible repeat (first | exact S.out.e | apply Bk.al | apply Bk.dr | apply Bk.put' | (apply Bk.far; case hp => (simp [*] <;> omega)))); all_goals rfl) hu28 rfl (by kernel_rfl)) rfl ⟨by rfl, (by with_reducible repeat (first | exact S.out.b | refine below_drew1 ?_ | refine below_al ?_ _ | refine below_set ?_ (by simp <;> omega) _))⟩
end Go.Proofs.Ytnjplichhkmmhaa.CalW
