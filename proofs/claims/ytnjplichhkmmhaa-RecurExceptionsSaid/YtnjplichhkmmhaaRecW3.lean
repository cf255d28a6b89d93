import Derived.Test.YtnjplichhkmmhaaMi
/- Walk: recur.Validate. -/
namespace Go.Proofs.Ytnjplichhkmmhaa.CalW
open Go.RowKit Go.Proofs.Ytnjplichhkmmhaa.Base Go.Proofs.Ytnjplichhkmmhaa.Cal
set_option linter.unusedVariables false
set_option linter.unusedSimpArgs false
attribute [local go_sem high] eqA28
/-- what stands in memory in Validate. -/
structure VSt (w wr : World) (g f : Nat) (rc fc : Array Value) (r : Rule) (s : RS) : Prop where
  z : Bk wr g 49 rc
  e : Bk wr f 28 fc
  a : RuleAt wr r s
  b : Below w.heap.size w wr
theorem VSt.bel {w wr w' : World} {g f : Nat} {rc fc : Array Value} {r : Rule} {s : RS} (h : VSt w wr g f rc fc r s) (hb : Below wr.heap.size wr w') : VSt w w' g f rc fc r s :=
  ⟨h.z.bel hb, h.e.bel hb, h.a.bel hb, below_go h.b hb⟩
theorem VSt.dr {w wr : World} {g f : Nat} {rc fc : Array Value} {r : Rule} {s : RS} (h : VSt w wr g f rc fc r s) : VSt w wr.drew g f rc fc r s := h.bel (below_drew1 (Below.refl _ _))
theorem VSt.al {w wr : World} {g f : Nat} {rc fc : Array Value} {r : Rule} {s : RS} (h : VSt w wr g f rc fc r s) (o : Obj) : VSt w (wr.alloc o) g f rc fc r s := h.bel (below_al (Below.refl _ _) _)
theorem bk8 {w : World} {g : Nat} {t : TypeId} {a b c d e f h i : Value} (B : Bk w g t #[a, b, c, d, e, f, h, i]) : w.cell? ⟨g, 0, none⟩ = some a ∧ w.cell? ⟨g, 1, none⟩ = some b ∧ w.cell? ⟨g, 2, none⟩ = some c ∧ w.cell? ⟨g, 3, none⟩ = some d ∧ w.cell? ⟨g, 4, none⟩ = some e ∧ w.cell? ⟨g, 5, none⟩ = some f ∧ w.cell? ⟨g, 6, none⟩ = some h ∧ w.cell? ⟨g, 7, none⟩ = some i :=
  ⟨B.cell 0, B.cell 1, B.cell 2, B.cell 3, B.cell 4, B.cell 5, B.cell 6, B.cell 7⟩
/-- how far the loop over the three codes has come. -/
def R4 (e5 e6 e7 j : Int) : Prop := j = 0 ∨ (j = 1 ∧ e5 = 0) ∨ (j = 2 ∧ e5 = 0 ∧ e6 = 0) ∨ (j = 3 ∧ e5 = 0 ∧ e6 = 0 ∧ e7 = 0)
set_option maxHeartbeats 4000000 in
set_option maxRecDepth 20000 in
theorem rvalidate_calls (r : Rule) (s : RS) (w : World) (h : RuleAt w r s) :
    Calls Try.prog 28 #[rval r s] w fun e w' => e = .returned (fval r.fault) ∧ Below w.heap.size w w' := by
  generalize hv : r.fault = v
  unfold Rule.fault at hv
  have hl5 := h.l5
  have hCk := fun W => check_calls r.un W h.u0 h.u1
  obtain ⟨fr, ev, ct, un, hu, wd, ex, ad⟩ := r
  obtain ⟨a5, c5, a6, c6, a7, c7⟩ := s
  dsimp only at hv hl5 hCk
  have hu49 := Try.underlying49
  have hu28 := Try.underlying28
  have hu35 := Try.underlying35
  have S := Lib.hid (VSt.mk ((Bk.new w 49 #[.int .i64 fr, .int .i64 ev, .int .i64 ct, .int .i64 un, .bool hu, .slice a5 wd.length c5, .slice a6 ex.length c6, .slice a7 ad.length c7]).al (.cells #[.int .i64 0, .int .i64 0] 28)) (Bk.new' (n := w.heap.size + 1) (w.alloc (.cells #[.int .i64 fr, .int .i64 ev, .int .i64 ct, .int .i64 un, .bool hu, .slice a5 wd.length c5, .slice a6 ex.length c6, .slice a7 ad.length c7] 49)) 28 #[.int .i64 0, .int .i64 0] (by simp)) ((h.al (.cells #[.int .i64 fr, .int .i64 ev, .int .i64 ct, .int .i64 un, .bool hu, .slice a5 wd.length c5, .slice a6 ex.length c6, .slice a7 ad.length c7] 49)).al (.cells #[.int .i64 0, .int .i64 0] 28)) (below_al (below_al (Below.refl w.heap.size w) (.cells #[.int .i64 fr, .int .i64 ev, .int .i64 ct, .int .i64 un, .bool hu, .slice a5 wd.length c5, .slice a6 ex.length c6, .slice a7 ad.length c7] 49)) (.cells #[.int .i64 0, .int .i64 0] 28)) : VSt w ((w.alloc (.cells #[.int .i64 fr, .int .i64 ev, .int .i64 ct, .int .i64 un, .bool hu, .slice a5 wd.length c5, .slice a6 ex.length c6, .slice a7 ad.length c7] 49)).alloc (.cells #[.int .i64 0, .int .i64 0] 28)) w.heap.size (w.heap.size + 1) #[.int .i64 fr, .int .i64 ev, .int .i64 ct, .int .i64 un, .bool hu, .slice a5 wd.length c5, .slice a6 ex.length c6, .slice a7 ad.length c7] #[.int .i64 0, .int .i64 0] ⟨fr, ev, ct, un, hu, wd, ex, ad⟩ ⟨a5, c5, a6, c6, a7, c7⟩)
  have HV := Lib.hid hv
  have HCK := Lib.hid hCk
  clear hv hCk h
  go_enter Try.func28, Try.ntmps28
  go_upto_region 1 with fail
  generalize (w.alloc (.cells #[.int .i64 fr, .int .i64 ev, .int .i64 ct, .int .i64 un, .bool hu, .slice a5 wd.length c5, .slice a6 ex.length c6, .slice a7 ad.length c7] 49)).alloc (.cells #[.int .i64 0, .int .i64 0] 28) = w0 at *
  have cr := S.out.z.cell
  have ce := S.out.e.cell
  have fe := S.out.e.frozen
  refine (tf (inR fr 0 4)).elim (fun h1 => ?_) fun h1 => ?_
  · have hv := HV.out
    rw [if_pos h1] at hv
    have hr := inR_f h1
    subst hv
    clear HV
    rcases hr with hr | hr
    all_goals
      go_wp2
      refine bodyPost_ret (v := .agg #[.int .i64 4, .int .i64 (-3)]) (res_c Try.results28 rfl (by (with_reducible repeat (first | exact S.out.e | apply Bk.al | apply Bk.dr | apply Bk.put' | (apply Bk.far; case hp => (simp [*] <;> omega)))); all_goals rfl) hu28 rfl (by kernel_rfl)) rfl ⟨by rfl, (by with_reducible repeat (first | exact S.out.b | refine below_drew1 ?_ | refine below_al ?_ _ | refine below_set ?_ (by simp <;> omega) _))⟩
  have b1 := inR_t h1
  have b1a := b1.1
  have b1b := b1.2
  clear b1
  refine (tf (inR ev 1 100)).elim (fun h2 => ?_) fun h2 => ?_
  · have hv := HV.out
    rw [if_neg (by rw [h1]; simp), if_pos h2] at hv
    have hr := inR_f h2
    subst hv
    clear HV h1
    rcases hr with hr | hr
    all_goals
      go_wp2
      refine bodyPost_ret (v := .agg #[.int .i64 3, .int .i64 (-4)]) (res_c Try.results28 rfl (by (with_reducible repeat (first | exact S.out.e | apply Bk.al | apply Bk.dr | apply Bk.put' | (apply Bk.far; case hp => (simp [*] <;> omega)))); all_goals rfl) hu28 rfl (by kernel_rfl)) rfl ⟨by rfl, (by with_reducible repeat (first | exact S.out.b | refine below_drew1 ?_ | refine below_al ?_ _ | refine below_set ?_ (by simp <;> omega) _))⟩
  have b1 := inR_t h2
  have b2a := b1.1
  have b2b := b1.2
  clear b1
  refine (tf (inR ct 0 1500)).elim (fun h3 => ?_) fun h3 => ?_
  · have hv := HV.out
    rw [if_neg (by rw [h1]; simp), if_neg (by rw [h2]; simp), if_pos h3] at hv
    have hr := inR_f h3
    subst hv
    clear HV h1 h2
    rcases hr with hr | hr
    all_goals
      go_wp2
      refine bodyPost_ret (v := .agg #[.int .i64 3, .int .i64 (-5)]) (res_c Try.results28 rfl (by (with_reducible repeat (first | exact S.out.e | apply Bk.al | apply Bk.dr | apply Bk.put' | (apply Bk.far; case hp => (simp [*] <;> omega)))); all_goals rfl) hu28 rfl (by kernel_rfl)) rfl ⟨by rfl, (by with_reducible repeat (first | exact S.out.b | refine below_drew1 ?_ | refine below_al ?_ _ | refine below_set ?_ (by simp <;> omega) _))⟩
  have b1 := inR_t h3
  have b3a := b1.1
  have b3b := b1.2
  clear b1
  have hv := HV.out
  rw [if_neg (by rw [h1]; simp), if_neg (by rw [h2]; simp), if_neg (by rw [h3]; simp)] at hv
  clear HV
  have HV := Lib.hid hv
  clear hv h1 h2 h3
  by_cases hbad : hu = true ∧ chk un ≠ (0, 0)
  · obtain ⟨rfl, h4⟩ := hbad
    have hv := HV.out
    rw [if_pos ⟨rfl, h4⟩] at hv
    subst hv
    have p1 := pair_no h4
    have p2 := pair_no' h4
    clear HV h4
    go_wp2_with (go_at_call 40; refine (HCK.out _).mono ?_; rintro e w1 ⟨rfl, hb⟩; have T := Lib.hid (S.out.bel hb); clear S cr ce fe; have S := T; clear T; have cr := S.out.z.cell; have ce := S.out.e.cell; have fe := S.out.e.frozen)
    refine bodyPost_ret (v := .agg #[.int .i64 3, .int .i64 (-6)]) (res_c Try.results28 rfl (by (with_reducible repeat (first | exact S.out.e | apply Bk.al | apply Bk.dr | apply Bk.put' | (apply Bk.far; case hp => (simp [*] <;> omega)))); all_goals rfl) hu28 rfl (by kernel_rfl)) rfl ⟨by rfl, (by with_reducible repeat (first | exact S.out.b | refine below_drew1 ?_ | refine below_al ?_ _ | refine below_set ?_ (by simp <;> omega) _))⟩
  by_cases hbad2 : hu = false ∧ un ≠ 0
  · obtain ⟨rfl, h4⟩ := hbad2
    have hv := HV.out
    rw [if_neg hbad, if_pos ⟨rfl, h4⟩] at hv
    subst hv
    have p1 : (un != 0) = true := by simpa using h4
    clear HV h4 hbad
    go_wp2
    refine bodyPost_ret (v := .agg #[.int .i64 5, .int .i64 (-6)]) (res_c Try.results28 rfl (by (with_reducible repeat (first | exact S.out.e | apply Bk.al | apply Bk.dr | apply Bk.put' | (apply Bk.far; case hp => (simp [*] <;> omega)))); all_goals rfl) hu28 rfl (by kernel_rfl)) rfl ⟨by rfl, (by with_reducible repeat (first | exact S.out.b | refine below_drew1 ?_ | refine below_al ?_ _ | refine below_set ?_ (by simp <;> omega) _))⟩
  have hv := HV.out
  rw [if_neg hbad, if_neg hbad2] at hv
  clear HV
  have HV := Lib.hid hv
  clear hv
  have hok : (hu = true ∧ chk un = (0, 0)) ∨ (hu = false ∧ un = 0) := by
    cases hu
    · exact .inr ⟨rfl, Classical.byContradiction fun h => hbad2 ⟨rfl, h⟩⟩
    · exact .inl ⟨rfl, Classical.byContradiction fun h => hbad ⟨rfl, h⟩⟩
  clear hbad hbad2
  rcases hok with ⟨rfl, hok⟩ | ⟨rfl, rfl⟩
  · have hCk := HCK.out
    rw [hok] at hCk
    clear HCK hok
    have HCK := Lib.hid hCk
    clear hCk
    go_upto_region 11 with (go_at_call 40; refine (HCK.out _).mono ?_; rintro e w1 ⟨rfl, hb⟩; have T := Lib.hid (S.out.bel hb); clear S cr ce fe; have S := T; clear T; have cr := S.out.z.cell; have ce := S.out.e.cell; have fe := S.out.e.frozen)
    generalize hc5 : wdF ⟨fr, ev, ct, un, true, wd, ex, ad⟩ = e5 at *
    generalize hc6 : instF ex = e6 at *
    generalize hc7 : instF ad = e7 at *
    have W5 := fun W A => rweekdays_calls ⟨fr, ev, ct, un, true, wd, ex, ad⟩ ⟨a5, c5, a6, c6, a7, c7⟩ W A
    rw [hc5] at W5
    have W6 := fun W (A : RuleAt W ⟨fr, ev, ct, un, true, wd, ex, ad⟩ ⟨a5, c5, a6, c6, a7, c7⟩) => rinstants_calls a6 ex c6 W A.h6 (by have := A.l6; dsimp only at this; unfold maxLen; omega) A.i6
    rw [hc6] at W6
    have W7 := fun W (A : RuleAt W ⟨fr, ev, ct, un, true, wd, ex, ad⟩ ⟨a5, c5, a6, c6, a7, c7⟩) => rinstants_calls a7 ad c7 W A.h7 (by have := A.l7; dsimp only at this; unfold maxLen; omega) A.i7
    rw [hc7] at W7
    have HW5 := Lib.hid W5
    have HW6 := Lib.hid W6
    have HW7 := Lib.hid W7
    clear W5 W6 W7 hc5 hc6 hc7
    clear cr ce fe
    go_cut [64, 65, 66] (fun s64 s65 s66 wx => ∃ ga, s64 = .slice (some ⟨ga, 0, none⟩) 3 3 ∧ s65 = .int .i64 3 ∧ s66 = .int .i64 0 ∧ Hid (VSt w wx w.heap.size (w.heap.size + 1) #[.int .i64 fr, .int .i64 ev, .int .i64 ct, .int .i64 un, .bool true, .slice a5 wd.length c5, .slice a6 ex.length c6, .slice a7 ad.length c7] #[.int .i64 0, .int .i64 0] ⟨fr, ev, ct, un, true, wd, ex, ad⟩ ⟨a5, c5, a6, c6, a7, c7⟩ ∧ Bk wx ga 3 #[.int .i64 e5, .int .i64 e6, .int .i64 e7]))
    case first =>
      have T := Lib.hid S.out.dr
      clear S
      have S := T
      clear T
      go_region_held3 (fun w' => w'.cell? ⟨w.heap.size, 0, none⟩ = some (.int .i64 fr) ∧ w'.cell? ⟨w.heap.size, 1, none⟩ = some (.int .i64 ev) ∧ w'.cell? ⟨w.heap.size, 2, none⟩ = some (.int .i64 ct) ∧ w'.cell? ⟨w.heap.size, 3, none⟩ = some (.int .i64 un) ∧ w'.cell? ⟨w.heap.size, 4, none⟩ = some (.bool true) ∧ w'.cell? ⟨w.heap.size, 5, none⟩ = some (.slice a5 wd.length c5) ∧ w'.cell? ⟨w.heap.size, 6, none⟩ = some (.slice a6 ex.length c6) ∧ w'.cell? ⟨w.heap.size, 7, none⟩ = some (.slice a7 ad.length c7)) (first | exact bk8 S.out.z | exact bk8 (S.out.z.al _)) ((first | (go_at_call 52; refine (HW5.out _ S.out.a).mono ?_; rintro e w1 ⟨rfl, hb⟩; have T := Lib.hid (S.out.bel hb); clear S hb; have S := T; clear T) | ((with_reducible refine (HW6.out _ S.out.a).mono ?_); rintro e w1 ⟨rfl, hb⟩; have T := Lib.hid (S.out.bel hb); clear S hb; have S := T; clear T) | ((with_reducible refine (HW7.out _ S.out.a).mono ?_); rintro e w1 ⟨rfl, hb⟩; have T := Lib.hid (S.out.bel hb); clear S hb; have S := T; clear T)))
      all_goals
        go_wp2_with fail
        go_meet
        exact ⟨_, rfl, rfl, rfl, Lib.hid ⟨S.out.al _, Bk.new _ _ _⟩⟩
    case rest =>
      clear S
      obtain ⟨ga, rfl, rfl, rfl, hcut⟩ := hcut
      obtain ⟨q1, q2⟩ := hcut.out
      have S := Lib.hid q1
      have BA := Lib.hid q2
      clear hcut q1 q2
      have ce := S.out.e.cell
      have fe := S.out.e.frozen
      have ca := BA.out.cell
      go_upto_region 12 with fail
      go_loopw [66] (fun i wr => ∃ j : Int, i = .int .i64 j ∧ Hid (R4 e5 e6 e7 j) ∧ wr = wc) (fun i _ => (3 - intOf i).toNat)
      case atStart => exact ⟨0, rfl, Lib.hid (.inl rfl), rfl⟩
      case round =>
        obtain ⟨j, rfl, hj, rfl⟩ := hrel
        rcases hj.out with rfl | ⟨rfl, rfl⟩ | ⟨rfl, rfl, rfl⟩ | ⟨rfl, rfl, rfl, rfl⟩
        · by_cases hz : e5 = 0
          · subst hz
            go_wp2
            exact ⟨⟨1, rfl, Lib.hid (.inr (.inl ⟨rfl, rfl⟩)), trivial⟩, by simp [intOf]⟩
          · have p1 : (e5 != 0) = true := by simpa using hz
            have hv := HV.out
            rw [if_pos hz] at hv
            subst hv
            clear HV hz
            go_wp2
            refine bodyPost_ret (v := .agg #[.int .i64 e5, .int .i64 (-7)]) (res_c Try.results28 rfl (by (with_reducible repeat (first | exact S.out.e | apply Bk.al | apply Bk.dr | apply Bk.put' | (apply Bk.far; case hp => (simp [*] <;> omega)))); all_goals rfl) hu28 rfl (by kernel_rfl)) rfl ⟨by rfl, (by with_reducible repeat (first | exact S.out.b | refine below_drew1 ?_ | refine below_al ?_ _ | refine below_set ?_ (by simp <;> omega) _))⟩
        · by_cases hz : e6 = 0
          · subst hz
            go_wp2
            exact ⟨⟨2, rfl, Lib.hid (.inr (.inr (.inl ⟨rfl, rfl, rfl⟩))), trivial⟩, by simp [intOf]⟩
          · have p1 : (e6 != 0) = true := by simpa using hz
            have hv := HV.out
            rw [if_neg (by simp), if_pos hz] at hv
            subst hv
            clear HV hz
            go_wp2
            refine bodyPost_ret (v := .agg #[.int .i64 e6, .int .i64 (-8)]) (res_c Try.results28 rfl (by (with_reducible repeat (first | exact S.out.e | apply Bk.al | apply Bk.dr | apply Bk.put' | (apply Bk.far; case hp => (simp [*] <;> omega)))); all_goals rfl) hu28 rfl (by kernel_rfl)) rfl ⟨by rfl, (by with_reducible repeat (first | exact S.out.b | refine below_drew1 ?_ | refine below_al ?_ _ | refine below_set ?_ (by simp <;> omega) _))⟩
        · by_cases hz : e7 = 0
          · subst hz
            go_wp2
            exact ⟨⟨3, rfl, Lib.hid (.inr (.inr (.inr ⟨rfl, rfl, rfl, rfl⟩))), trivial⟩, by simp [intOf]⟩
          · have p1 : (e7 != 0) = true := by simpa using hz
            have hv := HV.out
            rw [if_neg (by simp), if_neg (by simp), if_pos hz] at hv
            subst hv
            clear HV hz
            go_wp2
            refine bodyPost_ret (v := .agg #[.int .i64 e7, .int .i64 (-9)]) (res_c Try.results28 rfl (by (with_reducible repeat (first | exact S.out.e | apply Bk.al | apply Bk.dr | apply Bk.put' | (apply Bk.far; case hp => (simp [*] <;> omega)))); all_goals rfl) hu28 rfl (by kernel_rfl)) rfl ⟨by rfl, (by with_reducible repeat (first | exact S.out.b | refine below_drew1 ?_ | refine below_al ?_ _ | refine below_set ?_ (by simp <;> omega) _))⟩
        · have hv := HV.out
          rw [if_neg (by simp), if_neg (by simp), if_neg (by simp)] at hv
          subst hv
          clear HV
          go_wp2
          refine bodyPost_ret (v := .agg #[.int .i64 0, .int .i64 0]) (res_c Try.results28 rfl (by (with_reducible repeat (first | exact S.out.e | apply Bk.al | apply Bk.dr | apply Bk.put' | (apply Bk.far; case hp => (simp [*] <;> omega)))); all_goals rfl) hu28 rfl (by kernel_rfl)) rfl ⟨by rfl, (by with_reducible repeat (first | exact S.out.b | refine below_drew1 ?_ | refine below_al ?_ _ | refine below_set ?_ (by simp <;> omega) _))⟩
  · go_upto_region 11 with fail
    generalize hc5 : wdF ⟨fr, ev, ct, 0, false, wd, ex, ad⟩ = e5 at *
    generalize hc6 : instF ex = e6 at *
    generalize hc7 : instF ad = e7 at *
    have W5 := fun W A => rweekdays_calls ⟨fr, ev, ct, 0, false, wd, ex, ad⟩ ⟨a5, c5, a6, c6, a7, c7⟩ W A
    rw [hc5] at W5
    have W6 := fun W (A : RuleAt W ⟨fr, ev, ct, 0, false, wd, ex, ad⟩ ⟨a5, c5, a6, c6, a7, c7⟩) => rinstants_calls a6 ex c6 W A.h6 (by have := A.l6; dsimp only at this; unfold maxLen; omega) A.i6
    rw [hc6] at W6
    have W7 := fun W (A : RuleAt W ⟨fr, ev, ct, 0, false, wd, ex, ad⟩ ⟨a5, c5, a6, c6, a7, c7⟩) => rinstants_calls a7 ad c7 W A.h7 (by have := A.l7; dsimp only at this; unfold maxLen; omega) A.i7
    rw [hc7] at W7
    have HW5 := Lib.hid W5
    have HW6 := Lib.hid W6
    have HW7 := Lib.hid W7
    clear W5 W6 W7 hc5 hc6 hc7
    clear cr ce fe
    go_cut [64, 65, 66] (fun s64 s65 s66 wx => ∃ ga, s64 = .slice (some ⟨ga, 0, none⟩) 3 3 ∧ s65 = .int .i64 3 ∧ s66 = .int .i64 0 ∧ Hid (VSt w wx w.heap.size (w.heap.size + 1) #[.int .i64 fr, .int .i64 ev, .int .i64 ct, .int .i64 0, .bool false, .slice a5 wd.length c5, .slice a6 ex.length c6, .slice a7 ad.length c7] #[.int .i64 0, .int .i64 0] ⟨fr, ev, ct, 0, false, wd, ex, ad⟩ ⟨a5, c5, a6, c6, a7, c7⟩ ∧ Bk wx ga 3 #[.int .i64 e5, .int .i64 e6, .int .i64 e7]))
    case first =>
      have T := Lib.hid S.out.dr
      clear S
      have S := T
      clear T
      go_region_held3 (fun w' => w'.cell? ⟨w.heap.size, 0, none⟩ = some (.int .i64 fr) ∧ w'.cell? ⟨w.heap.size, 1, none⟩ = some (.int .i64 ev) ∧ w'.cell? ⟨w.heap.size, 2, none⟩ = some (.int .i64 ct) ∧ w'.cell? ⟨w.heap.size, 3, none⟩ = some (.int .i64 0) ∧ w'.cell? ⟨w.heap.size, 4, none⟩ = some (.bool false) ∧ w'.cell? ⟨w.heap.size, 5, none⟩ = some (.slice a5 wd.length c5) ∧ w'.cell? ⟨w.heap.size, 6, none⟩ = some (.slice a6 ex.length c6) ∧ w'.cell? ⟨w.heap.size, 7, none⟩ = some (.slice a7 ad.length c7)) (first | exact bk8 S.out.z | exact bk8 (S.out.z.al _)) ((first | (go_at_call 52; refine (HW5.out _ S.out.a).mono ?_; rintro e w1 ⟨rfl, hb⟩; have T := Lib.hid (S.out.bel hb); clear S hb; have S := T; clear T) | ((with_reducible refine (HW6.out _ S.out.a).mono ?_); rintro e w1 ⟨rfl, hb⟩; have T := Lib.hid (S.out.bel hb); clear S hb; have S := T; clear T) | ((with_reducible refine (HW7.out _ S.out.a).mono ?_); rintro e w1 ⟨rfl, hb⟩; have T := Lib.hid (S.out.bel hb); clear S hb; have S := T; clear T)))
      all_goals
        go_wp2_with fail
        go_meet
        exact ⟨_, rfl, rfl, rfl, Lib.hid ⟨S.out.al _, Bk.new _ _ _⟩⟩
    case rest =>
      clear S
      obtain ⟨ga, rfl, rfl, rfl, hcut⟩ := hcut
      obtain ⟨q1, q2⟩ := hcut.out
      have S := Lib.hid q1
      have BA := Lib.hid q2
      clear hcut q1 q2
      have ce := S.out.e.cell
      have fe := S.out.e.frozen
      have ca := BA.out.cell
      go_upto_region 12 with fail
      go_loopw [66] (fun i wr => ∃ j : Int, i = .int .i64 j ∧ Hid (R4 e5 e6 e7 j) ∧ wr = wc) (fun i _ => (3 - intOf i).toNat)
      case atStart => exact ⟨0, rfl, Lib.hid (.inl rfl), rfl⟩
      case round =>
        obtain ⟨j, rfl, hj, rfl⟩ := hrel
        rcases hj.out with rfl | ⟨rfl, rfl⟩ | ⟨rfl, rfl, rfl⟩ | ⟨rfl, rfl, rfl, rfl⟩
        · by_cases hz : e5 = 0
          · subst hz
            go_wp2
            exact ⟨⟨1, rfl, Lib.hid (.inr (.inl ⟨rfl, rfl⟩)), trivial⟩, by simp [intOf]⟩
          · have p1 : (e5 != 0) = true := by simpa using hz
            have hv := HV.out
            rw [if_pos hz] at hv
            subst hv
            clear HV hz
            go_wp2
            refine bodyPost_ret (v := .agg #[.int .i64 e5, .int .i64 (-7)]) (res_c Try.results28 rfl (by (with_reducible repeat (first | exact S.out.e | apply Bk.al | apply Bk.dr | apply Bk.put' | (apply Bk.far; case hp => (simp [*] <;> omega)))); all_goals rfl) hu28 rfl (by kernel_rfl)) rfl ⟨by rfl, (by with_reducible repeat (first | exact S.out.b | refine below_drew1 ?_ | refine below_al ?_ _ | refine below_set ?_ (by simp <;> omega) _))⟩
        · by_cases hz : e6 = 0
          · subst hz
            go_wp2
            exact ⟨⟨2, rfl, Lib.hid (.inr (.inr (.inl ⟨rfl, rfl, rfl⟩))), trivial⟩, by simp [intOf]⟩
          · have p1 : (e6 != 0) = true := by simpa using hz
            have hv := HV.out
            rw [if_neg (by simp), if_pos hz] at hv
            subst hv
            clear HV hz
            go_wp2
            refine bodyPost_ret (v := .agg #[.int .i64 e6, .int .i64 (-8)]) (res_c Try.results28 rfl (by (with_reducible repeat (first | exact S.out.e | apply Bk.al | apply Bk.dr | apply Bk.put' | (apply Bk.far; case hp => (simp [*] <;> omega)))); all_goals rfl) hu28 rfl (by kernel_rfl)) rfl ⟨by rfl, (by with_reducible repeat (first | exact S.out.b | refine below_drew1 ?_ | refine below_al ?_ _ | refine below_set ?_ (by simp <;> omega) _))⟩
        · by_cases hz : e7 = 0
          · subst hz
            go_wp2
            exact ⟨⟨3, rfl, Lib.hid (.inr (.inr (.inr ⟨rfl, rfl, rfl, rfl⟩))), trivial⟩, by simp [intOf]⟩
          · have p1 : (e7 != 0) = true := by simpa using hz
            have hv := HV.out
            rw [if_neg (by simp), if_neg (by simp), if_pos hz] at hv
            subst hv
            clear HV hz
            go_wp2
            refine bodyPost_ret (v := .agg #[.int .i64 e7, .int .i64 (-9)]) (res_c Try.results28 rfl (by (with_reducible repeat (first | exact S.out.e | apply Bk.al | apply Bk.dr | apply Bk.put' | (apply Bk.far; case hp => (simp [*] <;> omega)))); all_goals rfl) hu28 rfl (by kernel_rfl)) rfl ⟨by rfl, (by with_reducible repeat (first | exact S.out.b | refine below_drew1 ?_ | refine below_al ?_ _ | refine below_set ?_ (by simp <;> omega) _))⟩
        · have hv := HV.out
          rw [if_neg (by simp), if_neg (by simp), if_neg (by simp)] at hv
          subst hv
          clear HV
          go_wp2
          refine bodyPost_ret (v := .agg #[.int .i64 0, .int .i64 0]) (res_c Try.results28 rfl (by (with_reducible repeat (first | exact S.out.e | apply Bk.al | apply Bk.dr | apply Bk.put' | (apply Bk.far; case hp => (simp [*] <;> omega)))); all_goals rfl) hu28 rfl (by kernel_rfl)) rfl ⟨by rfl, (by with_reducible repeat (first | exact S.out.b | refine below_drew1 ?_ | refine below_al ?_ _ | refine below_set ?_ (by simp <;> omega) _))⟩
end Go.Proofs.Ytnjplichhkmmhaa.CalW
