/- Walks: dates.Seconds, dates.Civil. -/
import Derived.Test.YtnjplichhkmmhaaCalW2
import Derived.Test.YtnjplichhkmmhaaCalEq
namespace Go.Proofs.Ytnjplichhkmmhaa.CalW
open Go.RowKit Go.Proofs.Ytnjplichhkmmhaa.Base Go.Proofs.Ytnjplichhkmmhaa.Cal
set_option linter.unusedVariables false
set_option linter.unusedSimpArgs false

/-- a date whose sums don't wrap. -/
structure Fits (D : Date) : Prop where
  y : 1 ≤ D.y
  y' : D.y ≤ 5000
  mo : 1 ≤ D.mo
  mo' : D.mo ≤ 12
  d : -1000 ≤ D.d
  d' : D.d ≤ 1000
  h : -1000 ≤ D.h
  h' : D.h ≤ 1000
  mi : -1000 ≤ D.mi
  mi' : D.mi ≤ 1000
  s : -1000 ≤ D.s
  s' : D.s ≤ 1000
  z : -1000 ≤ D.z
  z' : D.z ≤ 1000
set_option maxHeartbeats 1000000 in
set_option maxRecDepth 20000 in
theorem seconds_calls (d : Date) (w : World) (F : Fits d) :
    Calls Try.prog 69 #[dval d] w fun e w' => e = .returned (.int .i64 (secs d)) ∧ Below w.heap.size w w' := by
  obtain ⟨y, mo, d, h, mi, s, z⟩ := d
  obtain ⟨f1, f2, f3, f4, f5, f6, f7, f8, f9, f10, f11, f12, f13, f14⟩ := F
  dsimp only at *
  have hb := dnum_bd y mo d f1 (by omega) f3 f4 (by omega) (by omega)
  have b1 := hb.1
  have b2 := hb.2
  clear hb
  have hu := Try.underlying34
  go_enter Try.func69, Try.ntmps69
  go_wp2_with fail
  refine wp_region_quiet_lit (by kernel_rfl) (by kernel_rfl) ?_
  repeat (go_big_quiet_step ((go_at_call 78; with_reducible exact quiet_left (days_calls _ _ _ _ f1 f2 f3 f4 (by omega) (by omega)))))
  refine wpQuiet_nil ?_
  rintro _ ⟨nq, rfl⟩
  go_wp2
  go_ret
  refine ⟨ret_int ?_, by repeat (first | exact Below.refl _ _ | refine below_drewN ?_ _ | refine below_al ?_ _ | refine below_set ?_ (by simp) _)⟩
  rfl

attribute [local go_sem high] eqA28
set_option maxHeartbeats 2000000 in
set_option maxRecDepth 20000 in
theorem civil_calls (t z : Int) (w : World) (ht : -9223372036854775808 ≤ t) (ht' : t ≤ 9223372036854775807) :
    Calls Try.prog 25 #[.int .i64 t, .int .i64 z] w fun e w' => e = .returned (.tuple #[dval (civilR t z).1, fval (civilR t z).2]) ∧ Below w.heap.size w w' := by
  have hu := Try.underlying34
  have hu' := Try.underlying28
  generalize hr : civilR t z = r
  have HR := Lib.hid hr
  clear hr
  have C := fun W => check_calls t W ht ht'
  generalize hk : chk t = k at C
  have HK := Lib.hid hk
  clear hk
  have CH := Lib.hid C
  clear C
  go_enter Try.func25, Try.ntmps25
  go_upto_region 2 with (go_at_call 40; refine (CH.out _).mono ?_; rintro e w1 ⟨rfl, hb⟩; have B4 := Lib.hid (((Bk.new w 34 #[.int .i64 0, .int .i64 0, .int .i64 0, .int .i64 0, .int .i64 0, .int .i64 0, .int .i64 0]).al _).bel hb); have B5 := Lib.hid ((Bk.new' (n := w.heap.size + 1) (w.alloc _) 28 #[.int .i64 0, .int .i64 0] (by simp)).bel hb); have c4 := B4.out.cell; have d4 := B4.out.frozen; have c5 := B5.out.cell; have d5 := B5.out.frozen; have l4 := B4.out.lt; have l5 := B5.out.lt; have hbl := Lib.hid hb)
  have hb0 : Below w.heap.size w w1 := below_go (below_al (below_al (Below.refl _ _) _) _) hb
  clear hb hbl
  have HB := Lib.hid hb0
  clear hb0
  refine (tf (inR t (-68719476736) 68719476736)).elim (fun h1 => ?_) fun h1 => (tf (inR z (-900) 900)).elim (fun h2 => ?_) fun h2 => ?_
  · obtain rfl : k = (3, -2) := by rw [← HK.out]; simp [chk, h1]
    obtain rfl : r = (dzero, 3, -2) := by rw [← HR.out]; simp [civilR, h1]
    go_wp2
    go_region
    all_goals
      go_wp2
      exact bodyPost_ret (res_cc Try.results25 rfl rfl (by (with_reducible repeat (first | exact G4.out | exact G5.out | exact B4.out | exact B5.out | apply Bk.drN | apply Bk.dr | apply Bk.al | apply Bk.put' | (apply Bk.far; case hp => (simp <;> omega)) | fail)); all_goals rfl) (by (with_reducible repeat (first | exact G4.out | exact G5.out | exact B4.out | exact B5.out | apply Bk.drN | apply Bk.dr | apply Bk.al | apply Bk.put' | (apply Bk.far; case hp => (simp <;> omega)) | fail)); all_goals rfl) hu rfl (by kernel_rfl) hu' rfl (by kernel_rfl)) rfl ⟨rfl, by with_reducible repeat (first | exact HB.out | refine below_drewN ?_ _ | refine below_drew1 ?_ | refine below_al ?_ _ | refine below_set ?_ (by simp <;> omega) _ | refine below_go ?_ hb3 | refine below_go ?_ hb2)⟩
  · obtain rfl : k = (0, 0) := by rw [← HK.out]; simp [chk, h1]
    obtain rfl : r = (dzero, 3, -4) := by rw [← HR.out]; simp [civilR, h1, h2]
    go_wp2_with (go_at_call 49; refine (dwithin_is h2 _).mono ?_; rintro e w' ⟨rfl, rfl⟩)
    go_region
    all_goals
      go_wp2
      exact bodyPost_ret (res_cc Try.results25 rfl rfl (by (with_reducible repeat (first | exact G4.out | exact G5.out | exact B4.out | exact B5.out | apply Bk.drN | apply Bk.dr | apply Bk.al | apply Bk.put' | (apply Bk.far; case hp => (simp <;> omega)) | fail)); all_goals rfl) (by (with_reducible repeat (first | exact G4.out | exact G5.out | exact B4.out | exact B5.out | apply Bk.drN | apply Bk.dr | apply Bk.al | apply Bk.put' | (apply Bk.far; case hp => (simp <;> omega)) | fail)); all_goals rfl) hu rfl (by kernel_rfl) hu' rfl (by kernel_rfl)) rfl ⟨rfl, by with_reducible repeat (first | exact HB.out | refine below_drewN ?_ _ | refine below_drew1 ?_ | refine below_al ?_ _ | refine below_set ?_ (by simp <;> omega) _ | refine below_go ?_ hb3 | refine below_go ?_ hb2)⟩
  · obtain rfl : k = (0, 0) := by rw [← HK.out]; simp [chk, h1]
    refine (tf (civ t z).ok).elim (fun h3 => ?_) fun h3 => ?_
    · obtain rfl : r = (dzero, 3, -3) := by rw [← HR.out]; simp [civilR, h1, h2, h3]
      have h3' : dfault (civ t z) = (3, -3) := by simp [dfault, h3]
      have V := fun W => dvalidate_calls (civ t z) W
      rw [h3'] at V
      have HV := Lib.hid V
      clear h3' V
      go_wp2_with (first | (go_at_call 49; refine (dwithin_is h2 _).mono ?_; rintro e w' ⟨rfl, rfl⟩) | (go_at_call 41; refine (at_calls t z _ (by have := inR_t h1; omega) (by have := inR_t h1; omega) (inR_t h2).1 (inR_t h2).2).mono ?_; rintro e w2 ⟨rfl, hb2⟩; have E4 := Lib.hid ((B4.out.al _).bel hb2); have E5 := Lib.hid ((B5.out.al _).bel hb2); have E6 := Lib.hid ((Bk.new w1 _ _).bel hb2); have q1 : ¬ w.heap.size = w1.heap.size := Nat.ne_of_lt l4; have q2 : ¬ w1.heap.size = w.heap.size := Nat.ne_of_gt l4; have q3 : ¬ w.heap.size + 1 = w1.heap.size := Nat.ne_of_lt l5; have q4 : ¬ w1.heap.size = w.heap.size + 1 := Nat.ne_of_gt l5; have q5 : ¬ w.heap.size = w2.heap.size := Nat.ne_of_lt E4.out.lt; have q6 : ¬ w2.heap.size = w.heap.size := Nat.ne_of_gt E4.out.lt; have q7 : ¬ w.heap.size + 1 = w2.heap.size := Nat.ne_of_lt E5.out.lt; have q8 : ¬ w2.heap.size = w.heap.size + 1 := Nat.ne_of_gt E5.out.lt; clear c4 d4 c5 d5 l4 l5) | (go_at_call 50; refine (HV.out _).mono ?_; rintro e w3 ⟨rfl, hb3⟩; have G4 := Lib.hid ((E4.out.al _).bel hb3); have G5 := Lib.hid ((E5.out.al _).bel hb3); have c4 := G4.out.cell; have d4 := G4.out.frozen; have c5 := G5.out.cell; have d5 := G5.out.frozen; have c6 := ((E6.out.al _).bel hb3).cell; have c7 := ((Bk.new w2 _ _).bel hb3).cell; have l4 := G4.out.lt; have l5 := G5.out.lt; have l6 := ((E6.out.al _).bel hb3).lt; have l7 := ((Bk.new w2 _ _).bel hb3).lt))
      go_region
      all_goals
        go_wp2
        exact bodyPost_ret (res_cc Try.results25 rfl rfl (by (with_reducible repeat (first | exact G4.out | exact G5.out | exact B4.out | exact B5.out | apply Bk.drN | apply Bk.dr | apply Bk.al | apply Bk.put' | (apply Bk.far; case hp => (simp <;> omega)) | fail)); all_goals rfl) (by (with_reducible repeat (first | exact G4.out | exact G5.out | exact B4.out | exact B5.out | apply Bk.drN | apply Bk.dr | apply Bk.al | apply Bk.put' | (apply Bk.far; case hp => (simp <;> omega)) | fail)); all_goals rfl) hu rfl (by kernel_rfl) hu' rfl (by kernel_rfl)) rfl ⟨rfl, by with_reducible repeat (first | exact HB.out | refine below_drewN ?_ _ | refine below_drew1 ?_ | refine below_al ?_ _ | refine below_set ?_ (by simp <;> omega) _ | refine below_go ?_ hb3 | refine below_go ?_ hb2)⟩
    · obtain rfl : r = (civ t z, 0, 0) := by rw [← HR.out]; simp [civilR, h1, h2, h3]
      have h3' : dfault (civ t z) = (0, 0) := by simp [dfault, h3]
      have V := fun W => dvalidate_calls (civ t z) W
      rw [h3'] at V
      have HV := Lib.hid V
      clear h3' V
      go_wp2_with (first | (go_at_call 49; refine (dwithin_is h2 _).mono ?_; rintro e w' ⟨rfl, rfl⟩) | (go_at_call 41; refine (at_calls t z _ (by have := inR_t h1; omega) (by have := inR_t h1; omega) (inR_t h2).1 (inR_t h2).2).mono ?_; rintro e w2 ⟨rfl, hb2⟩; have E4 := Lib.hid ((B4.out.al _).bel hb2); have E5 := Lib.hid ((B5.out.al _).bel hb2); have E6 := Lib.hid ((Bk.new w1 _ _).bel hb2); have q1 : ¬ w.heap.size = w1.heap.size := Nat.ne_of_lt l4; have q2 : ¬ w1.heap.size = w.heap.size := Nat.ne_of_gt l4; have q3 : ¬ w.heap.size + 1 = w1.heap.size := Nat.ne_of_lt l5; have q4 : ¬ w1.heap.size = w.heap.size + 1 := Nat.ne_of_gt l5; have q5 : ¬ w.heap.size = w2.heap.size := Nat.ne_of_lt E4.out.lt; have q6 : ¬ w2.heap.size = w.heap.size := Nat.ne_of_gt E4.out.lt; have q7 : ¬ w.heap.size + 1 = w2.heap.size := Nat.ne_of_lt E5.out.lt; have q8 : ¬ w2.heap.size = w.heap.size + 1 := Nat.ne_of_gt E5.out.lt; clear c4 d4 c5 d5 l4 l5) | (go_at_call 50; refine (HV.out _).mono ?_; rintro e w3 ⟨rfl, hb3⟩; have G4 := Lib.hid ((E4.out.al _).bel hb3); have G5 := Lib.hid ((E5.out.al _).bel hb3); have c4 := G4.out.cell; have d4 := G4.out.frozen; have c5 := G5.out.cell; have d5 := G5.out.frozen; have c6 := ((E6.out.al _).bel hb3).cell; have c7 := ((Bk.new w2 _ _).bel hb3).cell; have l4 := G4.out.lt; have l5 := G5.out.lt; have l6 := ((E6.out.al _).bel hb3).lt; have l7 := ((Bk.new w2 _ _).bel hb3).lt))
      go_region
      all_goals
        go_wp2
        exact bodyPost_ret (res_cc Try.results25 rfl rfl (by (with_reducible repeat (first | exact G4.out | exact G5.out | exact B4.out | exact B5.out | apply Bk.drN | apply Bk.dr | apply Bk.al | apply Bk.put' | (apply Bk.far; case hp => (simp <;> omega)) | fail)); all_goals rfl) (by (with_reducible repeat (first | exact G4.out | exact G5.out | exact B4.out | exact B5.out | apply Bk.drN | apply Bk.dr | apply Bk.al | apply Bk.put' | (apply Bk.far; case hp => (simp <;> omega)) | fail)); all_goals rfl) hu rfl (by kernel_rfl) hu' rfl (by kernel_rfl)) rfl ⟨rfl, by with_reducible repeat (first | exact HB.out | refine below_drewN ?_ _ | refine below_drew1 ?_ | refine below_al ?_ _ | refine below_set ?_ (by simp <;> omega) _ | refine below_go ?_ hb3 | refine below_go ?_ hb2)⟩
end Go.Proofs.Ytnjplichhkmmhaa.CalW
