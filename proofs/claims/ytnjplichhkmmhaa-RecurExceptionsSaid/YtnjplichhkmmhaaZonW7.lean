import Derived.Test.YtnjplichhkmmhaaMg
/- Walk: zones.Offset. -/
namespace Go.Proofs.Ytnjplichhkmmhaa.CalW
open Go.RowKit Go.Proofs.Ytnjplichhkmmhaa.Base Go.Proofs.Ytnjplichhkmmhaa.Cal
set_option linter.unusedVariables false
set_option linter.unusedSimpArgs false

theorem c13 {w : World} {g h : Nat} {t t' : TypeId} {a0 a1 a2 a3 a4 a5 a6 a7 a8 a9 a10 f0 f1 : Value} (B : Bk w g t #[a0, a1, a2, a3, a4, a5, a6, a7, a8, a9, a10]) (F : Bk w h t' #[f0, f1]) :
    w.cell? ⟨g, 0, none⟩ = some a0 ∧ w.cell? ⟨g, 1, none⟩ = some a1 ∧ w.cell? ⟨g, 2, none⟩ = some a2 ∧ w.cell? ⟨g, 3, none⟩ = some a3 ∧ w.cell? ⟨g, 4, none⟩ = some a4 ∧ w.cell? ⟨g, 5, none⟩ = some a5 ∧ w.cell? ⟨g, 6, none⟩ = some a6 ∧ w.cell? ⟨g, 7, none⟩ = some a7 ∧ w.cell? ⟨g, 8, none⟩ = some a8 ∧ w.cell? ⟨g, 9, none⟩ = some a9 ∧ w.cell? ⟨g, 10, none⟩ = some a10 ∧ w.cell? ⟨h, 0, none⟩ = some f0 ∧ w.cell? ⟨h, 1, none⟩ = some f1 :=
  ⟨B.cell 0, B.cell 1, B.cell 2, B.cell 3, B.cell 4, B.cell 5, B.cell 6, B.cell 7, B.cell 8, B.cell 9, B.cell 10, F.cell 0, F.cell 1⟩
theorem fldY (W : World) (a b c d e f h : Int) : (Instr.field 34 (.agg #[.int .i64 a, .int .i64 b, .int .i64 c, .int .i64 d, .int .i64 e, .int .i64 f, .int .i64 h]) 0).run Try.prog W = .ok (.int .i64 a) W := by
  have hu := Try.underlying34
  simp [Instr.field, run_underlying hu, go_sem, asAgg]
attribute [local go_sem high] eqA28 fldY
set_option maxHeartbeats 4000000 in
set_option maxRecDepth 20000 in
theorem offset_calls (z : Zone) (t : Int) (w : World) (hs : z.name.size ≤ maxLen) (ht : -9223372036854775808 ≤ t) (ht' : t ≤ 9223372036854775807) :
    Calls Try.prog 17 #[zval z, .int .i64 t] w fun e w' => e = .returned (.tuple #[.int .i64 (offR z t).1, .agg #[.int .i64 (offR z t).2.1, .int .i64 (offR z t).2.2]]) ∧ Below w.heap.size w w' := by
  have hV := fun W => zvalidate_calls z W hs
  have hG := fun h => Zone.good_of (z := z) h
  have hS := fun h => Zone.st_of (z := z) h
  obtain ⟨nm, st, su, ⟨b0, b1, b2, b3⟩, ⟨e0, e1, e2, e3⟩⟩ := z
  have hu25 := Try.underlying25
  have hu28 := Try.underlying28
  have hu34 := Try.underlying34
  generalize hv : offR ⟨nm, st, su, ⟨b0, b1, b2, b3⟩, ⟨e0, e1, e2, e3⟩⟩ t = v
  have HV := Lib.hid hv
  clear hv
  generalize hk : Zone.fault ⟨nm, st, su, ⟨b0, b1, b2, b3⟩, ⟨e0, e1, e2, e3⟩⟩ = k at *
  have HK := Lib.hid hk
  have HVAL := Lib.hid hV
  have HG := Lib.hid hG
  have HS := Lib.hid hS
  clear hk hV hG hS
  go_enter Try.func17, Try.ntmps17
  go_upto_region 1 with fail
  have HZ := Lib.hid ((Bk.new w 25 #[.string nm, .int .i64 st, .int .i64 su, .int .i64 b0, .int .i64 b1, .int .i64 b2, .int .i64 b3, .int .i64 e0, .int .i64 e1, .int .i64 e2, .int .i64 e3]).al (.cells #[.int .i64 0, .int .i64 0] 28))
  have HE := Lib.hid (Bk.new' (n := w.heap.size + 1) (w.alloc (.cells #[.string nm, .int .i64 st, .int .i64 su, .int .i64 b0, .int .i64 b1, .int .i64 b2, .int .i64 b3, .int .i64 e0, .int .i64 e1, .int .i64 e2, .int .i64 e3] 25)) 28 #[.int .i64 0, .int .i64 0] (by simp))
  have HB := Lib.hid (below_al (below_al (Below.refl w.heap.size w) (.cells #[.string nm, .int .i64 st, .int .i64 su, .int .i64 b0, .int .i64 b1, .int .i64 b2, .int .i64 b3, .int .i64 e0, .int .i64 e1, .int .i64 e2, .int .i64 e3] 25)) (.cells #[.int .i64 0, .int .i64 0] 28))
  generalize (w.alloc (.cells #[.string nm, .int .i64 st, .int .i64 su, .int .i64 b0, .int .i64 b1, .int .i64 b2, .int .i64 b3, .int .i64 e0, .int .i64 e1, .int .i64 e2, .int .i64 e3] 25)).alloc (.cells #[.int .i64 0, .int .i64 0] 28) = w0 at *
  have cz := HZ.out.cell
  go_upto_region 2 with (go_at_call 15; refine (HVAL.out _).mono ?_; rintro e w1 ⟨rfl, hb⟩)
  have KZ := Lib.hid ((HZ.out.bel hb).al (.cells #[.int .i64 k.1, .int .i64 k.2] 28))
  have KE := Lib.hid ((HE.out.bel hb).al (.cells #[.int .i64 k.1, .int .i64 k.2] 28))
  have KF := Lib.hid (Bk.new w1 28 #[.int .i64 k.1, .int .i64 k.2])
  have KB := Lib.hid (below_al (below_go HB.out hb) (.cells #[.int .i64 k.1, .int .i64 k.2] 28))
  have n1 : ¬ w1.heap.size = w.heap.size := Nat.ne_of_gt (HZ.out.bel hb).lt
  have n2 : ¬ w1.heap.size = w.heap.size + 1 := Nat.ne_of_gt (HE.out.bel hb).lt
  have n3 : ¬ w.heap.size = w1.heap.size := fun h => n1 h.symm
  have n4 : ¬ w.heap.size + 1 = w1.heap.size := fun h => n2 h.symm
  have hg0 : w.heap.size ≤ w1.heap.size := Nat.le_of_lt (HZ.out.bel hb).lt
  clear cz HZ HE HB hb HVAL w0
  generalize hg : w1.heap.size = g at *
  clear hg
  generalize w1.alloc (.cells #[.int .i64 k.1, .int .i64 k.2] 28) = w2 at *
  clear w1
  have cz := KZ.out.cell
  have ce := KE.out.cell
  have fe := KE.out.frozen
  have cf := KF.out.cell
  have ff := KF.out.frozen
  by_cases hk : k = (0, 0)
  · have hgood := HG.out hk
    have hst := HS.out hk
    have s1 := hst.1
    have s2 := hst.2
    have HGD := Lib.hid hgood
    have HK0 := Lib.hid hk
    clear hst hgood
    subst hk
    have hC := fun W => check_calls t W ht ht'
    generalize hq : chk t = q at hC
    have HQ := Lib.hid hq
    have HC := Lib.hid hC
    clear hq hC
    go_upto_region 3 with fail
    have hgb : w.heap.size ≤ g := hg0
    go_cut [14] (fun s14 wx => Hid (Bk wx w.heap.size 25 #[.string nm, .int .i64 st, .int .i64 su, .int .i64 b0, .int .i64 b1, .int .i64 b2, .int .i64 b3, .int .i64 e0, .int .i64 e1, .int .i64 e2, .int .i64 e3] ∧ Bk wx (w.heap.size + 1) 28 #[.int .i64 0, .int .i64 0] ∧ Bk wx g 28 #[.int .i64 q.1, .int .i64 q.2] ∧ Below w.heap.size w wx))
    case first =>
      go_wp2_with (go_at_call 40; refine (HC.out _).mono ?_; rintro e w3 ⟨rfl, hb⟩; have JZ := Lib.hid (KZ.out.bel hb); have JE := Lib.hid (KE.out.bel hb); have JF := Lib.hid (KF.out.bel hb); have JB := Lib.hid (below_go KB.out hb); clear cz ce fe cf ff KZ KE KF KB hb; have KZ := JZ; have KE := JE; have KF := JF; have KB := JB; clear JZ JE JF JB; have cz := KZ.out.cell; have ce := KE.out.cell; have fe := KE.out.frozen; have cf := KF.out.cell; have ff := KF.out.frozen)
      go_meet
      exact Lib.hid ⟨(by (with_reducible repeat (first | exact KZ.out | apply Bk.al | apply Bk.dr | apply Bk.put' | (apply Bk.far; case hp => (simp [*] <;> omega)))); all_goals rfl), (by (with_reducible repeat (first | exact KE.out | apply Bk.al | apply Bk.dr | apply Bk.put' | (apply Bk.far; case hp => (simp [*] <;> omega)))); all_goals rfl), (by (with_reducible repeat (first | exact KF.out | apply Bk.al | apply Bk.dr | apply Bk.put' | (apply Bk.far; case hp => (simp [*] <;> omega)))); all_goals rfl), (by with_reducible repeat (first | exact KB.out | refine below_drew1 ?_ | refine below_al ?_ _ | refine below_set ?_ (by simp <;> omega) _))⟩
    case rest =>
      clear KZ KE KF KB cz ce fe cf ff
      obtain ⟨kz, ke, kf, kb⟩ := hcut.out
      have KZ := Lib.hid kz
      have KE := Lib.hid ke
      have KF := Lib.hid kf
      have KB := Lib.hid kb
      clear hcut kz ke kf kb
      have cz := KZ.out.cell; have ce := KE.out.cell; have fe := KE.out.frozen; have cf := KF.out.cell; have ff := KF.out.frozen
      by_cases hq0 : q = (0, 0)
      · have hq1 := HQ.out
        subst hq0
        have hb := chk_of hq1
        have hb1 := hb.1
        have hb2 := hb.2
        have HQ1 := Lib.hid hq1
        clear hb hq1
        refine (tf (inR (civ t st).y 2 3999)).elim (fun h4 => ?_) fun h4 => ?_
        · have hr : v = (0, (3, -8)) := by rw [← HV.out]; unfold offR; rw [HK.out, HQ1.out]; simp [h4]
          have HR := Lib.hid hr
          clear hr
          go_wp2_with (first | (go_at_call 41; refine (at_calls t st _ (by omega) (by omega) s1 s2).mono ?_; rintro e w3 ⟨rfl, hb⟩; have JZ := Lib.hid (KZ.out.bel hb); have JE := Lib.hid (KE.out.bel hb); have JF := Lib.hid (KF.out.bel hb); have JB := Lib.hid (below_go KB.out hb); clear cz ce fe cf ff KZ KE KF KB hb; have KZ := JZ; have KE := JE; have KF := JF; have KB := JB; clear JZ JE JF JB; have cz := KZ.out.cell; have ce := KE.out.cell; have fe := KE.out.frozen; have cf := KF.out.cell; have ff := KF.out.frozen; unfold dval) | (go_at_call 35; refine (zwithin_is h4 _).mono ?_; rintro e w' ⟨rfl, rfl⟩))
          exact bodyPost_ret (v := .tuple #[.int .i64 0, .agg #[.int .i64 3, .int .i64 (-8)]]) (res_tc Try.results17 rfl (by (with_reducible repeat (first | exact KE.out | apply Bk.al | apply Bk.dr | apply Bk.put' | (apply Bk.far; case hp => (simp [*] <;> omega)))); all_goals rfl) hu28 rfl (by kernel_rfl)) rfl ⟨by rw [HR.out], by with_reducible repeat (first | exact KB.out | refine below_drew1 ?_ | refine below_al ?_ _ | refine below_set ?_ (by simp <;> omega) _)⟩
        · have hr : v = (cur ⟨nm, st, su, ⟨b0, b1, b2, b3⟩, ⟨e0, e1, e2, e3⟩⟩ t (civ t st).y, (0, 0)) := by rw [← HV.out]; unfold offR; rw [HK.out, HQ1.out]; simp [h4]
          have HR := Lib.hid hr
          clear hr
          have y1 := (inR_t h4).1
          have y2 := (inR_t h4).2
          go_wp2_with (first | (go_at_call 41; refine (at_calls t st _ (by omega) (by omega) s1 s2).mono ?_; rintro e w3 ⟨rfl, hb⟩; have JZ := Lib.hid (KZ.out.bel hb); have JE := Lib.hid (KE.out.bel hb); have JF := Lib.hid (KF.out.bel hb); have JB := Lib.hid (below_go KB.out hb); clear cz ce fe cf ff KZ KE KF KB hb; have KZ := JZ; have KE := JE; have KF := JF; have KB := JB; clear JZ JE JF JB; have cz := KZ.out.cell; have ce := KE.out.cell; have fe := KE.out.frozen; have cf := KF.out.cell; have ff := KF.out.frozen; unfold dval) | (go_at_call 35; refine (zwithin_is h4 _).mono ?_; rintro e w' ⟨rfl, rfl⟩))
          go_region_held3 (fun w' => w'.cell? ⟨w.heap.size, 0, none⟩ = some (.string nm) ∧ w'.cell? ⟨w.heap.size, 1, none⟩ = some (.int .i64 st) ∧ w'.cell? ⟨w.heap.size, 2, none⟩ = some (.int .i64 su) ∧ w'.cell? ⟨w.heap.size, 3, none⟩ = some (.int .i64 b0) ∧ w'.cell? ⟨w.heap.size, 4, none⟩ = some (.int .i64 b1) ∧ w'.cell? ⟨w.heap.size, 5, none⟩ = some (.int .i64 b2) ∧ w'.cell? ⟨w.heap.size, 6, none⟩ = some (.int .i64 b3) ∧ w'.cell? ⟨w.heap.size, 7, none⟩ = some (.int .i64 e0) ∧ w'.cell? ⟨w.heap.size, 8, none⟩ = some (.int .i64 e1) ∧ w'.cell? ⟨w.heap.size, 9, none⟩ = some (.int .i64 e2) ∧ w'.cell? ⟨w.heap.size, 10, none⟩ = some (.int .i64 e3) ∧ w'.cell? ⟨g, 0, none⟩ = some (.int .i64 0) ∧ w'.cell? ⟨g, 1, none⟩ = some (.int .i64 0)) (first | exact c13 KZ.out.dr KF.out.dr | (apply c13; all_goals (with_reducible repeat (first | exact KZ.out.dr.bel hb | exact KF.out.dr.bel hb | (apply Bk.far; case hp => (simp [*] <;> omega)))))) ((go_at_call 42; refine (current_calls ⟨nm, st, su, ⟨b0, b1, b2, b3⟩, ⟨e0, e1, e2, e3⟩⟩ t _ _ HGD.out (by omega) (by omega)).mono ?_; rintro e w4 ⟨rfl, hb⟩; have KE4 := Lib.hid (KE.out.dr.bel hb); have ce := KE4.out.cell; have fe := KE4.out.frozen))
          go_wp2
          exact bodyPost_ret (v := .tuple #[.int .i64 (cur ⟨nm, st, su, ⟨b0, b1, b2, b3⟩, ⟨e0, e1, e2, e3⟩⟩ t (civ t st).y), .agg #[.int .i64 0, .int .i64 0]]) (res_tc Try.results17 rfl (by (with_reducible repeat (first | exact KE4.out | apply Bk.al | apply Bk.dr | apply Bk.put' | (apply Bk.far; case hp => (simp [*] <;> omega)))); all_goals rfl) hu28 rfl (by kernel_rfl)) rfl ⟨by rw [HR.out], by with_reducible repeat (first | exact below_go (below_drew1 KB.out) hb | refine below_drew1 ?_ | refine below_al ?_ _ | refine below_set ?_ (by simp <;> omega) _)⟩
      · have p1 := pair_no hq0
        have p2 := pair_no' hq0
        have hr : v = (0, q) := by rw [← HV.out]; unfold offR; rw [HK.out, HQ.out]; simp [hq0]
        have HR := Lib.hid hr
        clear hr hq0
        go_wp2_with fail
        go_region
        all_goals
          go_wp2
          exact bodyPost_ret (v := .tuple #[.int .i64 0, .agg #[.int .i64 q.1, .int .i64 q.2]]) (res_tc Try.results17 rfl (by (with_reducible repeat (first | exact KE.out | apply Bk.al | apply Bk.dr | apply Bk.put' | (apply Bk.far; case hp => (simp [*] <;> omega)))); all_goals rfl) hu28 rfl (by kernel_rfl)) rfl ⟨by rw [HR.out], by with_reducible repeat (first | exact KB.out | refine below_drew1 ?_ | refine below_al ?_ _ | refine below_set ?_ (by simp <;> omega) _)⟩
  · have p1 := pair_no hk
    have p2 := pair_no' hk
    have hr : v = (0, k) := by rw [← HV.out]; unfold offR; rw [HK.out, if_pos hk]
    have HR := Lib.hid hr
    clear hr hk
    go_wp2_with fail
    go_region
    all_goals
      go_wp2
      exact bodyPost_ret (v := .tuple #[.int .i64 0, .agg #[.int .i64 k.1, .int .i64 k.2]]) (res_tc Try.results17 rfl (by (with_reducible repeat (first | exact KE.out | exact KE1.out | exact KE2.out | apply Bk.al | apply Bk.dr | apply Bk.put' | (apply Bk.far; case hp => (simp [*] <;> omega)))); all_goals rfl) hu28 rfl (by kernel_rfl)) rfl ⟨by rw [HR.out], by with_reducible repeat (first | exact KB.out | refine below_drew1 ?_ | refine below_al ?_ _ | refine below_set ?_ (by simp <;> omega) _)⟩
end Go.Proofs.Ytnjplichhkmmhaa.CalW
