import Derived.Test.YtnjplichhkmmhaaZonW10
/- Walk: zones.Instants. -/
namespace Go.Proofs.Ytnjplichhkmmhaa.CalW
open Go.RowKit Go.Proofs.Ytnjplichhkmmhaa.Base Go.Proofs.Ytnjplichhkmmhaa.Cal
set_option linter.unusedVariables false
set_option linter.unusedSimpArgs false

/-- the call hands back a list of numbers and a fault. -/
def GivesIF (w : World) (r : List Int × (Int × Int)) (e : Ending) (w' : World) : Prop := ∃ A c, e = .returned (.tuple #[.slice A r.1.length c, .agg #[.int .i64 r.2.1, .int .i64 r.2.2]]) ∧ Rd w' iv A r.1 ∧ Fresh w A ∧ Below w.heap.size w w'
theorem givesIF_nil {w w' : World} {r : List Int × (Int × Int)} {k : Int × Int} {e : Ending} (h : r = ([], k)) (he : e = .returned (.tuple #[.slice none 0 0, .agg #[.int .i64 k.1, .int .i64 k.2]])) (hb : Below w.heap.size w w') : GivesIF w r e w' := by
  subst h
  exact ⟨none, 0, he, Rd.nil, Fresh.none w, hb⟩
theorem c20 {w : World} {g k h : Nat} {t t' t'' : TypeId} {a0 a1 a2 a3 a4 a5 a6 a7 a8 a9 a10 d0 d1 d2 d3 d4 d5 d6 f0 f1 : Value} (B : Bk w g t #[a0, a1, a2, a3, a4, a5, a6, a7, a8, a9, a10]) (D : Bk w k t'' #[d0, d1, d2, d3, d4, d5, d6]) (F : Bk w h t' #[f0, f1]) :
    w.cell? ⟨g, 0, none⟩ = some a0 ∧ w.cell? ⟨g, 1, none⟩ = some a1 ∧ w.cell? ⟨g, 2, none⟩ = some a2 ∧ w.cell? ⟨g, 3, none⟩ = some a3 ∧ w.cell? ⟨g, 4, none⟩ = some a4 ∧ w.cell? ⟨g, 5, none⟩ = some a5 ∧ w.cell? ⟨g, 6, none⟩ = some a6 ∧ w.cell? ⟨g, 7, none⟩ = some a7 ∧ w.cell? ⟨g, 8, none⟩ = some a8 ∧ w.cell? ⟨g, 9, none⟩ = some a9 ∧ w.cell? ⟨g, 10, none⟩ = some a10 ∧ w.cell? ⟨k, 0, none⟩ = some d0 ∧ w.cell? ⟨k, 1, none⟩ = some d1 ∧ w.cell? ⟨k, 2, none⟩ = some d2 ∧ w.cell? ⟨k, 3, none⟩ = some d3 ∧ w.cell? ⟨k, 4, none⟩ = some d4 ∧ w.cell? ⟨k, 5, none⟩ = some d5 ∧ w.cell? ⟨k, 6, none⟩ = some d6 ∧ w.cell? ⟨h, 0, none⟩ = some f0 ∧ w.cell? ⟨h, 1, none⟩ = some f1 :=
  ⟨B.cell 0, B.cell 1, B.cell 2, B.cell 3, B.cell 4, B.cell 5, B.cell 6, B.cell 7, B.cell 8, B.cell 9, B.cell 10, D.cell 0, D.cell 1, D.cell 2, D.cell 3, D.cell 4, D.cell 5, D.cell 6, F.cell 0, F.cell 1⟩
attribute [local go_sem high] eqA28
set_option maxHeartbeats 4000000 in
set_option maxRecDepth 20000 in
theorem instants_calls (z : Zone) (d : Date) (w : World) (hs : z.name.size ≤ maxLen) :
    Calls Try.prog 19 #[zval z, dval d] w (GivesIF w (instR z d)) := by
  have hV := fun W => zvalidate_calls z W hs
  have hC := fun W => zcheck_calls d W
  have hA := fun (W : World) (k0 : z.fault = (0, 0)) (q0 : locf d = (0, 0)) => all_calls z d W (Zone.good_of k0) (Zone.st_of k0).1 (Zone.st_of k0).2 (Zone.su_of k0).1 (Zone.su_of k0).2 (by
    have b := Date.ok_bd (locf_ok q0).1
    have m := mlen_bd d.y d.mo
    exact ⟨by dsimp only; omega, by dsimp only; omega, by dsimp only; omega, by dsimp only; omega, by dsimp only; omega, by dsimp only; omega, by dsimp only; omega, by dsimp only; omega, by dsimp only; omega, by dsimp only; omega, by dsimp only; omega, by dsimp only; omega, by dsimp only; omega, by dsimp only; omega⟩) (by have := (locf_ok q0).2; omega) (by have := (locf_ok q0).2; omega)
  obtain ⟨nm, st, su, ⟨b0, b1, b2, b3⟩, ⟨e0, e1, e2, e3⟩⟩ := z
  obtain ⟨y, mo, dd, h, mi, s, dz⟩ := d
  have hu25 := Try.underlying25
  have hu28 := Try.underlying28
  have hu34 := Try.underlying34
  generalize hv : instR ⟨nm, st, su, ⟨b0, b1, b2, b3⟩, ⟨e0, e1, e2, e3⟩⟩ ⟨y, mo, dd, h, mi, s, dz⟩ = v
  have HV := Lib.hid hv
  clear hv
  generalize hl : allL ⟨nm, st, su, ⟨b0, b1, b2, b3⟩, ⟨e0, e1, e2, e3⟩⟩ ⟨y, mo, dd, h, mi, s, dz⟩ = l at hA
  have HL := Lib.hid hl
  clear hl
  generalize hk : Zone.fault ⟨nm, st, su, ⟨b0, b1, b2, b3⟩, ⟨e0, e1, e2, e3⟩⟩ = k at *
  generalize hq : locf ⟨y, mo, dd, h, mi, s, dz⟩ = q at *
  have HK := Lib.hid hk
  have HQ := Lib.hid hq
  have HVAL := Lib.hid hV
  have HC := Lib.hid hC
  have HALL := Lib.hid hA
  clear hk hq hV hC hA
  go_enter Try.func19, Try.ntmps19
  go_upto_region 1 with fail
  have HZ := Lib.hid (((Bk.new w 25 #[.string nm, .int .i64 st, .int .i64 su, .int .i64 b0, .int .i64 b1, .int .i64 b2, .int .i64 b3, .int .i64 e0, .int .i64 e1, .int .i64 e2, .int .i64 e3]).al (.cells #[.int .i64 y, .int .i64 mo, .int .i64 dd, .int .i64 h, .int .i64 mi, .int .i64 s, .int .i64 dz] 34)).al (.cells #[.int .i64 0, .int .i64 0] 28))
  have HD := Lib.hid ((Bk.new' (n := w.heap.size + 1) (w.alloc (.cells #[.string nm, .int .i64 st, .int .i64 su, .int .i64 b0, .int .i64 b1, .int .i64 b2, .int .i64 b3, .int .i64 e0, .int .i64 e1, .int .i64 e2, .int .i64 e3] 25)) 34 #[.int .i64 y, .int .i64 mo, .int .i64 dd, .int .i64 h, .int .i64 mi, .int .i64 s, .int .i64 dz] (by simp)).al (.cells #[.int .i64 0, .int .i64 0] 28))
  have HE := Lib.hid (Bk.new' (n := w.heap.size + 2) ((w.alloc (.cells #[.string nm, .int .i64 st, .int .i64 su, .int .i64 b0, .int .i64 b1, .int .i64 b2, .int .i64 b3, .int .i64 e0, .int .i64 e1, .int .i64 e2, .int .i64 e3] 25)).alloc (.cells #[.int .i64 y, .int .i64 mo, .int .i64 dd, .int .i64 h, .int .i64 mi, .int .i64 s, .int .i64 dz] 34)) 28 #[.int .i64 0, .int .i64 0] (by simp))
  have HB := Lib.hid (below_al (below_al (below_al (Below.refl w.heap.size w) (.cells #[.string nm, .int .i64 st, .int .i64 su, .int .i64 b0, .int .i64 b1, .int .i64 b2, .int .i64 b3, .int .i64 e0, .int .i64 e1, .int .i64 e2, .int .i64 e3] 25)) (.cells #[.int .i64 y, .int .i64 mo, .int .i64 dd, .int .i64 h, .int .i64 mi, .int .i64 s, .int .i64 dz] 34)) (.cells #[.int .i64 0, .int .i64 0] 28))
  generalize ((w.alloc (.cells #[.string nm, .int .i64 st, .int .i64 su, .int .i64 b0, .int .i64 b1, .int .i64 b2, .int .i64 b3, .int .i64 e0, .int .i64 e1, .int .i64 e2, .int .i64 e3] 25)).alloc (.cells #[.int .i64 y, .int .i64 mo, .int .i64 dd, .int .i64 h, .int .i64 mi, .int .i64 s, .int .i64 dz] 34)).alloc (.cells #[.int .i64 0, .int .i64 0] 28) = w0 at *
  have cz := HZ.out.cell
  go_upto_region 2 with (go_at_call 15; refine (HVAL.out _).mono ?_; rintro e w1 ⟨rfl, hb⟩)
  have KZ := Lib.hid ((HZ.out.bel hb).al (.cells #[.int .i64 k.1, .int .i64 k.2] 28))
  have KD := Lib.hid ((HD.out.bel hb).al (.cells #[.int .i64 k.1, .int .i64 k.2] 28))
  have KE := Lib.hid ((HE.out.bel hb).al (.cells #[.int .i64 k.1, .int .i64 k.2] 28))
  have KF := Lib.hid (Bk.new w1 28 #[.int .i64 k.1, .int .i64 k.2])
  have KB := Lib.hid (below_al (below_go HB.out hb) (.cells #[.int .i64 k.1, .int .i64 k.2] 28))
  have n1 : ¬ w1.heap.size = w.heap.size := Nat.ne_of_gt (HZ.out.bel hb).lt
  have n2 : ¬ w1.heap.size = w.heap.size + 1 := Nat.ne_of_gt (HD.out.bel hb).lt
  have n5 : ¬ w1.heap.size = w.heap.size + 2 := Nat.ne_of_gt (HE.out.bel hb).lt
  have n3 : ¬ w.heap.size = w1.heap.size := fun h => n1 h.symm
  have n4 : ¬ w.heap.size + 1 = w1.heap.size := fun h => n2 h.symm
  have n6 : ¬ w.heap.size + 2 = w1.heap.size := fun h => n5 h.symm
  have hgb : w.heap.size ≤ w1.heap.size := Nat.le_of_lt (HZ.out.bel hb).lt
  clear cz HZ HD HE HB hb HVAL w0
  generalize hg : w1.heap.size = g at *
  clear hg
  generalize w1.alloc (.cells #[.int .i64 k.1, .int .i64 k.2] 28) = w2 at *
  clear w1
  have cz := KZ.out.cell
  have cd := KD.out.cell
  have ce := KE.out.cell
  have fe := KE.out.frozen
  have cf := KF.out.cell
  have ff := KF.out.frozen
  by_cases hk : k = (0, 0)
  · have HK0 := Lib.hid hk
    subst hk
    go_upto_region 3 with fail
    go_cut [13] (fun s13 wx => Hid (Bk wx w.heap.size 25 #[.string nm, .int .i64 st, .int .i64 su, .int .i64 b0, .int .i64 b1, .int .i64 b2, .int .i64 b3, .int .i64 e0, .int .i64 e1, .int .i64 e2, .int .i64 e3] ∧ Bk wx (w.heap.size + 1) 34 #[.int .i64 y, .int .i64 mo, .int .i64 dd, .int .i64 h, .int .i64 mi, .int .i64 s, .int .i64 dz] ∧ Bk wx (w.heap.size + 2) 28 #[.int .i64 0, .int .i64 0] ∧ Bk wx g 28 #[.int .i64 q.1, .int .i64 q.2] ∧ Below w.heap.size w wx))
    case first =>
      go_wp2_with (go_at_call 45; refine (HC.out _).mono ?_; rintro e w3 ⟨rfl, hb⟩; have JZ := Lib.hid (KZ.out.bel hb); have JD := Lib.hid (KD.out.bel hb); have JE := Lib.hid (KE.out.bel hb); have JF := Lib.hid (KF.out.bel hb); have JB := Lib.hid (below_go KB.out hb); clear cz cd ce fe cf ff KZ KD KE KF KB hb; have KZ := JZ; have KD := JD; have KE := JE; have KF := JF; have KB := JB; clear JZ JD JE JF JB; have cz := KZ.out.cell; have cd := KD.out.cell; have ce := KE.out.cell; have fe := KE.out.frozen; have cf := KF.out.cell; have ff := KF.out.frozen)
      go_meet
      exact Lib.hid ⟨(by (with_reducible repeat (first | exact KZ.out | apply Bk.al | apply Bk.dr | apply Bk.put' | (apply Bk.far; case hp => (simp [*] <;> omega)))); all_goals rfl), (by (with_reducible repeat (first | exact KD.out | apply Bk.al | apply Bk.dr | apply Bk.put' | (apply Bk.far; case hp => (simp [*] <;> omega)))); all_goals rfl), (by (with_reducible repeat (first | exact KE.out | apply Bk.al | apply Bk.dr | apply Bk.put' | (apply Bk.far; case hp => (simp [*] <;> omega)))); all_goals rfl), (by (with_reducible repeat (first | exact KF.out | apply Bk.al | apply Bk.dr | apply Bk.put' | (apply Bk.far; case hp => (simp [*] <;> omega)))); all_goals rfl), (by with_reducible repeat (first | exact KB.out | refine below_drew1 ?_ | refine below_al ?_ _ | refine below_set ?_ (by simp <;> omega) _))⟩
    case rest =>
      clear KZ KD KE KF KB cz cd ce fe cf ff
      obtain ⟨kz, kd, ke, kf, kb⟩ := hcut.out
      have KZ := Lib.hid kz
      have KD := Lib.hid kd
      have KE := Lib.hid ke
      have KF := Lib.hid kf
      have KB := Lib.hid kb
      clear hcut kz kd ke kf kb
      have cz := KZ.out.cell; have cd := KD.out.cell; have ce := KE.out.cell; have fe := KE.out.frozen; have cf := KF.out.cell; have ff := KF.out.frozen
      by_cases hq0 : q = (0, 0)
      · have HQ0 := Lib.hid hq0
        subst hq0
        have hr : v = (l, (0, 0)) := by rw [← HV.out]; unfold instR; rw [HK.out, HQ.out, HL.out]; simp
        have HR := Lib.hid hr
        clear hr
        go_wp2_with fail
        go_region_held3 (fun w' => w'.cell? ⟨w.heap.size, 0, none⟩ = some (.string nm) ∧ w'.cell? ⟨w.heap.size, 1, none⟩ = some (.int .i64 st) ∧ w'.cell? ⟨w.heap.size, 2, none⟩ = some (.int .i64 su) ∧ w'.cell? ⟨w.heap.size, 3, none⟩ = some (.int .i64 b0) ∧ w'.cell? ⟨w.heap.size, 4, none⟩ = some (.int .i64 b1) ∧ w'.cell? ⟨w.heap.size, 5, none⟩ = some (.int .i64 b2) ∧ w'.cell? ⟨w.heap.size, 6, none⟩ = some (.int .i64 b3) ∧ w'.cell? ⟨w.heap.size, 7, none⟩ = some (.int .i64 e0) ∧ w'.cell? ⟨w.heap.size, 8, none⟩ = some (.int .i64 e1) ∧ w'.cell? ⟨w.heap.size, 9, none⟩ = some (.int .i64 e2) ∧ w'.cell? ⟨w.heap.size, 10, none⟩ = some (.int .i64 e3) ∧ w'.cell? ⟨w.heap.size + 1, 0, none⟩ = some (.int .i64 y) ∧ w'.cell? ⟨w.heap.size + 1, 1, none⟩ = some (.int .i64 mo) ∧ w'.cell? ⟨w.heap.size + 1, 2, none⟩ = some (.int .i64 dd) ∧ w'.cell? ⟨w.heap.size + 1, 3, none⟩ = some (.int .i64 h) ∧ w'.cell? ⟨w.heap.size + 1, 4, none⟩ = some (.int .i64 mi) ∧ w'.cell? ⟨w.heap.size + 1, 5, none⟩ = some (.int .i64 s) ∧ w'.cell? ⟨w.heap.size + 1, 6, none⟩ = some (.int .i64 dz) ∧ w'.cell? ⟨g, 0, none⟩ = some (.int .i64 0) ∧ w'.cell? ⟨g, 1, none⟩ = some (.int .i64 0)) (first | exact c20 KZ.out.dr KD.out.dr KF.out.dr | (apply c20; all_goals (with_reducible repeat (first | exact KZ.out.dr.bel hb | exact KD.out.dr.bel hb | exact KF.out.dr.bel hb | (apply Bk.far; case hp => (simp [*] <;> omega)))))) ((go_at_call 46; refine (HALL.out _ (by simp) (by simp)).mono ?_; rintro e w4 ⟨A, c, rfl, hR, hF, hb⟩; have KE4 := Lib.hid (KE.out.dr.bel hb); have ce := KE4.out.cell; have fe := KE4.out.frozen; have HRD := Lib.hid hR; have HFR := Lib.hid hF; clear hR hF))
        have hlt := KE.out.dr.lt
        have HLT := Lib.hid hlt
        clear hlt
        go_wp2
        refine bodyPost_ret (v := .tuple #[.slice A l.length c, .agg #[.int .i64 0, .int .i64 0]]) (res_tc Try.results19 rfl (by (with_reducible repeat (first | exact KE4.out | apply Bk.al | apply Bk.dr | apply Bk.put' | (apply Bk.far; case hp => (simp [*] <;> omega)))); all_goals rfl) hu28 rfl (by kernel_rfl)) rfl ?_
        rw [HR.out]
        have hne : ∀ ad, A = some ad → ad.block ≠ w.heap.size + 2 := fun ad he => by
          have := HFR.out ad he
          have := HLT.out
          omega
        refine ⟨A, c, rfl, Rd.far (Rd.far HRD.out hne _) hne _, HFR.out.up ?_, (by with_reducible repeat (first | exact below_go (below_drew1 KB.out) hb | refine below_drew1 ?_ | refine below_al ?_ _ | refine below_set ?_ (by simp <;> omega) _))⟩
        exact (below_drew1 KB.out).size
      · have p1 := pair_no hq0
        have p2 := pair_no' hq0
        have hr : v = ([], q) := by rw [← HV.out]; unfold instR; rw [HK.out, HQ.out]; simp [hq0]
        have HR := Lib.hid hr
        clear hr hq0
        go_wp2_with fail
        go_region
        all_goals
          go_wp2
          exact bodyPost_ret (v := .tuple #[.slice none 0 0, .agg #[.int .i64 q.1, .int .i64 q.2]]) (res_tc Try.results19 rfl (by (with_reducible repeat (first | exact KE.out | apply Bk.al | apply Bk.dr | apply Bk.put' | (apply Bk.far; case hp => (simp [*] <;> omega)))); all_goals rfl) hu28 rfl (by kernel_rfl)) rfl (givesIF_nil HR.out rfl (by with_reducible repeat (first | exact KB.out | refine below_drew1 ?_ | refine below_al ?_ _ | refine below_set ?_ (by simp <;> omega) _)))
  · have p1 := pair_no hk
    have p2 := pair_no' hk
    have hr : v = ([], k) := by rw [← HV.out]; unfold instR; rw [HK.out, if_pos hk]
    have HR := Lib.hid hr
    clear hr hk
    go_wp2_with fail
    go_region
    all_goals
      go_wp2
      exact bodyPost_ret (v := .tuple #[.slice none 0 0, .agg #[.int .i64 k.1, .int .i64 k.2]]) (res_tc Try.results19 rfl (by (with_reducible repeat (first | exact KE.out | apply Bk.al | apply Bk.dr | apply Bk.put' | (apply Bk.far; case hp => (simp [*] <;> omega)))); all_goals rfl) hu28 rfl (by kernel_rfl)) rfl (givesIF_nil HR.out rfl (by with_reducible repeat (first | exact KB.out | refine below_drew1 ?_ | refine below_al ?_ _ | refine below_set ?_ (by simp <;> omega) _)))
end Go.Proofs.Ytnjplichhkmmhaa.CalW
