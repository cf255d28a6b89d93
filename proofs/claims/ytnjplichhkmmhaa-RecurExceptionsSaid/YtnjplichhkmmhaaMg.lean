import Derived.Test.YtnjplichhkmmhaaMf
import Derived.Test.YtnjplichhkmmhaaMc
import Derived.Test.YtnjplichhkmmhaaMa
import Derived.Test.YtnjplichhkmmhaaMe
/- Walk: the reference's fault of a zone. -/
namespace Go.Proofs.Ytnjplichhkmmhaa.CalW
open Go.RowKit Go.Proofs.Ytnjplichhkmmhaa.Base Go.Proofs.Ytnjplichhkmmhaa.Cal
set_option linter.unusedVariables false
set_option linter.unusedSimpArgs false

attribute [local go_sem high] eqA23
set_option maxHeartbeats 4000000 in
set_option maxRecDepth 20000 in
theorem zonefault_calls (z : Zone) (w : World) (hs : z.name.size ≤ maxLen) :
    Calls Try.prog 16 #[zval z] w fun e w' => e = .returned (.agg #[.int .i64 z.fault.1, .int .i64 z.fault.2]) ∧ Below w.heap.size w w' := by
  obtain ⟨nm, st, su, ⟨b0, b1, b2, b3⟩, ⟨e0, e1, e2, e3⟩⟩ := z
  dsimp only at *
  have hu25 := Try.underlying25
  have hu28 := Try.underlying28
  have hu23 := Try.underlying23
  generalize hf : Zone.fault ⟨nm, st, su, ⟨b0, b1, b2, b3⟩, ⟨e0, e1, e2, e3⟩⟩ = f
  have HF := Lib.hid hf
  clear hf
  go_enter Try.func16, Try.ntmps16
  go_upto_region 1 with fail
  have HZ := Lib.hid ((Bk.new w 25 #[.string nm, .int .i64 st, .int .i64 su, .int .i64 b0, .int .i64 b1, .int .i64 b2, .int .i64 b3, .int .i64 e0, .int .i64 e1, .int .i64 e2, .int .i64 e3]).al (.cells #[.int .i64 0, .int .i64 0] 28))
  have HE := Lib.hid (Bk.new' (n := w.heap.size + 1) (w.alloc (.cells #[.string nm, .int .i64 st, .int .i64 su, .int .i64 b0, .int .i64 b1, .int .i64 b2, .int .i64 b3, .int .i64 e0, .int .i64 e1, .int .i64 e2, .int .i64 e3] 25)) 28 #[.int .i64 0, .int .i64 0] (by simp))
  have HB := Lib.hid (below_al (below_al (Below.refl w.heap.size w) (.cells #[.string nm, .int .i64 st, .int .i64 su, .int .i64 b0, .int .i64 b1, .int .i64 b2, .int .i64 b3, .int .i64 e0, .int .i64 e1, .int .i64 e2, .int .i64 e3] 25)) (.cells #[.int .i64 0, .int .i64 0] 28))
  generalize (w.alloc (.cells #[.string nm, .int .i64 st, .int .i64 su, .int .i64 b0, .int .i64 b1, .int .i64 b2, .int .i64 b3, .int .i64 e0, .int .i64 e1, .int .i64 e2, .int .i64 e3] 25)).alloc (.cells #[.int .i64 0, .int .i64 0] 28) = w0 at *
  have cz := HZ.out.cell
  have ce := HE.out.cell
  have fe := HE.out.frozen
  have lz := HZ.out.lt
  have le := HE.out.lt
  refine (tf (isName nm)).elim (fun h1 => ?_) fun h1 => (tf (inR st (-900) 900)).elim (fun h2 => ?_) fun h2 => (tf (b0 == 0 && (b1 == 0 && (b2 == 0 && b3 == 0)))).elim (fun h3 => (tf (inR su (-900) 900)).elim (fun h6 => ?_) fun h6 => (tf (inR (su - st) 1 180)).elim (fun h7 => ?_) fun h7 => (tf (Turn.ok ⟨b0, b1, b2, b3⟩)).elim (fun h8 => ?_) fun h8 => (tf (Turn.ok ⟨e0, e1, e2, e3⟩)).elim (fun h9 => ?_) fun h9 => (tf (b0 == e0)).elim (fun h10 => ?_) fun h10 => ?_) (fun h3 => (tf (su == 0)).elim (fun h4 => ?_) fun h4 => (tf (e0 == 0 && (e1 == 0 && (e2 == 0 && e3 == 0)))).elim (fun h5 => ?_) fun h5 => ?_)
  all_goals
    try have h21 := (inR_t h2).1
    try have h22 := (inR_t h2).2
    try have h61 := (inR_t h6).1
    try have h62 := (inR_t h6).2
    try have h71 : st < su := by (have := (inR_t h7).1; omega)
    try have h72 : su ≤ st + 180 := by (have := (inR_t h7).2; omega)
    try have h73 : su ≤ st ∨ st + 180 < su := by (have := inR_f h7; omega)
    try have h41 : (su != 0) = true := by simpa using h4
    try have h42 : (su != 0) = false := by simpa using h4
    try have h51 : (!(e0 == 0) || (!(e1 == 0) || (!(e2 == 0) || !(e3 == 0)))) = true := by simpa using h5
    try have h52 : (!(e0 == 0) || (!(e1 == 0) || (!(e2 == 0) || !(e3 == 0)))) = false := by simpa using h5
    try have h43 : ¬ su = 0 := by simpa using h4
    try have h44 : 0 ≤ su ∧ su ≤ 0 := by (have : su = 0 := by simpa using h4); omega
    try have h53 : ¬ (e0 = 0 ∧ e1 = 0 ∧ e2 = 0 ∧ e3 = 0) := by simpa using h5
    try have h101 : ¬ b0 = e0 := by simpa using h10
    try (have h102 := eq_of_beq h10; subst h102)
    have hf := HF.out
    clear HF
    simp [Zone.fault, Turn.zero, *] at hf
    subst hf
    go_wp2_with (first | (go_at_call 37; refine (zoneName_calls nm _ hs).mono ?_; rintro e w' ⟨rfl, rfl⟩) | (go_at_call 24; refine (rIn_calls _ _ _ _).mono ?_; rintro e w' ⟨rfl, rfl⟩) | (go_at_call 39; refine (rturn_calls _ _ _ _ _).mono ?_; rintro e w1 ⟨rfl, hb⟩; (first | (have KZ := Lib.hid (HZ.out.bel hb)) | (have KZ := Lib.hid ((HZ.out.al _).bel hb))); (first | (have KE := Lib.hid (HE.out.bel hb)) | (have KE := Lib.hid ((HE.out.al _).bel hb))); (first | (have KB := Lib.hid (below_go HB.out hb)) | (have KB := Lib.hid (below_go (below_al HB.out _) hb))); clear cz ce fe lz le HZ HE HB hb; have HZ := KZ; have HE := KE; have HB := KB; clear KZ KE KB; have cz := HZ.out.cell; have ce := HE.out.cell; have fe := HE.out.frozen; have lz := HZ.out.lt; have le := HE.out.lt) | (go_at_call 38; refine (rAt_calls _ _ _).mono ?_; rintro e w1 ⟨rfl, hb⟩; (first | (have KZ := Lib.hid (HZ.out.bel hb)) | (have KZ := Lib.hid ((HZ.out.al _).bel hb))); (first | (have KE := Lib.hid (HE.out.bel hb)) | (have KE := Lib.hid ((HE.out.al _).bel hb))); (first | (have KB := Lib.hid (below_go HB.out hb)) | (have KB := Lib.hid (below_go (below_al HB.out _) hb))); clear cz ce fe lz le HZ HE HB hb; have HZ := KZ; have HE := KE; have HB := KB; clear KZ KE KB; have cz := HZ.out.cell; have ce := HE.out.cell; have fe := HE.out.frozen; have lz := HZ.out.lt; have le := HE.out.lt))
    all_goals first | (exfalso; clear hs; omega) | exact bodyPost_ret (res_c Try.results16 rfl (by (with_reducible repeat (first | exact HE.out | apply Bk.al | apply Bk.put' | (apply Bk.far; case hp => (simp <;> omega)))); all_goals rfl) hu28 rfl (by kernel_rfl)) rfl ⟨rfl, by with_reducible repeat (first | exact HB.out | refine below_al ?_ _ | refine below_set ?_ (by simp <;> omega) _)⟩ | (exfalso; simp_all; done)
end Go.Proofs.Ytnjplichhkmmhaa.CalW
/- Walks: the turns of a zone. -/
namespace Go.Proofs.Ytnjplichhkmmhaa.CalW
open Go.RowKit Go.Proofs.Ytnjplichhkmmhaa.Base Go.Proofs.Ytnjplichhkmmhaa.Cal
set_option linter.unusedVariables false
set_option linter.unusedSimpArgs false

set_option maxHeartbeats 2000000 in
theorem zday_calls (mo wk wd mi y : Int) (w : World) (ht : Turn.ok ⟨mo, wk, wd, mi⟩ = true) (hy : 1 ≤ y) (hy' : y ≤ 4500) :
    Calls Try.prog 79 #[.agg #[.int .i64 mo, .int .i64 wk, .int .i64 wd, .int .i64 mi], .int .i64 y] w fun e w' => e = .returned (.int .i64 (tday ⟨mo, wk, wd, mi⟩ y)) ∧ Below w.heap.size w w' := by
  have b := Turn.ok_bd ht
  dsimp only at b
  obtain ⟨b1, b2, b3, b4, b5, b6, b7, b8⟩ := b
  clear ht
  have hu := Try.underlying23
  generalize hv : tday ⟨mo, wk, wd, mi⟩ y = v
  have HV := Lib.hid hv
  clear hv
  go_enter Try.func79, Try.ntmps79
  go_upto_region 1 with fail
  have HZ := Lib.hid (Bk.new w 23 #[.int .i64 mo, .int .i64 wk, .int .i64 wd, .int .i64 mi])
  have HB := Lib.hid (below_al (Below.refl w.heap.size w) (.cells #[.int .i64 mo, .int .i64 wk, .int .i64 wd, .int .i64 mi] 23))
  generalize w.alloc (.cells #[.int .i64 mo, .int .i64 wk, .int .i64 wd, .int .i64 mi] 23) = w0 at *
  have cz := HZ.out.cell
  have cs := HZ.out.s
  have l := mlen_bd y mo
  have l1 := l.1
  have l2 := l.2
  clear l
  refine (tf (wk == 5)).elim (fun h5 => ?_) fun h5 => ?_
  · have hw := wday_bd y mo 1
    have hw1 := hw.1
    have hw2 := hw.2
    clear hw
    have h5' : ¬ wk = 5 := by simpa using h5
    go_wp2_with fail
    refine wp_region_bel (by kernel_rfl) (by kernel_rfl) ?_
    repeat (go_big_quiet_step ((go_at_call 84; exact bel_eq (dow_calls _ _ _ _ hy (by omega) b1 b2 (by omega) (by omega)))))
    refine wpQuiet_nil ?_
    rintro _ ⟨s0, rfl⟩
    have hb0 := Lib.hid s0.below
    generalize s0.w = w1 at *
    clear s0 cs
    go_wp2
    go_ret
    refine ⟨ret_int ?_, below_go HB.out hb0.out⟩
    rw [← HV.out]
    unfold tday
    rw [if_neg h5']
    dsimp only
    omega
  · have hw := wday_bd y mo (mlen y mo)
    have hw1 := hw.1
    have hw2 := hw.2
    clear hw
    have h5' : wk = 5 := by simpa using h5
    have H5 := Lib.hid h5'
    clear h5'
    go_wp2_with (go_at_call 70; refine (length_calls _ _ _ hy (by omega)).mono ?_; rintro e w' ⟨rfl, rfl⟩)
    refine wp_region_bel (by kernel_rfl) (by kernel_rfl) ?_
    repeat (go_big_quiet_step ((go_at_call 84; exact bel_eq (dow_calls _ _ _ _ hy (by omega) b1 b2 (by omega) (by omega)))))
    refine wpQuiet_nil ?_
    rintro _ ⟨s0, rfl⟩
    have hb0 := Lib.hid s0.below
    generalize s0.w = w1 at *
    clear s0 cs
    go_wp2
    go_ret
    refine ⟨ret_int ?_, below_go HB.out hb0.out⟩
    rw [← HV.out]
    unfold tday
    rw [if_pos H5.out]
    dsimp only
    omega

set_option maxHeartbeats 2000000 in
theorem zat_calls (mo wk wd mi y off : Int) (w : World) (ht : Turn.ok ⟨mo, wk, wd, mi⟩ = true) (hy : 1 ≤ y) (hy' : y ≤ 4500) (ho : -900 ≤ off) (ho' : off ≤ 900) :
    Calls Try.prog 65 #[.agg #[.int .i64 mo, .int .i64 wk, .int .i64 wd, .int .i64 mi], .int .i64 y, .int .i64 off] w fun e w' => e = .returned (.int .i64 (tat ⟨mo, wk, wd, mi⟩ y off)) ∧ Below w.heap.size w w' := by
  have b := Turn.ok_bd ht
  dsimp only at b
  obtain ⟨b1, b2, b3, b4, b5, b6, b7, b8⟩ := b
  have td := tday_bd ht y
  have td1 := td.1
  have td2 := td.2
  have dn := dnum_bd y mo (tday ⟨mo, wk, wd, mi⟩ y) hy (by omega) b1 b2 (by omega) (by omega)
  have dn1 := dn.1
  have dn2 := dn.2
  clear td dn
  have HT := Lib.hid ht
  clear ht
  have hu := Try.underlying23
  go_enter Try.func65, Try.ntmps65
  go_upto_region 1 with fail
  have HZ := Lib.hid (Bk.new w 23 #[.int .i64 mo, .int .i64 wk, .int .i64 wd, .int .i64 mi])
  have HB := Lib.hid (below_al (Below.refl w.heap.size w) (.cells #[.int .i64 mo, .int .i64 wk, .int .i64 wd, .int .i64 mi] 23))
  generalize w.alloc (.cells #[.int .i64 mo, .int .i64 wk, .int .i64 wd, .int .i64 mi] 23) = w0 at *
  have cs := HZ.out.s
  refine wp_region_bel (by kernel_rfl) (by kernel_rfl) ?_
  repeat (go_big_quiet_step ((first | (go_at_call 79; exact bel_bel (zday_calls _ _ _ _ _ _ HT.out hy hy')) | (go_at_call 78; exact bel_eq (days_calls _ _ _ _ hy (by omega) b1 b2 (by omega) (by omega))))))
  refine wpQuiet_nil ?_
  rintro _ ⟨s0, rfl⟩
  have hb0 := Lib.hid s0.below
  generalize s0.w = w1 at *
  clear s0 cs
  go_wp2
  go_ret
  refine ⟨ret_int ?_, below_go HB.out hb0.out⟩
  rfl
end Go.Proofs.Ytnjplichhkmmhaa.CalW
/- Walk: zones.Current. -/
namespace Go.Proofs.Ytnjplichhkmmhaa.CalW
open Go.RowKit Go.Proofs.Ytnjplichhkmmhaa.Base Go.Proofs.Ytnjplichhkmmhaa.Cal
set_option linter.unusedVariables false
set_option linter.unusedSimpArgs false

attribute [local go_sem high] eqA23
set_option maxHeartbeats 4000000 in
set_option maxRecDepth 20000 in
theorem current_calls (z : Zone) (t y : Int) (w : World) (hz : z.good) (hy : 2 ≤ y) (hy' : y ≤ 4400) :
    Calls Try.prog 42 #[zval z, .int .i64 t, .int .i64 y] w fun e w' => e = .returned (.int .i64 (cur z t y)) ∧ Below w.heap.size w w' := by
  obtain ⟨nm, st, su, ⟨b0, b1, b2, b3⟩, ⟨e0, e1, e2, e3⟩⟩ := z
  have hu25 := Try.underlying25
  have hu23 := Try.underlying23
  generalize hv : cur ⟨nm, st, su, ⟨b0, b1, b2, b3⟩, ⟨e0, e1, e2, e3⟩⟩ t y = v
  have HV := Lib.hid hv
  clear hv
  go_enter Try.func42, Try.ntmps42
  go_upto_region 1 with fail
  have HZ := Lib.hid (Bk.new w 25 #[.string nm, .int .i64 st, .int .i64 su, .int .i64 b0, .int .i64 b1, .int .i64 b2, .int .i64 b3, .int .i64 e0, .int .i64 e1, .int .i64 e2, .int .i64 e3])
  have HB := Lib.hid (below_al (Below.refl w.heap.size w) (.cells #[.string nm, .int .i64 st, .int .i64 su, .int .i64 b0, .int .i64 b1, .int .i64 b2, .int .i64 b3, .int .i64 e0, .int .i64 e1, .int .i64 e2, .int .i64 e3] 25))
  generalize w.alloc (.cells #[.string nm, .int .i64 st, .int .i64 su, .int .i64 b0, .int .i64 b1, .int .i64 b2, .int .i64 b3, .int .i64 e0, .int .i64 e1, .int .i64 e2, .int .i64 e3] 25) = w0 at *
  refine (tf (b0 == 0 && (b1 == 0 && (b2 == 0 && b3 == 0)))).elim (fun h3 => ?_) (fun h3 => ?_)
  · have hg : Turn.ok ⟨b0, b1, b2, b3⟩ = true ∧ Turn.ok ⟨e0, e1, e2, e3⟩ = true ∧ -900 ≤ st ∧ st ≤ 900 ∧ -900 ≤ su ∧ su ≤ 900 := by
      rcases hz with h | h
      · simp only [Turn.zero, h3] at h; cases h
      · exact h
    obtain ⟨g1, g2, g3, g4, g5, g6⟩ := hg
    have hct := cur_to ⟨nm, st, su, ⟨b0, b1, b2, b3⟩, ⟨e0, e1, e2, e3⟩⟩ t y h3
    have HC := Lib.hid hct
    have G1 := Lib.hid g1
    have G2 := Lib.hid g2
    clear hct hz g1 g2
    have cz := HZ.out.cell
    go_wp2_with fail
    go_loopw [7, 8, 9] (fun o l k wr => ∃ n : Nat, n ≤ 3 ∧ k = .int .i64 (y - 1 + n) ∧ o = .int .i64 (curTo ⟨nm, st, su, ⟨b0, b1, b2, b3⟩, ⟨e0, e1, e2, e3⟩⟩ t y n).1 ∧ l = .int .i64 (curTo ⟨nm, st, su, ⟨b0, b1, b2, b3⟩, ⟨e0, e1, e2, e3⟩⟩ t y n).2 ∧ Below w0.heap.size w0 wr) (fun _ _ k _ => (y + 2 - intOf k).toNat)
    case atStart => exact ⟨0, by omega, by simp, rfl, rfl, Below.refl _ _⟩
    case round =>
      obtain ⟨n, hn, rfl, rfl, rfl, hb⟩ := hrel
      have HL := Lib.hid hb
      have HZ1 := Lib.hid (HZ.out.bel hb)
      clear cz hb
      have cz := HZ1.out.cell
      generalize hp : curTo ⟨nm, st, su, ⟨b0, b1, b2, b3⟩, ⟨e0, e1, e2, e3⟩⟩ t y n = p
      have HP := Lib.hid hp
      clear hp
      by_cases hlt : n < 3
      · have hst : curTo ⟨nm, st, su, ⟨b0, b1, b2, b3⟩, ⟨e0, e1, e2, e3⟩⟩ t y (n + 1) = stepY ⟨nm, st, su, ⟨b0, b1, b2, b3⟩, ⟨e0, e1, e2, e3⟩⟩ t (y - 1 + n) p := by rw [← HP.out]; rfl
        have HS := Lib.hid hst
        clear hst
        have k1 : 1 ≤ y - 1 + (n : Int) := by omega
        have k2 : y - 1 + (n : Int) ≤ 4500 := by omega
        go_wp2_with (go_at_call 65; (with_reducible first | refine (zat_calls b0 b1 b2 b3 (y - 1 + n) st _ G1.out k1 k2 g3 g4).mono ?_ | refine (zat_calls e0 e1 e2 e3 (y - 1 + n) su _ G2.out k1 k2 g5 g6).mono ?_); rintro e w1 ⟨rfl, hb⟩; have KZ := Lib.hid (HZ1.out.bel hb); have KL := Lib.hid (below_go HL.out hb); clear cz HZ1 HL hb; have HZ1 := KZ; have HL := KL; clear KZ KL; have cz := HZ1.out.cell)
        all_goals
          go_roundw
          case rel =>
            refine ⟨n + 1, by omega, by go_num, ?_, ?_, HL.out⟩
            all_goals
              rw [HS.out]
              unfold stepY
              dsimp only
              simp (disch := omega) only [stepB_t, stepB_f, stepE_t, stepE_f]
          case measure => simp [intOf]; omega
      · have e : n = 3 := by omega
        subst e
        go_wp2_with fail
        go_ret
        exact ⟨ret_int (by rw [← HV.out, HC.out, HP.out]), below_go HB.out HL.out⟩
  · have hfix : cur ⟨nm, st, su, ⟨b0, b1, b2, b3⟩, ⟨e0, e1, e2, e3⟩⟩ t y = st := by
      unfold cur
      rw [if_pos (show Turn.zero ⟨b0, b1, b2, b3⟩ = true from h3)]
    have HX := Lib.hid hfix
    clear hfix hz
    have cz := HZ.out.cell
    go_wp2_with fail
    go_ret
    exact ⟨ret_int (by rw [← HV.out, HX.out]), HB.out⟩
end Go.Proofs.Ytnjplichhkmmhaa.CalW
