/- Walks: the turns of a zone. -/
import Derived.Test.YtnjplichhkmmhaaCalW3
import Derived.Test.YtnjplichhkmmhaaBase2
import Derived.Test.YtnjplichhkmmhaaCal2
namespace Go.Proofs.Ytnjplichhkmmhaa.CalW
open Go.RowKit Go.Proofs.Ytnjplichhkmmhaa.Base Go.Proofs.Ytnjplichhkmmhaa.Cal
set_option linter.unusedVariables false
set_option linter.unusedSimpArgs false

set_option maxHeartbeats 2000000 in
theorem zday_calls (mo wk wd mi y : Int) (w : World) (ht : Turn.ok ⟨mo, wk, wd, mi⟩ = true) (hy : 1 ≤ y) (hy' : y ≤ 4500) :
    Calls Try.prog 79 #[.agg #[.int .i64 mo, .int .i64 wk, .int .i64 wd, .int .i64 mi], .int .i64 y] w fun e w' => e = .returned (.int .i64 (tday ⟨mo, wk, wd, mi⟩ y)) ∧ Below w.heap.size w w' := by
  have b := Turn.ok_bd ht
  dsimp only at b
  obtain ⟨b1, b2, b3, b4, b5, b6, b7, b8⟩ := b
  clear ht
  have hu := Try.underlying23
  generalize hv : tday ⟨mo, wk, wd, mi⟩ y = v
  have HV := Lib.hid hv
  clear hv
  go_enter Try.func79, Try.ntmps79
  go_upto_region 1 with fail
  have HZ := Lib.hid (Bk.new w 23 #[.int .i64 mo, .int .i64 wk, .int .i64 wd, .int .i64 mi])
  have HB := Lib.hid (below_al (Below.refl w.heap.size w) (.cells #[.int .i64 mo, .int .i64 wk, .int .i64 wd, .int .i64 mi] 23))
  generalize w.alloc (.cells #[.int .i64 mo, .int .i64 wk, .int .i64 wd, .int .i64 mi] 23) = w0 at *
  have cz := HZ.out.cell
  have cs := HZ.out.s
  have l := mlen_bd y mo
  have l1 := l.1
  have l2 := l.2
  clear l
  refine (tf (wk == 5)).elim (fun h5 => ?_) fun h5 => ?_
  · have hw := wday_bd y mo 1
    have hw1 := hw.1
    have hw2 := hw.2
    clear hw
    have h5' : ¬ wk = 5 := by simpa using h5
    go_wp2_with fail
    refine wp_region_bel (by kernel_rfl) (by kernel_rfl) ?_
    repeat (go_big_quiet_step ((go_at_call 84; exact bel_eq (dow_calls _ _ _ _ hy (by omega) b1 b2 (by omega) (by omega)))))
    refine wpQuiet_nil ?_
    rintro _ ⟨s0, rfl⟩
    have hb0 := Lib.hid s0.below
    generalize s0.w = w1 at *
    clear s0 cs
    go_wp2
    go_ret
    refine ⟨ret_int ?_, below_go HB.out hb0.out⟩
    rw [← HV.out]
    unfold tday
    rw [if_neg h5']
    dsimp only
    omega
  · have hw := wday_bd y mo (mlen y mo)
    have hw1 := hw.1
    have hw2 := hw.2
    clear hw
    have h5' : wk = 5 := by simpa using h5
    have H5 := Lib.hid h5'
    clear h5'
    go_wp2_with (go_at_call 70; refine (length_calls _ _ _ hy (by omega)).mono ?_; rintro e w' ⟨rfl, rfl⟩)
    refine wp_region_bel (by kernel_rfl) (by kernel_rfl) ?_
    repeat (go_big_quiet_step ((go_at_call 84; exact bel_eq (dow_calls _ _ _ _ hy (by omega) b1 b2 (by omega) (by omega)))))
    refine wpQuiet_nil ?_
    rintro _ ⟨s0, rfl⟩
    have hb0 := Lib.hid s0.below
    generalize s0.w = w1 at *
    clear s0 cs
    go_wp2
    go_ret
    refine ⟨ret_int ?_, below_go HB.out hb0.out⟩
    rw [← HV.out]
    unfold tday
    rw [if_pos H5.out]
    dsimp only
    omega

set_option maxHeartbeats 2000000 in
theorem zat_calls (mo wk wd mi y off : Int) (w : World) (ht : Turn.ok ⟨mo, wk, wd, mi⟩ = true) (hy : 1 ≤ y) (hy' : y ≤ 4500) (ho : -900 ≤ off) (ho' : off ≤ 900) :
    Calls Try.prog 65 #[.agg #[.int .i64 mo, .int .i64 wk, .int .i64 wd, .int .i64 mi], .int .i64 y, .int .i64 off] w fun e w' => e = .returned (.int .i64 (tat ⟨mo, wk, wd, mi⟩ y off)) ∧ Below w.heap.size w w' := by
  have b := Turn.ok_bd ht
  dsimp only at b
  obtain ⟨b1, b2, b3, b4, b5, b6, b7, b8⟩ := b
  have td := tday_bd ht y
  have td1 := td.1
  have td2 := td.2
  have dn := dnum_bd y mo (tday ⟨mo, wk, wd, mi⟩ y) hy (by omega) b1 b2 (by omega) (by omega)
  have dn1 := dn.1
  have dn2 := dn.2
  clear td dn
  have HT := Lib.hid ht
  clear ht
  have hu := Try.underlying23
  go_enter Try.func65, Try.ntmps65
  go_upto_region 1 with fail
  have HZ := Lib.hid (Bk.new w 23 #[.int .i64 mo, .int .i64 wk, .int .i64 wd, .int .i64 mi])
  have HB := Lib.hid (below_al (Below.refl w.heap.size w) (.cells #[.int .i64 mo, .int .i64 wk, .int .i64 wd, .int .i64 mi] 23))
  generalize w.alloc (.cells #[.int .i64 mo, .int .i64 wk, .int .i64 wd, .int .i64 mi] 23) = w0 at *
  have cs := HZ.out.s
  refine wp_region_bel (by kernel_rfl) (by kernel_rfl) ?_
  repeat (go_big_quiet_step ((first | (go_at_call 79; exact bel_bel (zday_calls _ _ _ _ _ _ HT.out hy hy')) | (go_at_call 78; exact bel_eq (days_calls _ _ _ _ hy (by omega) b1 b2 (by omega) (by omega))))))
  refine wpQuiet_nil ?_
  rintro _ ⟨s0, rfl⟩
  have hb0 := Lib.hid s0.below
  generalize s0.w = w1 at *
  clear s0 cs
  go_wp2
  go_ret
  refine ⟨ret_int ?_, below_go HB.out hb0.out⟩
  rfl
end Go.Proofs.Ytnjplichhkmmhaa.CalW
