/- Walk: the reference's fault of a date. -/
import Derived.Test.YtnjplichhkmmhaaCalW6
import Derived.Test.YtnjplichhkmmhaaBase2
namespace Go.Proofs.Ytnjplichhkmmhaa.CalW
open Go.RowKit Go.Proofs.Ytnjplichhkmmhaa.Base Go.Proofs.Ytnjplichhkmmhaa.Cal
set_option linter.unusedVariables false
set_option linter.unusedSimpArgs false

set_option maxHeartbeats 4000000 in
set_option maxRecDepth 20000 in
theorem datefault_calls (y mo d h mi s z : Int) (w : World) :
    Calls Try.prog 47 #[.agg #[.int .i64 y, .int .i64 mo, .int .i64 d, .int .i64 h, .int .i64 mi, .int .i64 s, .int .i64 z]] w fun e w' => e = .returned (.agg #[.int .i64 (dfault ⟨y, mo, d, h, mi, s, z⟩).1, .int .i64 (dfault ⟨y, mo, d, h, mi, s, z⟩).2]) ∧ Below w.heap.size w w' := by
  have hu := Try.underlying34
  have hu' := Try.underlying28
  generalize hf : dfault ⟨y, mo, d, h, mi, s, z⟩ = f
  have HF := Lib.hid hf
  clear hf
  go_enter Try.func47, Try.ntmps47
  go_wp2_with fail
  have B := (Bk.new w 34 #[.int .i64 y, .int .i64 mo, .int .i64 d, .int .i64 h, .int .i64 mi, .int .i64 s, .int .i64 z]).al (.cells #[.int .i64 0, .int .i64 0] 28)
  have B2 := Bk.new' (n := w.heap.size + 1) (w.alloc (.cells #[.int .i64 y, .int .i64 mo, .int .i64 d, .int .i64 h, .int .i64 mi, .int .i64 s, .int .i64 z] 34)) 28 #[.int .i64 0, .int .i64 0] (by simp)
  have HB := Lib.hid (below_al (below_al (Below.refl w.heap.size w) (.cells #[.int .i64 y, .int .i64 mo, .int .i64 d, .int .i64 h, .int .i64 mi, .int .i64 s, .int .i64 z] 34)) (.cells #[.int .i64 0, .int .i64 0] 28))
  generalize hw0 : (w.alloc (.cells #[.int .i64 y, .int .i64 mo, .int .i64 d, .int .i64 h, .int .i64 mi, .int .i64 s, .int .i64 z] 34)).alloc (.cells #[.int .i64 0, .int .i64 0] 28) = w0 at *
  clear hw0
  have HK := Lib.hid B
  have HK2 := Lib.hid B2
  clear B B2
  have cs := HK.out.s
  refine wp_region_bel (by kernel_rfl) (by kernel_rfl) ?_
  refine (tf (inR y 1 4000)).elim (fun h1 => ?_) fun h1 => (tf (inR mo 1 12)).elim (fun h2 => ?_) fun h2 => (tf (inR d 1 (mlen y mo))).elim (fun h3 => ?_) fun h3 => (tf (inR h 0 23)).elim (fun h4 => ?_) fun h4 => (tf (inR mi 0 59)).elim (fun h5 => ?_) fun h5 => (tf (inR s 0 59)).elim (fun h6 => ?_) fun h6 => (tf (inR z (-900) 900)).elim (fun h7 => ?_) fun h7 => ?_
  all_goals
    repeat (go_big_quiet_step ((first | (go_at_call 24; with_reducible (first | exact bel_eq (rIn_is h1 _) | exact bel_eq (rIn_is h2 _) | exact bel_eq (rIn_is h3 _) | exact bel_eq (rIn_is h4 _) | exact bel_eq (rIn_is h5 _) | exact bel_eq (rIn_is h6 _) | exact bel_eq (rIn_is h7 _))) | (go_at_call 67; exact bel_bel (mdays_calls y mo _ (inR_t h1).1 (inR_t h2).1 (inR_t h2).2)))))
    refine wpQuiet_nil ?_
    rintro _ ⟨s0, rfl⟩
    have hb0 := s0.below
    generalize s0.w = w1 at *
    clear s0 cs
    have hf := HF.out
    clear HF
    simp [dfault, Date.ok, *] at hf
    subst hf
    have E2 := HK2.out.bel hb0
    have HB1 := Lib.hid (below_go HB.out hb0)
    clear hb0 HK HK2 HB
    have c2 := E2.cell
    have d2 := E2.frozen
    have l2 := E2.lt
    have HE := Lib.hid E2
    clear E2
    go_wp2_with (go_at_call 38; refine (rAt_calls _ _ _).mono ?_; rintro e w2 ⟨rfl, hb⟩; have HE2 := Lib.hid (HE.out.bel hb); have c2 := HE2.out.cell; have d2 := HE2.out.frozen)
    exact bodyPost_ret (res_c Try.results47 rfl (by (with_reducible repeat (first | exact HE2.out | exact HE.out | apply Bk.drN | apply Bk.dr | apply Bk.al | apply Bk.put' | (apply Bk.far; case hp => (simp <;> omega)))); all_goals rfl) hu' rfl (by kernel_rfl)) rfl ⟨rfl, by with_reducible repeat (first | exact HB1.out | refine below_drewN ?_ _ | refine below_drew1 ?_ | refine below_al ?_ _ | refine below_set ?_ (by simp <;> omega) _ | refine below_go ?_ hb)⟩
end Go.Proofs.Ytnjplichhkmmhaa.CalW
