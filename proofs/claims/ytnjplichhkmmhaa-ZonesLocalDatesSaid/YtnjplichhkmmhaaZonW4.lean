/- Walk: the reference's fault of a zone. -/
import Derived.Test.YtnjplichhkmmhaaZonW3
namespace Go.Proofs.Ytnjplichhkmmhaa.CalW
open Go.RowKit Go.Proofs.Ytnjplichhkmmhaa.Base Go.Proofs.Ytnjplichhkmmhaa.Cal
set_option linter.unusedVariables false
set_option linter.unusedSimpArgs false

attribute [local go_sem high] eqA23
set_option maxHeartbeats 4000000 in
set_option maxRecDepth 20000 in
theorem zonefault_calls (z : Zone) (w : World) (hs : z.name.size ≤ maxLen) :
    Calls Try.prog 16 #[zval z] w fun e w' => e = .returned (.agg #[.int .i64 z.fault.1, .int .i64 z.fault.2]) ∧ Below w.heap.size w w' := by
  obtain ⟨nm, st, su, ⟨b0, b1, b2, b3⟩, ⟨e0, e1, e2, e3⟩⟩ := z
  dsimp only at *
  have hu25 := Try.underlying25
  have hu28 := Try.underlying28
  have hu23 := Try.underlying23
  generalize hf : Zone.fault ⟨nm, st, su, ⟨b0, b1, b2, b3⟩, ⟨e0, e1, e2, e3⟩⟩ = f
  have HF := Lib.hid hf
  clear hf
  go_enter Try.func16, Try.ntmps16
  go_upto_region 1 with fail
  have HZ := Lib.hid ((Bk.new w 25 #[.string nm, .int .i64 st, .int .i64 su, .int .i64 b0, .int .i64 b1, .int .i64 b2, .int .i64 b3, .int .i64 e0, .int .i64 e1, .int .i64 e2, .int .i64 e3]).al (.cells #[.int .i64 0, .int .i64 0] 28))
  have HE := Lib.hid (Bk.new' (n := w.heap.size + 1) (w.alloc (.cells #[.string nm, .int .i64 st, .int .i64 su, .int .i64 b0, .int .i64 b1, .int .i64 b2, .int .i64 b3, .int .i64 e0, .int .i64 e1, .int .i64 e2, .int .i64 e3] 25)) 28 #[.int .i64 0, .int .i64 0] (by simp))
  have HB := Lib.hid (below_al (below_al (Below.refl w.heap.size w) (.cells #[.string nm, .int .i64 st, .int .i64 su, .int .i64 b0, .int .i64 b1, .int .i64 b2, .int .i64 b3, .int .i64 e0, .int .i64 e1, .int .i64 e2, .int .i64 e3] 25)) (.cells #[.int .i64 0, .int .i64 0] 28))
  generalize (w.alloc (.cells #[.string nm, .int .i64 st, .int .i64 su, .int .i64 b0, .int .i64 b1, .int .i64 b2, .int .i64 b3, .int .i64 e0, .int .i64 e1, .int .i64 e2, .int .i64 e3] 25)).alloc (.cells #[.int .i64 0, .int .i64 0] 28) = w0 at *
  have cz := HZ.out.cell
  have ce := HE.out.cell
  have fe := HE.out.frozen
  have lz := HZ.out.lt
  have le := HE.out.lt
  refine (tf (isName nm)).elim (fun h1 => ?_) fun h1 => (tf (inR st (-900) 900)).elim (fun h2 => ?_) fun h2 => (tf (b0 == 0 && (b1 == 0 && (b2 == 0 && b3 == 0)))).elim (fun h3 => (tf (inR su (-900) 900)).elim (fun h6 => ?_) fun h6 => (tf (inR (su - st) 1 180)).elim (fun h7 => ?_) fun h7 => (tf (Turn.ok ⟨b0, b1, b2, b3⟩)).elim (fun h8 => ?_) fun h8 => (tf (Turn.ok ⟨e0, e1, e2, e3⟩)).elim (fun h9 => ?_) fun h9 => (tf (b0 == e0)).elim (fun h10 => ?_) fun h10 => ?_) (fun h3 => (tf (su == 0)).elim (fun h4 => ?_) fun h4 => (tf (e0 == 0 && (e1 == 0 && (e2 == 0 && e3 == 0)))).elim (fun h5 => ?_) fun h5 => ?_)
  all_goals
    try have h21 := (inR_t h2).1
    try have h22 := (inR_t h2).2
    try have h61 := (inR_t h6).1
    try have h62 := (inR_t h6).2
    try have h71 : st < su := by (have := (inR_t h7).1; omega)
    try have h72 : su ≤ st + 180 := by (have := (inR_t h7).2; omega)
    try have h73 : su ≤ st ∨ st + 180 < su := by (have := inR_f h7; omega)
    try have h41 : (su != 0) = true := by simpa using h4
    try have h42 : (su != 0) = false := by simpa using h4
    try have h51 : (!(e0 == 0) || (!(e1 == 0) || (!(e2 == 0) || !(e3 == 0)))) = true := by simpa using h5
    try have h52 : (!(e0 == 0) || (!(e1 == 0) || (!(e2 == 0) || !(e3 == 0)))) = false := by simpa using h5
    try have h43 : ¬ su = 0 := by simpa using h4
    try have h44 : 0 ≤ su ∧ su ≤ 0 := by (have : su = 0 := by simpa using h4); omega
    try have h53 : ¬ (e0 = 0 ∧ e1 = 0 ∧ e2 = 0 ∧ e3 = 0) := by simpa using h5
    try have h101 : ¬ b0 = e0 := by simpa using h10
    try (have h102 := eq_of_beq h10; subst h102)
    have hf := HF.out
    clear HF
    simp [Zone.fault, Turn.zero, *] at hf
    subst hf
    go_wp2_with (first | (go_at_call 37; refine (zoneName_calls nm _ hs).mono ?_; rintro e w' ⟨rfl, rfl⟩) | (go_at_call 24; refine (rIn_calls _ _ _ _).mono ?_; rintro e w' ⟨rfl, rfl⟩) | (go_at_call 39; refine (rturn_calls _ _ _ _ _).mono ?_; rintro e w1 ⟨rfl, hb⟩; (first | (have KZ := Lib.hid (HZ.out.bel hb)) | (have KZ := Lib.hid ((HZ.out.al _).bel hb))); (first | (have KE := Lib.hid (HE.out.bel hb)) | (have KE := Lib.hid ((HE.out.al _).bel hb))); (first | (have KB := Lib.hid (below_go HB.out hb)) | (have KB := Lib.hid (below_go (below_al HB.out _) hb))); clear cz ce fe lz le HZ HE HB hb; have HZ := KZ; have HE := KE; have HB := KB; clear KZ KE KB; have cz := HZ.out.cell; have ce := HE.out.cell; have fe := HE.out.frozen; have lz := HZ.out.lt; have le := HE.out.lt) | (go_at_call 38; refine (rAt_calls _ _ _).mono ?_; rintro e w1 ⟨rfl, hb⟩; (first | (have KZ := Lib.hid (HZ.out.bel hb)) | (have KZ := Lib.hid ((HZ.out.al _).bel hb))); (first | (have KE := Lib.hid (HE.out.bel hb)) | (have KE := Lib.hid ((HE.out.al _).bel hb))); (first | (have KB := Lib.hid (below_go HB.out hb)) | (have KB := Lib.hid (below_go (below_al HB.out _) hb))); clear cz ce fe lz le HZ HE HB hb; have HZ := KZ; have HE := KE; have HB := KB; clear KZ KE KB; have cz := HZ.out.cell; have ce := HE.out.cell; have fe := HE.out.frozen; have lz := HZ.out.lt; have le := HE.out.lt))
    all_goals first | (exfalso; clear hs; omega) | exact bodyPost_ret (res_c Try.results16 rfl (by (with_reducible repeat (first | exact HE.out | apply Bk.al | apply Bk.put' | (apply Bk.far; case hp => (simp <;> omega)))); all_goals rfl) hu28 rfl (by kernel_rfl)) rfl ⟨rfl, by with_reducible repeat (first | exact HB.out | refine below_al ?_ _ | refine below_set ?_ (by simp <;> omega) _)⟩ | (exfalso; simp_all; done)
end Go.Proofs.Ytnjplichhkmmhaa.CalW
