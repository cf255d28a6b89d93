import Derived.Test.YtnjplichhkmmhaaZonW12
/- Walk: the example of the zones' laws. -/
namespace Go.Proofs.Ytnjplichhkmmhaa.CalW
open Go.RowKit Go.Proofs.Ytnjplichhkmmhaa.Base Go.Proofs.Ytnjplichhkmmhaa.Cal
set_option linter.unusedVariables false
set_option linter.unusedSimpArgs false

def springZ : Zone := ⟨⟨#[122]⟩, 60, 120, ⟨3, 5, 0, 120⟩, ⟨10, 5, 0, 180⟩⟩
theorem spring_1 : offR springZ 1704067200 = (60, (0, 0)) := by kernel_rfl
theorem spring_2 : offR springZ 1719792000 = (120, (0, 0)) := by kernel_rfl
theorem spring_3 : instR springZ ⟨2024, 3, 31, 2, 30, 0, 0⟩ = ([], (0, 0)) := by kernel_rfl
theorem spring_4 : instR springZ ⟨2024, 10, 27, 2, 30, 0, 0⟩ = ([1729989000, 1729992600], (0, 0)) := by kernel_rfl
set_option maxRecDepth 20000 in
theorem spring_calls (w : World) :
    Calls Try.prog 33 #[] w fun e w' => e = .returned (.agg #[.string ⟨#[122]⟩, .int .i64 60, .int .i64 120, .int .i64 3, .int .i64 5, .int .i64 0, .int .i64 120, .int .i64 10, .int .i64 5, .int .i64 0, .int .i64 180]) ∧ Below w.heap.size w w' := by
  have hu25 := Try.underlying25
  have hu23 := Try.underlying23
  go_enter Try.func33, Try.ntmps33
  go_wp2
  exact bodyPost_ret (res_c Try.results33 rfl (Bk.new _ _ _) hu25 rfl (by kernel_rfl)) rfl ⟨rfl, below_al (Below.refl _ _) _⟩
theorem spr_off1 (w : World) : Calls Try.prog 17 #[.agg #[.string ⟨#[122]⟩, .int .i64 60, .int .i64 120, .int .i64 3, .int .i64 5, .int .i64 0, .int .i64 120, .int .i64 10, .int .i64 5, .int .i64 0, .int .i64 180], .int .i64 1704067200] w fun e w' => e = .returned (.tuple #[.int .i64 60, .agg #[.int .i64 0, .int .i64 0]]) ∧ Below w.heap.size w w' := by
  have h := offset_calls springZ 1704067200 w (of_decide_eq_true (by kernel_rfl)) (by omega) (by omega)
  rw [spring_1] at h
  exact h
theorem spr_off2 (w : World) : Calls Try.prog 17 #[.agg #[.string ⟨#[122]⟩, .int .i64 60, .int .i64 120, .int .i64 3, .int .i64 5, .int .i64 0, .int .i64 120, .int .i64 10, .int .i64 5, .int .i64 0, .int .i64 180], .int .i64 1719792000] w fun e w' => e = .returned (.tuple #[.int .i64 120, .agg #[.int .i64 0, .int .i64 0]]) ∧ Below w.heap.size w w' := by
  have h := offset_calls springZ 1719792000 w (of_decide_eq_true (by kernel_rfl)) (by omega) (by omega)
  rw [spring_2] at h
  exact h
theorem spr_in1 (w : World) : Calls Try.prog 19 #[.agg #[.string ⟨#[122]⟩, .int .i64 60, .int .i64 120, .int .i64 3, .int .i64 5, .int .i64 0, .int .i64 120, .int .i64 10, .int .i64 5, .int .i64 0, .int .i64 180], .agg #[.int .i64 2024, .int .i64 3, .int .i64 31, .int .i64 2, .int .i64 30, .int .i64 0, .int .i64 0]] w fun e w' => ∃ A c, e = .returned (.tuple #[.slice A 0 c, .agg #[.int .i64 0, .int .i64 0]]) ∧ Below w.heap.size w w' := by
  have h := instants_calls springZ ⟨2024, 3, 31, 2, 30, 0, 0⟩ w (of_decide_eq_true (by kernel_rfl))
  rw [spring_3] at h
  refine h.mono ?_
  rintro e w' ⟨A, c, he, _, _, hb⟩
  exact ⟨A, c, he, hb⟩
theorem spr_in2 (w : World) : Calls Try.prog 19 #[.agg #[.string ⟨#[122]⟩, .int .i64 60, .int .i64 120, .int .i64 3, .int .i64 5, .int .i64 0, .int .i64 120, .int .i64 10, .int .i64 5, .int .i64 0, .int .i64 180], .agg #[.int .i64 2024, .int .i64 10, .int .i64 27, .int .i64 2, .int .i64 30, .int .i64 0, .int .i64 0]] w fun e w' => ∃ A c, e = .returned (.tuple #[.slice A 2 c, .agg #[.int .i64 0, .int .i64 0]]) ∧ Rd w' iv A [1729989000, 1729992600] ∧ Below w.heap.size w w' := by
  have h := instants_calls springZ ⟨2024, 10, 27, 2, 30, 0, 0⟩ w (of_decide_eq_true (by kernel_rfl))
  rw [spring_4] at h
  refine h.mono ?_
  rintro e w' ⟨A, c, he, hR, _, hb⟩
  exact ⟨A, c, he, hR, hb⟩
theorem rd_two (w : World) (t : TypeId) (a b : Int) : Rd (w.alloc (.cells #[.int .i64 a, .int .i64 b] t)) iv (some ⟨w.heap.size, 0, none⟩) [a, b] := fun _ => by
  refine ⟨_, rfl, by simp, fun j x hx => ?_⟩
  have B := Bk.new w t #[.int .i64 a, .int .i64 b]
  match j, hx with
  | 0, hx => simp at hx; subst hx; exact B.cell 0
  | 1, hx => simp at hx; subst hx; exact B.cell 1
theorem spr_ints (A : Option Addr) (c : Nat) (w : World) (t : TypeId) (h : Rd w iv A [1729989000, 1729992600]) : Calls Try.prog 21 #[.slice A 2 c, .slice (some ⟨w.heap.size, 0, none⟩) 2 2] (w.alloc (.cells #[.int .i64 1729989000, .int .i64 1729992600] t)) fun e w' => e = .returned (.bool true) ∧ Below (w.alloc (.cells #[.int .i64 1729989000, .int .i64 1729992600] t)).heap.size (w.alloc (.cells #[.int .i64 1729989000, .int .i64 1729992600] t)) w' :=
  ints_calls A (some ⟨w.heap.size, 0, none⟩) [1729989000, 1729992600] [1729989000, 1729992600] c 2 _ (h.al _) (rd_two w t _ _) (of_decide_eq_true (by kernel_rfl)) (of_decide_eq_true (by kernel_rfl))
set_option maxHeartbeats 4000000 in
set_option maxRecDepth 20000 in
theorem zexample_calls (w : World) :
    Calls Try.prog 14 #[] w fun e w' => e = .returned (.bool true) ∧ Below w.heap.size w w' := by
  have hu28 := Try.underlying28
  have hu34 := Try.underlying34
  go_enter Try.func14, Try.ntmps14
  go_upto_region 2 with (first | (go_at_call 33; refine (spring_calls _).mono ?_; rintro e w1 ⟨rfl, hb1⟩) | (go_at_call 17; refine (spr_off1 _).mono ?_; rintro e w2 ⟨rfl, hb2⟩))
  have K1 := Lib.hid (Bk.new w2 28 #[.int .i64 0, .int .i64 0])
  have KB := Lib.hid (below_al (below_go hb1 hb2) (.cells #[.int .i64 0, .int .i64 0] 28))
  clear hb1 hb2
  generalize w2.heap.size = g1 at *
  generalize w2.alloc (.cells #[.int .i64 0, .int .i64 0] 28) = v1 at *
  clear w1 w2
  go_upto_region 3 with (first | (go_at_call 33; refine (spring_calls _).mono ?_; rintro e w1 ⟨rfl, hb1⟩) | (go_at_call 17; refine (spr_off2 _).mono ?_; rintro e w2 ⟨rfl, hb2⟩))
  have J1 := Lib.hid (((K1.out.bel hb1).bel hb2).al (.cells #[.int .i64 0, .int .i64 0] 28))
  have J2 := Lib.hid (Bk.new w2 28 #[.int .i64 0, .int .i64 0])
  have JB := Lib.hid (below_al (below_go (below_go KB.out hb1) hb2) (.cells #[.int .i64 0, .int .i64 0] 28))
  clear hb1 hb2 K1 KB
  generalize w2.heap.size = g2 at *
  generalize w2.alloc (.cells #[.int .i64 0, .int .i64 0] 28) = v2 at *
  clear w1 w2 v1
  go_upto_region 4 with (first | (go_at_call 33; refine (spring_calls _).mono ?_; rintro e w1 ⟨rfl, hb1⟩) | (go_at_call 19; refine (spr_in1 _).mono ?_; rintro e w2 ⟨A1, c1, rfl, hb2⟩))
  have K1 := Lib.hid (((J1.out.bel hb1).bel hb2).al (.cells #[.int .i64 0, .int .i64 0] 28))
  have K2 := Lib.hid (((J2.out.bel hb1).bel hb2).al (.cells #[.int .i64 0, .int .i64 0] 28))
  have K3 := Lib.hid (Bk.new w2 28 #[.int .i64 0, .int .i64 0])
  have KB := Lib.hid (below_al (below_go (below_go JB.out hb1) hb2) (.cells #[.int .i64 0, .int .i64 0] 28))
  clear hb1 hb2 J1 J2 JB
  generalize w2.heap.size = g3 at *
  generalize w2.alloc (.cells #[.int .i64 0, .int .i64 0] 28) = v3 at *
  clear w1 w2 v2
  go_upto_region 5 with (first | (go_at_call 33; refine (spring_calls _).mono ?_; rintro e w1 ⟨rfl, hb1⟩) | (go_at_call 19; refine (spr_in2 _).mono ?_; rintro e w2 ⟨A2, c2, rfl, hR, hb2⟩))
  have J1 := Lib.hid (((K1.out.bel hb1).bel hb2).al (.cells #[.int .i64 0, .int .i64 0] 28))
  have J2 := Lib.hid (((K2.out.bel hb1).bel hb2).al (.cells #[.int .i64 0, .int .i64 0] 28))
  have J3 := Lib.hid (((K3.out.bel hb1).bel hb2).al (.cells #[.int .i64 0, .int .i64 0] 28))
  have J4 := Lib.hid (Bk.new w2 28 #[.int .i64 0, .int .i64 0])
  have JR := Lib.hid (hR.al (.cells #[.int .i64 0, .int .i64 0] 28))
  have JB := Lib.hid (below_al (below_go (below_go KB.out hb1) hb2) (.cells #[.int .i64 0, .int .i64 0] 28))
  clear hb1 hb2 K1 K2 K3 KB hR
  generalize w2.heap.size = g4 at *
  generalize w2.alloc (.cells #[.int .i64 0, .int .i64 0] 28) = v4 at *
  clear w1 w2 v3
  have c1 := J1.out.cell
  have c2 := J2.out.cell
  have c3 := J3.out.cell
  have c4 := J4.out.cell
  go_wp2_with (go_at_call 21; refine (spr_ints A2 _ _ _ (by with_reducible repeat (first | exact JR.out | apply Rd.al | apply Rd.dr))).mono ?_; rintro e w5 ⟨rfl, hb5⟩)
  go_ret
  exact ⟨rfl, below_go (below_al JB.out _) hb5⟩
end Go.Proofs.Ytnjplichhkmmhaa.CalW
