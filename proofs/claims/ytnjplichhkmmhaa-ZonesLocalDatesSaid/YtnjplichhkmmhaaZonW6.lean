/- Walk: zones.Current. -/
import Derived.Test.YtnjplichhkmmhaaZonW5
import Derived.Test.YtnjplichhkmmhaaZonW3
namespace Go.Proofs.Ytnjplichhkmmhaa.CalW
open Go.RowKit Go.Proofs.Ytnjplichhkmmhaa.Base Go.Proofs.Ytnjplichhkmmhaa.Cal
set_option linter.unusedVariables false
set_option linter.unusedSimpArgs false

attribute [local go_sem high] eqA23
set_option maxHeartbeats 4000000 in
set_option maxRecDepth 20000 in
theorem current_calls (z : Zone) (t y : Int) (w : World) (hz : z.good) (hy : 2 ≤ y) (hy' : y ≤ 4400) :
    Calls Try.prog 42 #[zval z, .int .i64 t, .int .i64 y] w fun e w' => e = .returned (.int .i64 (cur z t y)) ∧ Below w.heap.size w w' := by
  obtain ⟨nm, st, su, ⟨b0, b1, b2, b3⟩, ⟨e0, e1, e2, e3⟩⟩ := z
  have hu25 := Try.underlying25
  have hu23 := Try.underlying23
  generalize hv : cur ⟨nm, st, su, ⟨b0, b1, b2, b3⟩, ⟨e0, e1, e2, e3⟩⟩ t y = v
  have HV := Lib.hid hv
  clear hv
  go_enter Try.func42, Try.ntmps42
  go_upto_region 1 with fail
  have HZ := Lib.hid (Bk.new w 25 #[.string nm, .int .i64 st, .int .i64 su, .int .i64 b0, .int .i64 b1, .int .i64 b2, .int .i64 b3, .int .i64 e0, .int .i64 e1, .int .i64 e2, .int .i64 e3])
  have HB := Lib.hid (below_al (Below.refl w.heap.size w) (.cells #[.string nm, .int .i64 st, .int .i64 su, .int .i64 b0, .int .i64 b1, .int .i64 b2, .int .i64 b3, .int .i64 e0, .int .i64 e1, .int .i64 e2, .int .i64 e3] 25))
  generalize w.alloc (.cells #[.string nm, .int .i64 st, .int .i64 su, .int .i64 b0, .int .i64 b1, .int .i64 b2, .int .i64 b3, .int .i64 e0, .int .i64 e1, .int .i64 e2, .int .i64 e3] 25) = w0 at *
  refine (tf (b0 == 0 && (b1 == 0 && (b2 == 0 && b3 == 0)))).elim (fun h3 => ?_) (fun h3 => ?_)
  · have hg : Turn.ok ⟨b0, b1, b2, b3⟩ = true ∧ Turn.ok ⟨e0, e1, e2, e3⟩ = true ∧ -900 ≤ st ∧ st ≤ 900 ∧ -900 ≤ su ∧ su ≤ 900 := by
      rcases hz with h | h
      · simp only [Turn.zero, h3] at h; cases h
      · exact h
    obtain ⟨g1, g2, g3, g4, g5, g6⟩ := hg
    have hct := cur_to ⟨nm, st, su, ⟨b0, b1, b2, b3⟩, ⟨e0, e1, e2, e3⟩⟩ t y h3
    have HC := Lib.hid hct
    have G1 := Lib.hid g1
    have G2 := Lib.hid g2
    clear hct hz g1 g2
    have cz := HZ.out.cell
    go_wp2_with fail
    go_loopw [7, 8, 9] (fun o l k wr => ∃ n : Nat, n ≤ 3 ∧ k = .int .i64 (y - 1 + n) ∧ o = .int .i64 (curTo ⟨nm, st, su, ⟨b0, b1, b2, b3⟩, ⟨e0, e1, e2, e3⟩⟩ t y n).1 ∧ l = .int .i64 (curTo ⟨nm, st, su, ⟨b0, b1, b2, b3⟩, ⟨e0, e1, e2, e3⟩⟩ t y n).2 ∧ Below w0.heap.size w0 wr) (fun _ _ k _ => (y + 2 - intOf k).toNat)
    case atStart => exact ⟨0, by omega, by simp, rfl, rfl, Below.refl _ _⟩
    case round =>
      obtain ⟨n, hn, rfl, rfl, rfl, hb⟩ := hrel
      have HL := Lib.hid hb
      have HZ1 := Lib.hid (HZ.out.bel hb)
      clear cz hb
      have cz := HZ1.out.cell
      generalize hp : curTo ⟨nm, st, su, ⟨b0, b1, b2, b3⟩, ⟨e0, e1, e2, e3⟩⟩ t y n = p
      have HP := Lib.hid hp
      clear hp
      by_cases hlt : n < 3
      · have hst : curTo ⟨nm, st, su, ⟨b0, b1, b2, b3⟩, ⟨e0, e1, e2, e3⟩⟩ t y (n + 1) = stepY ⟨nm, st, su, ⟨b0, b1, b2, b3⟩, ⟨e0, e1, e2, e3⟩⟩ t (y - 1 + n) p := by rw [← HP.out]; rfl
        have HS := Lib.hid hst
        clear hst
        have k1 : 1 ≤ y - 1 + (n : Int) := by omega
        have k2 : y - 1 + (n : Int) ≤ 4500 := by omega
        go_wp2_with (go_at_call 65; (with_reducible first | refine (zat_calls b0 b1 b2 b3 (y - 1 + n) st _ G1.out k1 k2 g3 g4).mono ?_ | refine (zat_calls e0 e1 e2 e3 (y - 1 + n) su _ G2.out k1 k2 g5 g6).mono ?_); rintro e w1 ⟨rfl, hb⟩; have KZ := Lib.hid (HZ1.out.bel hb); have KL := Lib.hid (below_go HL.out hb); clear cz HZ1 HL hb; have HZ1 := KZ; have HL := KL; clear KZ KL; have cz := HZ1.out.cell)
        all_goals
          go_roundw
          case rel =>
            refine ⟨n + 1, by omega, by go_num, ?_, ?_, HL.out⟩
            all_goals
              rw [HS.out]
              unfold stepY
              dsimp only
              simp (disch := omega) only [stepB_t, stepB_f, stepE_t, stepE_f]
          case measure => simp [intOf]; omega
      · have e : n = 3 := by omega
        subst e
        go_wp2_with fail
        go_ret
        exact ⟨ret_int (by rw [← HV.out, HC.out, HP.out]), below_go HB.out HL.out⟩
  · have hfix : cur ⟨nm, st, su, ⟨b0, b1, b2, b3⟩, ⟨e0, e1, e2, e3⟩⟩ t y = st := by
      unfold cur
      rw [if_pos (show Turn.zero ⟨b0, b1, b2, b3⟩ = true from h3)]
    have HX := Lib.hid hfix
    clear hfix hz
    have cz := HZ.out.cell
    go_wp2_with fail
    go_ret
    exact ⟨ret_int (by rw [← HV.out, HX.out]), HB.out⟩
end Go.Proofs.Ytnjplichhkmmhaa.CalW
