/- Walk: the law TransferChooseMatchesSpec. -/
import Derived.Test.YtjgohmfmalcjoaaDoorTrW23
namespace Go.Proofs.YtjgohmfmalcjoaaDoor.TrW
open Go.RowKit Go.Proofs.YtjgohmfmalcjoaaDoor.Base Go.Proofs.YtjgohmfmalcjoaaDoor.Tr
set_option linter.unusedVariables false
set_option linter.unusedSimpArgs false
attribute [local go_sem high] eqA25
set_option maxHeartbeats 2000000 in
set_option maxRecDepth 20000 in
theorem lawchoose_walk (A : Option Addr) (l : List UInt8) (c : Nat) (w : World) (h : Rd w bv A l) (hc : l.length ≤ c) (hc63 : c ≤ 9223372036854775807) (hA : A = none → c = 0) :
    Calls Tryd.prog 5 #[.slice A l.length c] w fun e w' => e = .returned (.bool true) ∧ Below w.heap.size w w' := by
  have hX := fun W => example_calls W
  have hC := fun W R => choose_calls A l c W R
  have hv : choF l = if 12000 < l.length then (⟨#[]⟩, (1, -1)) else if refL false l < 0 then (nm7, (0, 0)) else if (quoL l).length ≤ len64 l.length then (nmQ, (0, 0)) else (nm64, (0, 0)) := rfl
  have hu28 := Tryd.underlying25
  have n7 : (nm7.toList == [55, 98, 105, 116]) = true := by rw [Lib.toList_data]; rfl
  have n64 : (nm64.toList == [98, 97, 115, 101, 54, 52]) = true := by rw [Lib.toList_data]; rfl
  have nQ : (nmQ.toList == [113, 117, 111, 116, 101, 100, 45, 112, 114, 105, 110, 116, 97, 98, 108, 101]) = true := by rw [Lib.toList_data]; rfl
  have HX := Lib.hid hX
  have HR := Lib.hid h
  rcases Nat.lt_or_ge 12000 l.length with hlen | hlen
  · rw [if_pos hlen] at hv
    rw [hv] at hC
    have HC := Lib.hid hC
    have g1 : (12000 : Int) < (l.length : Int) := by omega
    clear hX hC hv h
    go_enter Tryd.func5, Tryd.ntmps5
    go_upto_region 3 with (go_at_call 12; ((with_reducible refine (HX.out _).mono ?_); rintro e w1 ⟨rfl, hb⟩; have HB := Lib.hid hb; have HR1 := Lib.hid (HR.out.bel hb); clear hb HR))
    go_upto_region 5 with (go_at_call 21; ((with_reducible refine (HC.out _ HR1.out).mono ?_); rintro e w2 ⟨rfl, hb⟩; skip))
    have K := Lib.hid (Bk.new w2 25 #[.int .i64 1, .int .i64 (-1)])
    have HB2 := Lib.hid (below_al (below_go HB.out hb) (.cells #[.int .i64 1, .int .i64 (-1)] 25))
    clear hb HB
    generalize w2.heap.size = g1 at *
    generalize w2.alloc (.cells #[.int .i64 1, .int .i64 (-1)] 25) = w3 at *
    have sk := K.out.s
    refine wp_region_bel (by kernel_rfl) (by kernel_rfl) ?_
    repeat (go_big_quiet_step ((go_at_call 15; exact bel_bel (rAt_calls _ _ _))))
    refine wpQuiet_nil ?_
    rintro _ ⟨s0, rfl⟩
    have hb0 := Lib.hid (below_go HB2.out s0.below)
    generalize s0.w = w9 at *
    clear s0 sk
    go_wp2
    go_ret
    exact ⟨rfl, hb0.out⟩
  · rw [if_neg (by omega)] at hv
    have g1 : (l.length : Int) ≤ 12000 := by omega
    have hF := fun W R => rrefused_calls A l c false W R (by unfold maxLen; omega)
    have hQ := fun W R => rquoted_calls A l c W R (by omega) hc hc63 hA
    have hL := fun W R => lines_calls A l c W R (by omega)
    have hll : (lines64 l).length = len64 l.length := by
      have h1 := chars64_len l
      have h2 := linesF_len (chars64 l).length (chars64 l) [] (by omega)
      show (linesF _ _ _).length = _
      rw [h2, h1]
      unfold len64
      simp
    rw [← hll] at hv
    generalize choF l = v at *
    generalize refL false l = n at *
    generalize quoL l = q at *
    generalize lines64 l = ls at *
    have HF := Lib.hid hF
    have HQ := Lib.hid hQ
    have HL := Lib.hid hL
    clear hX hF hQ hL hll h hA
    by_cases hn : n < 0
    · rw [if_pos hn] at hv
      subst hv
      have HC := Lib.hid hC
      clear hC
      go_enter Tryd.func5, Tryd.ntmps5
      go_upto_region 3 with (go_at_call 12; ((with_reducible refine (HX.out _).mono ?_); rintro e w1 ⟨rfl, hb⟩; have HB := Lib.hid hb; have HR1 := Lib.hid (HR.out.bel hb); clear hb HR))
      go_upto_region 4 with (go_at_call 21; ((with_reducible refine (HC.out _ HR1.out).mono ?_); rintro e w2 ⟨rfl, hb⟩; skip))
      have K := Lib.hid (Bk.new w2 25 #[.int .i64 0, .int .i64 0])
      have HR2 := Lib.hid ((HR1.out.bel hb).al (.cells #[.int .i64 0, .int .i64 0] 25))
      have HB2 := Lib.hid (below_al (below_go HB.out hb) (.cells #[.int .i64 0, .int .i64 0] 25))
      clear hb HB HR1
      generalize w2.heap.size = g1 at *
      generalize w2.alloc (.cells #[.int .i64 0, .int .i64 0] 25) = w3 at *
      have ck := K.out.cell
      go_wp2_with (go_at_call 16; ((with_reducible refine (HF.out _ HR2.out).mono ?_); rintro e w' ⟨rfl, rfl⟩))
      go_ret
      exact ⟨rfl, HB2.out⟩
    · rw [if_neg hn] at hv
      have g2 : 0 ≤ n := by omega
      by_cases hqq : q.length ≤ ls.length
      all_goals
        first
          | rw [if_pos hqq] at hv
          | rw [if_neg hqq] at hv
        subst hv
        have HC := Lib.hid hC
        first
          | have g3 : (q.length : Int) ≤ (ls.length : Int) := by omega
          | have g3 : (ls.length : Int) < (q.length : Int) := by omega
        clear hC hqq hn
        go_enter Tryd.func5, Tryd.ntmps5
        go_upto_region 3 with (go_at_call 12; ((with_reducible refine (HX.out _).mono ?_); rintro e w1 ⟨rfl, hb⟩; have HB := Lib.hid hb; have HR1 := Lib.hid (HR.out.bel hb); clear hb HR))
        go_upto_region 4 with (go_at_call 21; ((with_reducible refine (HC.out _ HR1.out).mono ?_); rintro e w2 ⟨rfl, hb⟩; skip))
        have K := Lib.hid (Bk.new w2 25 #[.int .i64 0, .int .i64 0])
        have HR2 := Lib.hid ((HR1.out.bel hb).al (.cells #[.int .i64 0, .int .i64 0] 25))
        have HB2 := Lib.hid (below_al (below_go HB.out hb) (.cells #[.int .i64 0, .int .i64 0] 25))
        clear hb HB HR1
        generalize w2.heap.size = g1 at *
        generalize w2.alloc (.cells #[.int .i64 0, .int .i64 0] 25) = w3 at *
        have ck := K.out.cell
        go_wp2_with (first
          | (go_at_call 16; ((with_reducible refine (HF.out _ HR2.out).mono ?_); rintro e w' ⟨rfl, rfl⟩))
          | (go_at_call 22; ((with_reducible refine (HQ.out _ HR2.out).mono ?_); rintro e w4 ⟨A4, c4, rfl, hr4, hf4, hb4⟩; have K4 := Lib.hid (K.out.bel hb4); have HR4 := Lib.hid (HR2.out.bel hb4); have HB4 := Lib.hid (below_go HB2.out hb4); clear hr4 hf4 hb4 ck; have ck := K4.out.cell))
          | (go_at_call 23; ((with_reducible refine (HL.out _ HR4.out).mono ?_); rintro e w5 ⟨A5, c5, rfl, hr5, hf5, hb5⟩; have K5 := Lib.hid (K4.out.bel hb5); have HB5 := Lib.hid (below_go HB4.out hb5); clear hr5 hf5 hb5 ck; have ck := K5.out.cell)))
        go_ret
        exact ⟨rfl, HB5.out⟩
end Go.Proofs.YtjgohmfmalcjoaaDoor.TrW
