import Derived.Test.YtnjplichhkmmhaaRecL3
/- Walk: the law RecurWeekly. -/
namespace Go.Proofs.Ytnjplichhkmmhaa.CalW
open Go.RowKit Go.Proofs.Ytnjplichhkmmhaa.Base Go.Proofs.Ytnjplichhkmmhaa.Cal
set_option linter.unusedVariables false
set_option linter.unusedSimpArgs false
attribute [local go_sem high] eqA28
theorem LwS.put {w wr : World} {zc dc rc rc' : Array Value} (h : LwS w wr zc dc rc) (i : Nat) (v : Value) (e : rc' = rc.setIfInBounds i v) : LwS w (wr.setCell ⟨w.heap.size + 1 + 1, i, none⟩ v) zc dc rc' :=
  ⟨h.z.far (by simp; omega) v, h.d.far (by simp) v, h.u.put' i v e, below_set h.b (by simp; omega) v⟩
theorem daily_at {w : World} {r : Rule} {sr : RS} (h : RuleAt w r sr) : RuleAt w r.daily ⟨none, 0, sr.a6, sr.c6, sr.a7, sr.c7⟩ :=
  ⟨Rd.nil, h.h6, h.h7, by simp [Rule.daily], h.l6, h.l7, by simp [Rule.daily, I64], h.i6, h.i7, h.u0, h.u1⟩
theorem week_at {w : World} {r : Rule} {sr : RS} {A : Option Addr} {c : Nat} (h : RuleAt w r sr) (hA : Rd w iv A [0, 1, 2, 3, 4, 5, 6]) : RuleAt w r.week ⟨A, c, sr.a6, sr.c6, sr.a7, sr.c7⟩ :=
  ⟨hA, h.h6, h.h7, by simp [Rule.week], h.l6, h.l7, by simp [Rule.week, I64], h.i6, h.i7, h.u0, h.u1⟩
theorem rd_seven (w : World) (t : TypeId) : Rd (w.alloc (.cells #[.int .i64 0, .int .i64 1, .int .i64 2, .int .i64 3, .int .i64 4, .int .i64 5, .int .i64 6] t)) iv (some ⟨w.heap.size, 0, none⟩) [0, 1, 2, 3, 4, 5, 6] := fun _ => by
  refine ⟨_, rfl, by simp, fun j x hx => ?_⟩
  have B := (Bk.new w t #[.int .i64 0, .int .i64 1, .int .i64 2, .int .i64 3, .int .i64 4, .int .i64 5, .int .i64 6]).cell
  match j, hx with
  | 0, hx => have := B 0; simp at hx; subst hx; simp [Addr.add]
  | 1, hx => have := B 1; simp at hx; subst hx; simp [Addr.add]
  | 2, hx => have := B 2; simp at hx; subst hx; simp [Addr.add]
  | 3, hx => have := B 3; simp at hx; subst hx; simp [Addr.add]
  | 4, hx => have := B 4; simp at hx; subst hx; simp [Addr.add]
  | 5, hx => have := B 5; simp at hx; subst hx; simp [Addr.add]
  | 6, hx => have := B 6; simp at hx; subst hx; simp [Addr.add]
  | n + 7, hx => simp at hx
set_option maxHeartbeats 2000000 in
set_option maxRecDepth 20000 in
theorem lawweekly_walk (z : Zone) (d : Date) (r : Rule) (sr : RS) (a b : Int) (w : World) (hs : z.name.size ≤ maxLen) (hd : True) (hR : RuleAt w r sr) (ia0 : -9223372036854775808 ≤ a) (ia1 : a ≤ 9223372036854775807) (ib0 : -9223372036854775808 ≤ b) (ib1 : b ≤ 9223372036854775807) :
    Calls Try.prog 12 #[zval z, dval d, rval r sr, .int .i64 a, .int .i64 b] w fun e w' => e = .returned (.bool true) ∧ Below w.heap.size w w' := by
  have hX := fun W => rexample_calls W
  have hB := fun W A => between_calls z d r.daily ⟨none, 0, sr.a6, sr.c6, sr.a7, sr.c7⟩ a b W hs A ia0 ia1 ib0 ib1
  have hB2 := fun A5 c5 W A => between_calls z d r.week ⟨A5, c5, sr.a6, sr.c6, sr.a7, sr.c7⟩ a b W hs A ia0 ia1 ib0 ib1
  rw [week_btw, week_bet] at hB2
  have hL : (if btwF z d r.daily a b = (0, 0) then betL z d r.daily a b else []).length ≤ maxLen := by
    split
    · rename_i h
      have := betL_len (z := z) (d := d) (a := a) (b := b) (btwF_ok h).2.2.2
      unfold maxLen
      omega
    · simp
  generalize (if btwF z d r.daily a b = (0, 0) then betL z d r.daily a b else []) = LL at *
  generalize btwF z d r.daily a b = f at *
  have hu25 := Try.underlying25
  have hu34 := Try.underlying34
  have hu49 := Try.underlying49
  have hu28 := Try.underlying28
  have S : Hid (LwS w (((w.alloc (.cells (zcells z) 25)).alloc (.cells (dcells d) 34)).alloc (.cells (rcells r sr) 49)) (zcells z) (dcells d) (rcells r sr)) := Lib.hid
    ⟨((Bk.new w _ _).al _).al _, (Bk.new' (w.alloc (.cells (zcells z) 25)) _ _ (by simp)).al _, Bk.new' ((w.alloc (.cells (zcells z) 25)).alloc (.cells (dcells d) 34)) _ _ (by simp), below_al (below_al (below_al (Below.refl _ _) _) _) _⟩
  have HX := Lib.hid hX
  have HB := Lib.hid hB
  have HB2 := Lib.hid hB2
  have HL := Lib.hid hL
  have HRA := Lib.hid hR
  clear hX hB hB2 hL hR hs
  go_enter Try.func12, Try.ntmps12
  go_upto_region 1 with fail
  generalize ((w.alloc (.cells (zcells z) 25)).alloc (.cells (dcells d) 34)).alloc (.cells (rcells r sr) 49) = w0 at *
  go_upto_region 3 with (go_at_call 27; ((with_reducible refine (HX.out _).mono ?_); rintro e w1 ⟨rfl, hb⟩; have T := Lib.hid (S.out.bel hb); clear S hb; have S := T; clear T))
  have cr := S.out.u.cell
  have fr := S.out.u.frozen
  go_upto_region 6 with fail
  have T := Lib.hid (((S.out.put 1 (.int .i64 1) rfl).put 5 (.slice none 0 0) rfl).put (rc' := rcells r.daily ⟨none, 0, sr.a6, sr.c6, sr.a7, sr.c7⟩) 0 (.int .i64 1) rfl)
  clear S cr fr
  have S := T
  clear T
  generalize ((w1.setCell ⟨w.heap.size + 1 + 1, 1, none⟩ (.int .i64 1)).setCell ⟨w.heap.size + 1 + 1, 5, none⟩ (.slice none 0 0)).setCell ⟨w.heap.size + 1 + 1, 0, none⟩ (.int .i64 1) = w2 at *
  clear w1
  have cz := S.out.z.cell; have cd := S.out.d.cell; have cr := S.out.u.cell
  go_upto_region 7 with (go_at_call 30; ((with_reducible refine (HB.out _ (daily_at (HRA.out.bel S.out.b))).mono ?_); rintro e w3 ⟨A1, c1, rfl, hown, hb⟩))
  have T := Lib.hid ((S.out.bel hb).al (.cells #[.int .i64 f.1, .int .i64 f.2] 28))
  have K1 := Lib.hid (Bk.new w3 28 #[.int .i64 f.1, .int .i64 f.2])
  have KO := Lib.hid (hown.alloc (.cells #[.int .i64 f.1, .int .i64 f.2] 28))
  have n1 : w.heap.size + 1 + 1 < w2.heap.size := S.out.u.lt
  have n2 : w2.heap.size ≤ w3.heap.size := hb.size
  clear S cz cd cr hown hb
  have S := T
  clear T
  generalize w2.heap.size = B0 at *
  generalize w3.heap.size = g1 at *
  generalize w3.alloc (.cells #[.int .i64 f.1, .int .i64 f.2] 28) = w4 at *
  clear w2 w3
  have cr := S.out.u.cell
  have fr := S.out.u.frozen
  have S9 := Lib.hid ((S.out.put 0 (.int .i64 2) rfl).al (.cells #[.int .i64 0, .int .i64 1, .int .i64 2, .int .i64 3, .int .i64 4, .int .i64 5, .int .i64 6] 3))
  have cr9 := S9.out.u.cell
  have fr9 := S9.out.u.frozen
  go_upto_region 9 with fail
  have nb : w.heap.size + 1 + 1 < w4.heap.size := S.out.u.lt
  have hsz : (w4.setCell ⟨w.heap.size + 1 + 1, 0, none⟩ (.int .i64 2)).heap.size = w4.heap.size := by simp [World.setCell]
  have R7 := rd_seven (w4.setCell ⟨w.heap.size + 1 + 1, 0, none⟩ (.int .i64 2)) 3
  rw [hsz] at R7
  have R7' := Lib.hid (R7.far (p := ⟨w.heap.size + 1 + 1, 5, none⟩) (fun ad he => by cases he; simp; omega) (.slice (some ⟨w4.heap.size, 0, none⟩) 7 7))
  have T := Lib.hid (((S.out.put 0 (.int .i64 2) rfl).al (.cells #[.int .i64 0, .int .i64 1, .int .i64 2, .int .i64 3, .int .i64 4, .int .i64 5, .int .i64 6] 3)).put (rc' := rcells r.week ⟨some ⟨w4.heap.size, 0, none⟩, 7, sr.a6, sr.c6, sr.a7, sr.c7⟩) 5 (.slice (some ⟨w4.heap.size, 0, none⟩) 7 7) rfl)
  have J1 := Lib.hid (((K1.out.far (p := ⟨w.heap.size + 1 + 1, 0, none⟩) (by simp; omega) (.int .i64 2)).al (.cells #[.int .i64 0, .int .i64 1, .int .i64 2, .int .i64 3, .int .i64 4, .int .i64 5, .int .i64 6] 3)).far (p := ⟨w.heap.size + 1 + 1, 5, none⟩) (by simp; omega) (.slice (some ⟨w4.heap.size, 0, none⟩) 7 7))
  have JO := Lib.hid (ownsRow_setCell_below ((ownsRow_setCell_below KO.out (a := ⟨w.heap.size + 1 + 1, 0, none⟩) (by simp; omega) (.int .i64 2)).alloc (.cells #[.int .i64 0, .int .i64 1, .int .i64 2, .int .i64 3, .int .i64 4, .int .i64 5, .int .i64 6] 3)) (a := ⟨w.heap.size + 1 + 1, 5, none⟩) (by simp; omega) (.slice (some ⟨w4.heap.size, 0, none⟩) 7 7))
  clear S K1 KO cr fr cr9 fr9 S9 R7 hsz
  have S := T
  clear T
  generalize w4.heap.size = g7 at *
  generalize ((w4.setCell ⟨w.heap.size + 1 + 1, 0, none⟩ (.int .i64 2)).alloc (.cells #[.int .i64 0, .int .i64 1, .int .i64 2, .int .i64 3, .int .i64 4, .int .i64 5, .int .i64 6] 3)).setCell ⟨w.heap.size + 1 + 1, 5, none⟩ (.slice (some ⟨g7, 0, none⟩) 7 7) = w5 at *
  clear w4
  have cz := S.out.z.cell; have cd := S.out.d.cell; have cr := S.out.u.cell
  go_upto_region 10 with (go_at_call 30; ((with_reducible refine (HB2.out _ _ _ (week_at (HRA.out.bel S.out.b) R7'.out)).mono ?_); rintro e w6 ⟨A2, c2, rfl, hown, hb⟩))
  have T := Lib.hid ((S.out.bel hb).al (.cells #[.int .i64 f.1, .int .i64 f.2] 28))
  have K2 := Lib.hid ((J1.out.bel hb).al (.cells #[.int .i64 f.1, .int .i64 f.2] 28))
  have K3 := Lib.hid (Bk.new w6 28 #[.int .i64 f.1, .int .i64 f.2])
  have RA := Lib.hid (((Rd.own JO.out).bel hb).al (.cells #[.int .i64 f.1, .int .i64 f.2] 28))
  have RB := Lib.hid ((Rd.own hown).al (.cells #[.int .i64 f.1, .int .i64 f.2] 28))
  clear S J1 JO R7' cz cd cr hown hb
  have S := T
  clear T
  generalize w6.heap.size = g3 at *
  generalize w6.alloc (.cells #[.int .i64 f.1, .int .i64 f.2] 28) = w7 at *
  clear w5 w6
  have k2 := K2.out.cell
  have k3 := K3.out.cell
  have p2 := fv_same f
  go_wp2_with (go_at_call 21; ((with_reducible refine (ints_same RA.out RB.out HL.out).mono ?_); rintro e w8 ⟨rfl, hb8⟩))
  go_ret
  exact ⟨by simp, below_go S.out.b hb8⟩
end Go.Proofs.Ytnjplichhkmmhaa.CalW
