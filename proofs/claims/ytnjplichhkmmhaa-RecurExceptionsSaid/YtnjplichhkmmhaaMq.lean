import Derived.Test.YtnjplichhkmmhaaRecW20
import Derived.Test.YtnjplichhkmmhaaZonW13
/- Walk: recurExample. -/
namespace Go.Proofs.Ytnjplichhkmmhaa.Cal
def zE : Zone := ⟨{ data := #[117] }, 0, 0, ⟨0, 0, 0, 0⟩, ⟨0, 0, 0, 0⟩⟩
def dE : Date := ⟨1970, 1, 1, 0, 0, 0, 0⟩
def rE : Rule := ⟨1, 1, 3, 0, false, [], [], []⟩
set_option maxRecDepth 100000 in
theorem exF : btwF zE dE rE (-1000) 1000000 = (0, 0) := of_decide_eq_true (by kernel_rfl)
theorem exD : dayL dE rE 3 = [0, 1, 2] := of_decide_eq_true (by kernel_rfl)
theorem exA0 : allL zE (dateN 0 dE) = [0] := of_decide_eq_true (by kernel_rfl)
theorem exA1 : allL zE (dateN 1 dE) = [86400] := of_decide_eq_true (by kernel_rfl)
theorem exA2 : allL zE (dateN 2 dE) = [172800] := of_decide_eq_true (by kernel_rfl)
theorem exR : regL zE dE rE = [0, 86400, 172800] := by
  refine RunEnds.reg (m := 3) ?_ (by omega)
  rw [exD]
  have h0 : Run zE dE rE ([] ++ [0]) ([] ++ [0]) := Run.app Run.nil exA0 (by simp [rE]) (by simp [rE])
  have h1 : Run zE dE rE ([] ++ [0] ++ [1]) ([] ++ [0] ++ [86400]) := Run.app h0 exA1 (by simp [rE]) (by simp [rE])
  exact Run.count h1 exA2 (by simp [rE]) (by simp [rE])
theorem exB : betL zE dE rE (-1000) 1000000 = [0, 86400, 172800] := by
  unfold betL
  rw [exR]
  exact of_decide_eq_true (by kernel_rfl)
end Go.Proofs.Ytnjplichhkmmhaa.Cal
namespace Go.Proofs.Ytnjplichhkmmhaa.CalW
open Go.RowKit Go.Proofs.Ytnjplichhkmmhaa.Base Go.Proofs.Ytnjplichhkmmhaa.Cal
set_option linter.unusedVariables false
set_option linter.unusedSimpArgs false
def sE : RS := ⟨none, 0, none, 0, none, 0⟩
theorem ruleE (w : World) : RuleAt w rE sE := ⟨Rd.nil, Rd.nil, Rd.nil, by simp [rE], by simp [rE], by simp [rE], by simp [rE, I64], by simp [rE, I64], by simp [rE, I64], by simp [rE], by simp [rE]⟩
set_option maxRecDepth 20000 in
theorem thrice_calls (w : World) : Calls Try.prog 51 #[] w fun e w' => e = .returned (rval rE sE) ∧ Below w.heap.size w w' := by
  have hu49 := Try.underlying49
  go_enter Try.func51, Try.ntmps51
  go_wp2
  exact bodyPost_ret (v := rval rE sE) (res_c (cs := rcells rE sE) Try.results51 rfl (Bk.new w _ _) hu49 rfl (by kernel_rfl)) rfl ⟨rfl, below_al (Below.refl _ _) _⟩
theorem rd_three (w : World) (t : TypeId) (a b c : Int) : Rd (w.alloc (.cells #[.int .i64 a, .int .i64 b, .int .i64 c] t)) iv (some ⟨w.heap.size, 0, none⟩) [a, b, c] := fun _ => by
  refine ⟨_, rfl, by simp, fun j x hx => ?_⟩
  have B := (Bk.new w t #[.int .i64 a, .int .i64 b, .int .i64 c]).cell
  match j, hx with
  | 0, hx => have := B 0; simp at hx; subst hx; simp [Addr.add]
  | 1, hx => have := B 1; simp at hx; subst hx; simp [Addr.add]
  | 2, hx => have := B 2; simp at hx; subst hx; simp [Addr.add]
  | n + 3, hx => simp at hx
theorem ex_between (w : World) : Calls Try.prog 30 #[zval zE, dval dE, rval rE sE, .int .i64 (-1000), .int .i64 1000000] w (GivesBF w [0, 86400, 172800] (0, 0)) := by
  have h := between_calls zE dE rE sE (-1000) 1000000 w (of_decide_eq_true (by kernel_rfl)) (ruleE w) (by omega) (by omega) (by omega) (by omega)
  rw [exF, if_pos rfl, exB] at h
  exact h
theorem ex_ints (A : Option Addr) (c : Nat) (w : World) (t : TypeId) (h : Rd w iv A [0, 86400, 172800]) : Calls Try.prog 21 #[.slice A 3 c, .slice (some ⟨w.heap.size, 0, none⟩) 3 3] (w.alloc (.cells #[.int .i64 0, .int .i64 86400, .int .i64 172800] t)) fun e w' => e = .returned (.bool true) ∧ Below (w.alloc (.cells #[.int .i64 0, .int .i64 86400, .int .i64 172800] t)).heap.size (w.alloc (.cells #[.int .i64 0, .int .i64 86400, .int .i64 172800] t)) w' :=
  ints_calls A (some ⟨w.heap.size, 0, none⟩) [0, 86400, 172800] [0, 86400, 172800] c 3 _ (h.al _) (rd_three w t _ _ _) (of_decide_eq_true (by kernel_rfl)) (of_decide_eq_true (by kernel_rfl))
set_option maxHeartbeats 1000000 in
set_option maxRecDepth 20000 in
theorem rexample_calls (w : World) :
    Calls Try.prog 27 #[] w fun e w' => e = .returned (.bool true) ∧ Below w.heap.size w w' := by
  have hu28 := Try.underlying28
  have hE : ∀ W, Calls Try.prog 30 #[.agg #[.string { data := #[117] }, .int .i64 0, .int .i64 0, .int .i64 0, .int .i64 0, .int .i64 0, .int .i64 0, .int .i64 0, .int .i64 0, .int .i64 0, .int .i64 0], .agg #[.int .i64 1970, .int .i64 1, .int .i64 1, .int .i64 0, .int .i64 0, .int .i64 0, .int .i64 0], rval rE sE, .int .i64 (-1000), .int .i64 1000000] W (GivesBF W [0, 86400, 172800] (0, 0)) := fun W => ex_between W
  have HE := Lib.hid hE
  have hT := fun W => thrice_calls W
  have HT := Lib.hid hT
  clear hE hT
  go_enter Try.func27, Try.ntmps27
  go_upto_region 2 with (first | (go_at_call 51; ((with_reducible refine (HT.out _).mono ?_); rintro e w1 ⟨rfl, hb1⟩)) | (go_at_call 30; ((with_reducible refine (HE.out _).mono ?_); rintro e w2 ⟨A1, k1, rfl, hown, hb2⟩)))
  have K1 := Lib.hid (Bk.new w2 28 #[.int .i64 0, .int .i64 0])
  have KB := Lib.hid (below_al (below_go hb1 hb2) (.cells #[.int .i64 0, .int .i64 0] 28))
  have KR := Lib.hid ((Rd.own hown).al (.cells #[.int .i64 0, .int .i64 0] 28))
  clear hb1 hb2 hown HE HT
  generalize w2.heap.size = g1 at *
  generalize w2.alloc (.cells #[.int .i64 0, .int .i64 0] 28) = v1 at *
  clear w1 w2
  have ck := K1.out.cell
  go_wp2_with (go_at_call 21; refine (ex_ints A1 k1 v1 _ KR.out).mono ?_; rintro e w3 ⟨rfl, hb3⟩)
  go_ret
  exact ⟨rfl, below_go (below_al KB.out _) hb3⟩
end Go.Proofs.Ytnjplichhkmmhaa.CalW
/- Walk: the law RecurBetweenMatchesSpec. -/
namespace Go.Proofs.Ytnjplichhkmmhaa.Cal
theorem btwF_or (z : Zone) (d : Date) (r : Rule) (a b : Int) : btwF z d r a b = (0, 0) ∨ (btwF z d r a b).1 ≠ 0 := by
  unfold btwF
  split
  · exact .inr (by simp)
  · exact rckF_or z d r
theorem btwF_ok {z : Zone} {d : Date} {r : Rule} {a b : Int} (h : btwF z d r a b = (0, 0)) : z.fault = (0, 0) ∧ locf d = (0, 0) ∧ d.y ≤ 3980 ∧ r.fault = (0, 0) := by
  unfold btwF at h
  split at h
  · simp at h
  · exact rckF_ok h
end Go.Proofs.Ytnjplichhkmmhaa.Cal
namespace Go.Proofs.Ytnjplichhkmmhaa.CalW
open Go.RowKit Go.Proofs.Ytnjplichhkmmhaa.Base Go.Proofs.Ytnjplichhkmmhaa.Cal
set_option linter.unusedVariables false
set_option linter.unusedSimpArgs false
attribute [local go_sem high] eqA28
theorem betL_len {z : Zone} {d : Date} {r : Rule} {a b : Int} (hr : r.fault = (0, 0)) : (betL z d r a b).length ≤ 1801 := by
  have h1 := betAdd_len a b r.ad r.ad ((regL z d r).filter (betKeep r a b))
  have h2 := List.length_filter_le (betKeep r a b) (regL z d r)
  have h3 := regL_len z d r
  have h4 := Rule.ad_len hr
  unfold betL
  omega
/-- the law's arguments in memory. -/
structure LwS (w wr : World) (zc dc rc : Array Value) : Prop where
  z : Bk wr w.heap.size 25 zc
  d : Bk wr (w.heap.size + 1) 34 dc
  u : Bk wr (w.heap.size + 1 + 1) 49 rc
  b : Below w.heap.size w wr
theorem LwS.bel {w wr w' : World} {zc dc rc : Array Value} (h : LwS w wr zc dc rc) (hb : Below wr.heap.size wr w') : LwS w w' zc dc rc := ⟨h.z.bel hb, h.d.bel hb, h.u.bel hb, below_go h.b hb⟩
theorem LwS.al {w wr : World} {zc dc rc : Array Value} (h : LwS w wr zc dc rc) (o : Obj) : LwS w (wr.alloc o) zc dc rc := h.bel (below_al (Below.refl _ _) _)
theorem fv_same (f : Int × Int) : ((f.1 == f.1 && f.2 == f.2) = true) := by simp
set_option maxHeartbeats 2000000 in
set_option maxRecDepth 20000 in
theorem lawbetween_walk (z : Zone) (d : Date) (r : Rule) (sr : RS) (a b : Int) (w : World) (hs : z.name.size ≤ maxLen) (hd : True) (hR : RuleAt w r sr) (ia0 : -9223372036854775808 ≤ a) (ia1 : a ≤ 9223372036854775807) (ib0 : -9223372036854775808 ≤ b) (ib1 : b ≤ 9223372036854775807) :
    Calls Try.prog 8 #[zval z, dval d, rval r sr, .int .i64 a, .int .i64 b] w fun e w' => e = .returned (.bool true) ∧ Below w.heap.size w w' := by
  have hX := fun W => rexample_calls W
  have hV := fun W A => rvalidate_calls r sr W A
  have hU := fun W A => rulefault_calls r sr W A
  have hB := fun W A => between_calls z d r sr a b W hs A ia0 ia1 ib0 ib1
  have hF := fun W A => betweenfault_calls z d r sr a b W hs A
  have hO := fun (h : btwF z d r a b = (0, 0)) W A => betweenof_calls z d r sr a b W (btwF_ok h).1 (btwF_ok h).2.1 (btwF_ok h).2.2.1 (btwF_ok h).2.2.2 A
  have hLn := fun (h : btwF z d r a b = (0, 0)) => betL_len (z := z) (d := d) (a := a) (b := b) (btwF_ok h).2.2.2
  have hOr := btwF_or z d r a b
  generalize btwF z d r a b = f at *
  generalize betL z d r a b = BL at *
  generalize r.fault = k at *
  have hu25 := Try.underlying25
  have hu34 := Try.underlying34
  have hu49 := Try.underlying49
  have hu28 := Try.underlying28
  have S : Hid (LwS w (((w.alloc (.cells (zcells z) 25)).alloc (.cells (dcells d) 34)).alloc (.cells (rcells r sr) 49)) (zcells z) (dcells d) (rcells r sr)) := Lib.hid
    ⟨((Bk.new w _ _).al _).al _, (Bk.new' (w.alloc (.cells (zcells z) 25)) _ _ (by simp)).al _, Bk.new' ((w.alloc (.cells (zcells z) 25)).alloc (.cells (dcells d) 34)) _ _ (by simp), below_al (below_al (below_al (Below.refl _ _) _) _) _⟩
  have HX := Lib.hid hX
  have HV := Lib.hid hV
  have HU := Lib.hid hU
  have HB := Lib.hid hB
  have HF := Lib.hid hF
  have HO := Lib.hid hO
  have HLN := Lib.hid hLn
  have HRA := Lib.hid hR
  have HOR := Lib.hid hOr
  clear hX hV hU hB hF hO hLn hR hs hOr
  go_enter Try.func8, Try.ntmps8
  go_upto_region 1 with fail
  generalize ((w.alloc (.cells (zcells z) 25)).alloc (.cells (dcells d) 34)).alloc (.cells (rcells r sr) 49) = w0 at *
  have xu := S.out.u.s
  have HR0 := Lib.hid (HRA.out.bel S.out.b)
  refine wp_region_bel (by kernel_rfl) (by kernel_rfl) ?_
  repeat (go_big_quiet_step ((first | (go_at_call 27; exact bel_bel (HX.out _)) | (go_at_call 28; exact bel_bel (HV.out _ (HR0.out.bel (Bel.below _)))) | (go_at_call 29; exact bel_bel (HU.out _ (HR0.out.bel (Bel.below _)))))))
  refine wpQuiet_nil ?_
  rintro _ ⟨s0, rfl⟩
  have T := Lib.hid (S.out.bel s0.below)
  clear S xu HR0
  have S := T
  clear T
  generalize s0.w = w1 at *
  clear s0
  have cz := S.out.z.cell; have cd := S.out.d.cell; have cr := S.out.u.cell
  generalize hLL : (if f = (0, 0) then BL else []) = LL at *
  have HLL := Lib.hid hLL
  clear hLL
  go_upto_region 4 with (go_at_call 30; ((with_reducible refine (HB.out _ (HRA.out.bel S.out.b)).mono ?_); rintro e w2 ⟨A1, c1, rfl, hown, hb⟩))
  have T := Lib.hid ((S.out.bel hb).al (.cells #[.int .i64 f.1, .int .i64 f.2] 28))
  have K1 := Lib.hid (Bk.new w2 28 #[.int .i64 f.1, .int .i64 f.2])
  have KR := Lib.hid ((Rd.own hown).al (.cells #[.int .i64 f.1, .int .i64 f.2] 28))
  clear S cz cd cr hown hb
  have S := T
  clear T
  generalize w2.heap.size = g1 at *
  generalize w2.alloc (.cells #[.int .i64 f.1, .int .i64 f.2] 28) = w3 at *
  clear w1 w2
  have cz := S.out.z.cell; have cd := S.out.d.cell; have cr := S.out.u.cell
  go_upto_region 5 with (go_at_call 31; ((with_reducible refine (HF.out _ (HRA.out.bel S.out.b)).mono ?_); rintro e w4 ⟨rfl, hb⟩))
  have T := Lib.hid ((S.out.bel hb).al (.cells #[.int .i64 f.1, .int .i64 f.2] 28))
  have J1 := Lib.hid ((K1.out.bel hb).al (.cells #[.int .i64 f.1, .int .i64 f.2] 28))
  have K2 := Lib.hid (Bk.new w4 28 #[.int .i64 f.1, .int .i64 f.2])
  have JR := Lib.hid ((KR.out.bel hb).al (.cells #[.int .i64 f.1, .int .i64 f.2] 28))
  clear S K1 KR cz cd cr hb
  have S := T
  clear T
  generalize w4.heap.size = g2 at *
  generalize w4.alloc (.cells #[.int .i64 f.1, .int .i64 f.2] 28) = w5 at *
  clear w3 w4
  have cz := S.out.z.cell; have cd := S.out.d.cell; have cr := S.out.u.cell
  have c1' := J1.out.cell
  have c2' := K2.out.cell
  rcases HOR.out with hf | hf
  · subst hf
    have hl := HLL.out
    rw [if_pos rfl] at hl
    subst hl
    have ho := HO.out rfl
    have hn := HLN.out rfl
    have HO2 := Lib.hid ho
    have hn2 : BL.length ≤ maxLen := by unfold maxLen; omega
    have HN2 := Lib.hid hn2
    clear ho hn hn2 HO HLN HLL
    go_wp2_with (first | (go_at_call 32; ((with_reducible refine (HO2.out _ (HRA.out.bel S.out.b)).mono ?_); rintro e w6 ⟨A2, c2, rfl, hR2, hb6⟩)) | (go_at_call 21; ((with_reducible refine (ints_same (JR.out.bel hb6) hR2 HN2.out).mono ?_); rintro e w7 ⟨rfl, hb7⟩)))
    go_ret
    exact ⟨rfl, below_go (below_go S.out.b hb6) hb7⟩
  · have p1 : (f.1 == 0) = false := by simpa using hf
    have hl := HLL.out
    rw [if_neg (fun h => hf (by rw [h]))] at hl
    subst hl
    clear HLL HO HLN hf
    have p2 := fv_same f
    go_wp2
    go_ret
    exact ⟨by simp, S.out.b⟩
end Go.Proofs.Ytnjplichhkmmhaa.CalW
