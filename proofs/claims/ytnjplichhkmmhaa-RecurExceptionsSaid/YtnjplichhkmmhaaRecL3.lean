import Derived.Test.YtnjplichhkmmhaaMq
import Derived.Test.YtnjplichhkmmhaaMr
/- Walk: the law RecurRangesJoin. -/
namespace Go.Proofs.Ytnjplichhkmmhaa.CalW
open Go.RowKit Go.Proofs.Ytnjplichhkmmhaa.Base Go.Proofs.Ytnjplichhkmmhaa.Cal
set_option linter.unusedVariables false
set_option linter.unusedSimpArgs false
section
variable {P : Program} {w : World} {base : Nat} {e : TypeId} {A X : Option Addr} {c cx : Nat} {l r : List Int}
/-- 'wpList_appL' at an operation that is guarded. -/
theorem wpList_appLg {ops : Array Oper} {rest : List Oper} {o : Oper} {a : Act} {Q : Exit → Act → World → Prop} (hw : Region.wanted o (yielded ops a.tmps) = true) (s x : Operand) (t : TypeId)
    (ho : o.op = .call { callee := .builtin .append, args := #[s, x], argTypes := #[t, t] }) (i : TypeInfo) (z : Value) (ht : P.underlying t = some (.slice e)) (hi : P.info? e = some i) (hz : i.zero = some z) (hsize : i.size = 1) (hby : i.bytes = 8) (hzs : z.cells.size = 1)
    (hs : a.eval s = .slice A l.length c) (hown : w.ownsRow base e 1 (.slice A l.length c) l.length (l.map iv)) (hxv : a.eval x = .slice X r.length cx) (hx : Rd w iv X r) (h63 : l.length + r.length ≤ 17592186044000) (hbase : base ≤ w.heap.size)
    (h : ∀ A' c' w', w'.ownsRow base e 1 (.slice A' (l ++ r).length c') (l ++ r).length ((l ++ r).map iv) → w.grownBy w' (Value.slice A l.length c).ownBlock → wpList P ops Q rest (a.put o.dst (.slice A' (l ++ r).length c')) w') :
    wpList P ops Q (o :: rest) a w := by
  refine wpList_step fun K hK => ?_
  rw [if_pos hw]
  obtain ⟨A', c', w', hr, h2, h3⟩ := run_append_list (P := P) (cx := cx) t o.type i z ht hi hz hsize hby hzs hown hx h63 hbase
  unfold Oper.wp execOp
  simp only [ho, resolve, invoke, builtin, Sem.run_bind, Sem.run_pure, Result.andThen_ok, List.map_toArray, List.map_cons, List.map_nil, hs, hxv, hr]
  exact hK _ _ (h A' c' w' h2 h3)
end
attribute [local go_sem high] eqA28
set_option maxHeartbeats 2000000 in
set_option maxRecDepth 20000 in
theorem lawjoin_walk (z : Zone) (d : Date) (r : Rule) (sr : RS) (a b c : Int) (w : World) (hs : z.name.size ≤ maxLen) (hd : True) (hR : RuleAt w r sr) (ia0 : -9223372036854775808 ≤ a) (ia1 : a ≤ 9223372036854775807) (ib0 : -9223372036854775808 ≤ b) (ib1 : b ≤ 9223372036854775807) (ic0 : -9223372036854775808 ≤ c) (ic1 : c ≤ 9223372036854775807) :
    Calls Try.prog 9 #[zval z, dval d, rval r sr, .int .i64 a, .int .i64 b, .int .i64 c] w fun e w' => e = .returned (.bool true) ∧ Below w.heap.size w w' := by
  have hX := fun W => rexample_calls W
  have hB := fun W A => between_calls z d r sr a c W hs A ia0 ia1 ic0 ic1
  have hB1 := fun (h : btwF z d r a c = (0, 0)) (h1 : a ≤ b) (h2 : b < c) W A => (by
    have := between_calls z d r sr a b W hs A ia0 ia1 ib0 ib1
    rwa [(btwF_join h h1 h2).1, if_pos rfl] at this : Calls Try.prog 30 #[zval z, dval d, rval r sr, .int .i64 a, .int .i64 b] W (GivesBF W (betL z d r a b) (0, 0)))
  have hB2 := fun (h : btwF z d r a c = (0, 0)) (h1 : a ≤ b) (h2 : b < c) W A => (by
    have := between_calls z d r sr (b + 1) c W hs A (by omega) (by omega) ic0 ic1
    rwa [(btwF_join h h1 h2).2, if_pos rfl] at this : Calls Try.prog 30 #[zval z, dval d, rval r sr, .int .i64 (b + 1), .int .i64 c] W (GivesBF W (betL z d r (b + 1) c) (0, 0)))
  have hJ := fun (h : btwF z d r a c = (0, 0)) (h1 : a ≤ b) (h2 : b < c) => betL_join (z := z) (d := d) (r := r) (btwF_ok h).1 h1 h2
  have hL := fun (h : btwF z d r a c = (0, 0)) => (fun x y => betL_len (z := z) (d := d) (a := x) (b := y) (btwF_ok h).2.2.2 : ∀ x y, (betL z d r x y).length ≤ 1801)
  have hOr := btwF_or z d r a c
  generalize btwF z d r a c = f at *
  generalize hb0 : betL z d r a c = BL at *
  have hu25 := Try.underlying25
  have hu34 := Try.underlying34
  have hu49 := Try.underlying49
  have hu28 := Try.underlying28
  have S : Hid (LwS w (((w.alloc (.cells (zcells z) 25)).alloc (.cells (dcells d) 34)).alloc (.cells (rcells r sr) 49)) (zcells z) (dcells d) (rcells r sr)) := Lib.hid
    ⟨((Bk.new w _ _).al _).al _, (Bk.new' (w.alloc (.cells (zcells z) 25)) _ _ (by simp)).al _, Bk.new' ((w.alloc (.cells (zcells z) 25)).alloc (.cells (dcells d) 34)) _ _ (by simp), below_al (below_al (below_al (Below.refl _ _) _) _) _⟩
  have HX := Lib.hid hX
  have HB := Lib.hid hB
  have HB1 := Lib.hid hB1
  have HB2 := Lib.hid hB2
  have HJ := Lib.hid hJ
  have HL := Lib.hid hL
  have HRA := Lib.hid hR
  have HOR := Lib.hid hOr
  have HBE := Lib.hid hb0
  clear hX hB hB1 hB2 hJ hL hR hs hOr hb0
  go_enter Try.func9, Try.ntmps9
  go_upto_region 1 with fail
  generalize ((w.alloc (.cells (zcells z) 25)).alloc (.cells (dcells d) 34)).alloc (.cells (rcells r sr) 49) = w0 at *
  go_upto_region 3 with (go_at_call 27; ((with_reducible refine (HX.out _).mono ?_); rintro e w1 ⟨rfl, hb⟩; have T := Lib.hid (S.out.bel hb); clear S hb; have S := T; clear T))
  have cz := S.out.z.cell; have cd := S.out.d.cell; have cr := S.out.u.cell
  generalize hLL : (if f = (0, 0) then BL else []) = LL at *
  have HLL := Lib.hid hLL
  clear hLL
  go_upto_region 4 with (go_at_call 30; ((with_reducible refine (HB.out _ (HRA.out.bel S.out.b)).mono ?_); rintro e w2 ⟨A1, c1, rfl, hown, hb⟩))
  have T := Lib.hid ((S.out.bel hb).al (.cells #[.int .i64 f.1, .int .i64 f.2] 28))
  have K1 := Lib.hid (Bk.new w2 28 #[.int .i64 f.1, .int .i64 f.2])
  have KR := Lib.hid ((Rd.own hown).al (.cells #[.int .i64 f.1, .int .i64 f.2] 28))
  clear S cz cd cr hown hb
  have S := T
  clear T
  generalize w2.heap.size = g1 at *
  generalize w2.alloc (.cells #[.int .i64 f.1, .int .i64 f.2] 28) = w3 at *
  clear w1 w2
  have cz := S.out.z.cell; have cd := S.out.d.cell; have cr := S.out.u.cell
  have k1 := K1.out.cell
  rcases HOR.out with hf | hf
  · subst hf
    have hl := HLL.out
    rw [if_pos rfl] at hl
    subst hl
    clear HLL HOR
    by_cases hab : b < a
    · have g1' : decide (b < a) = true := by simpa using hab
      go_wp2
      go_ret
      exact ⟨rfl, S.out.b⟩
    · have g1' : decide (b < a) = false := by simpa using hab
      by_cases hbc : c ≤ b
      · have g2' : decide (c ≤ b) = true := by simpa using hbc
        go_wp2
        go_ret
        exact ⟨rfl, S.out.b⟩
      · have g2' : decide (c ≤ b) = false := by simpa using hbc
        have h1 : a ≤ b := by omega
        have h2 : b < c := by omega
        have HC1 := Lib.hid (HB1.out rfl h1 h2)
        have HC2 := Lib.hid (HB2.out rfl h1 h2)
        have hjn := HJ.out rfl h1 h2
        have hn1 := HL.out rfl a b
        have hn2 := HL.out rfl (b + 1) c
        have hn0 := HL.out rfl a c
        rw [HBE.out] at hn0
        generalize betL z d r a b = L1 at *
        generalize betL z d r (b + 1) c = L2 at *
        have HJN := Lib.hid hjn
        have hn0' : BL.length ≤ maxLen := by unfold maxLen; omega
        have HN1 := Lib.hid hn1
        have HN2 := Lib.hid hn2
        have HN0 := Lib.hid hn0'
        clear hjn hn1 hn2 hn0 hn0' HB1 HB2 HJ HL hab hbc HBE HB HX
        obtain ⟨i0, hi0, hz0, hz1, hz2⟩ := info_parts info3
        have HI0 := Lib.hid hi0
        have HZ0 := Lib.hid hz0
        have HZ1 := Lib.hid hz1
        have HZ2 := Lib.hid hz2
        clear hi0 hz0 hz1 hz2
        go_upto_region 7 with (go_at_call 30; ((with_reducible refine (HC1.out _ (HRA.out.bel S.out.b)).mono ?_); rintro e w4 ⟨A2, c2, rfl, hown, hb⟩))
        have T := Lib.hid ((S.out.bel hb).al (.cells #[.int .i64 0, .int .i64 0] 28))
        have J1 := Lib.hid ((K1.out.bel hb).al (.cells #[.int .i64 0, .int .i64 0] 28))
        have K2 := Lib.hid (Bk.new w4 28 #[.int .i64 0, .int .i64 0])
        have R0 := Lib.hid ((KR.out.bel hb).al (.cells #[.int .i64 0, .int .i64 0] 28))
        have R1 := Lib.hid ((Rd.own hown).al (.cells #[.int .i64 0, .int .i64 0] 28))
        clear S K1 k1 KR cz cd cr hown hb
        have S := T
        clear T
        generalize w4.heap.size = g2 at *
        generalize w4.alloc (.cells #[.int .i64 0, .int .i64 0] 28) = w5 at *
        clear w3 w4
        have cz := S.out.z.cell; have cd := S.out.d.cell; have cr := S.out.u.cell
        go_upto_region 8 with (go_at_call 30; ((with_reducible refine (HC2.out _ (HRA.out.bel S.out.b)).mono ?_); rintro e w6 ⟨A3, c3, rfl, hown, hb⟩))
        have T := Lib.hid ((S.out.bel hb).al (.cells #[.int .i64 0, .int .i64 0] 28))
        have J2 := Lib.hid ((K2.out.bel hb).al (.cells #[.int .i64 0, .int .i64 0] 28))
        have K3 := Lib.hid (Bk.new w6 28 #[.int .i64 0, .int .i64 0])
        have Q0 := Lib.hid ((R0.out.bel hb).al (.cells #[.int .i64 0, .int .i64 0] 28))
        have Q1 := Lib.hid ((R1.out.bel hb).al (.cells #[.int .i64 0, .int .i64 0] 28))
        have Q2 := Lib.hid ((Rd.own hown).al (.cells #[.int .i64 0, .int .i64 0] 28))
        clear S K2 J1 R0 R1 cz cd cr hown hb
        have S := T
        clear T
        generalize w6.heap.size = g3 at *
        generalize w6.alloc (.cells #[.int .i64 0, .int .i64 0] 28) = w7 at *
        clear w5 w6
        have k2 := J2.out.cell
        have k3 := K3.out.cell
        obtain ⟨B0, hB0⟩ : ∃ B0, w7.heap.size = B0 := ⟨_, rfl⟩
        have hnil : w7.ownsRow B0 3 1 (.slice none 0 0) ([] : List Int).length (([] : List Int).map iv) := World.ownsRow_nil _ _ _ _
        have HNIL := Lib.hid hnil
        have HB0 := Lib.hid hB0
        clear hnil hB0
        go_wp2_with (first
          | (at_builtin; refine wpList_appLg (l := []) (r := L1) (A := none) (c := 0) (base := B0) (by rfl) _ _ 35 rfl i0 (.int .i64 0) Try.underlying35 HI0.out HZ0.out HZ1.out HZ2.out rfl rfl HNIL.out rfl Q1.out (by have := HN1.out; simp; omega) (Nat.le_of_eq HB0.out.symm) ?_; intro A4 c4 w8 hown hg; rw [List.nil_append] at hown; rw [List.nil_append]; have hb8 : Below B0 w7 w8 := (Below.refl _ _).grown hg (Nat.le_of_eq HB0.out.symm) (fun k hk => (HNIL.out.lt k hk).1); have HOWN := Lib.hid hown; have HB8 := Lib.hid hb8; clear hown hg hb8)
          | (at_builtin; refine wpList_appLg (l := L1) (r := L2) (base := B0) (by rfl) _ _ 35 rfl i0 (.int .i64 0) Try.underlying35 HI0.out HZ0.out HZ1.out HZ2.out rfl rfl HOWN.out rfl (Q2.out.bel (by rw [HB0.out]; exact HB8.out)) (by have := HN1.out; have := HN2.out; omega) (Nat.le_trans (Nat.le_of_eq HB0.out.symm) HB8.out.size) ?_; intro A5 c5 w9 hown hg; rw [HJN.out] at hown; rw [HJN.out]; have hb9 : Below B0 w8 w9 := (Below.refl _ _).grown hg (Nat.le_trans (Nat.le_of_eq HB0.out.symm) HB8.out.size) (fun k hk => (HOWN.out.lt k hk).1); have HB9 := Lib.hid (HB8.out.trans hb9); clear HOWN; have HOWN := Lib.hid hown; clear hown hg hb9)
          | (go_at_call 21; ((with_reducible refine (ints_same (Rd.own HOWN.out) (Q0.out.bel (by rw [HB0.out]; exact HB9.out)) HN0.out).mono ?_); rintro e w10 ⟨rfl, hb10⟩)))
        go_ret
        exact ⟨rfl, below_go (below_go S.out.b (by rw [HB0.out]; exact HB9.out)) hb10⟩
  · have p1 : (f.1 == 0) = false := by simpa using hf
    have p1b : (!(f.1 == 0)) = true := by rw [p1]; rfl
    have p1c : (f.1 != 0) = true := by simpa using hf
    have hl := HLL.out
    rw [if_neg (fun h => hf (by rw [h]))] at hl
    subst hl
    clear HLL HB1 HB2 HJ HL hf HOR
    go_wp2
    go_ret
    exact ⟨by simp, S.out.b⟩
end Go.Proofs.Ytnjplichhkmmhaa.CalW
