import Derived.Test.YtnjplichhkmmhaaMp
/- Walk: recur.Between. -/
namespace Go.Proofs.Ytnjplichhkmmhaa.CalW
open Go.RowKit Go.Shelf Go.Proofs.Ytnjplichhkmmhaa.Base Go.Proofs.Ytnjplichhkmmhaa.Cal
set_option linter.unusedVariables false
set_option linter.unusedSimpArgs false
attribute [local go_sem high] eqA28
/-- the call hands back a list of its own, and a fault. -/
def GivesBF (w : World) (l : List Int) (f : Int × Int) (e : Ending) (w' : World) : Prop := ∃ A c, e = .returned (.tuple #[.slice A l.length c, fval f]) ∧ w'.ownsRow w.heap.size 3 1 (.slice A l.length c) l.length (l.map iv) ∧ Below w.heap.size w w'
structure BtS (w wr : World) (zc dc rc : Array Value) (a b : Int) : Prop where
  z : Bk wr w.heap.size 25 zc
  d : Bk wr (w.heap.size + 1) 34 dc
  u : Bk wr (w.heap.size + 1 + 1) 49 rc
  xa : Bk wr (w.heap.size + 1 + 1 + 1) 3 #[.int .i64 a]
  xb : Bk wr (w.heap.size + 1 + 1 + 1 + 1) 3 #[.int .i64 b]
  e : Bk wr (w.heap.size + 1 + 1 + 1 + 1 + 1) 28 #[.int .i64 0, .int .i64 0]
  b : Below w.heap.size w wr
section
variable {w wr w' : World} {zc dc rc : Array Value} {a b : Int}
theorem bk_low {B g : Nat} {t : TypeId} {cs : Array Value} (h : Bk wr g t cs) (hb : Below B wr w') (hg : g < B) : Bk w' g t cs := (hb.block g hg).trans h
theorem BtS.low {B : Nat} (h : BtS w wr zc dc rc a b) (hb : Below B wr w') (hB : w.heap.size + 1 + 1 + 1 + 1 + 1 < B) : BtS w w' zc dc rc a b :=
  ⟨bk_low h.z hb (by omega), bk_low h.d hb (by omega), bk_low h.u hb (by omega), bk_low h.xa hb (by omega), bk_low h.xb hb (by omega), bk_low h.e hb (by omega), h.b.trans (hb.mono (by omega))⟩
theorem BtS.bel (h : BtS w wr zc dc rc a b) (hb : Below wr.heap.size wr w') : BtS w w' zc dc rc a b := h.low hb h.e.lt
theorem BtS.al (h : BtS w wr zc dc rc a b) (o : Obj) : BtS w (wr.alloc o) zc dc rc a b := h.bel (below_al (Below.refl _ _) _)
theorem BtS.far (h : BtS w wr zc dc rc a b) {p : Addr} (u : Value) (hp : w.heap.size + 1 + 1 + 1 + 1 + 1 < p.block) : BtS w (wr.setCell p u) zc dc rc a b :=
  ⟨h.z.far (by omega) u, h.d.far (by omega) u, h.u.far (by omega) u, h.xa.far (by omega) u, h.xb.far (by omega) u, h.e.far (by omega) u, below_set h.b (by omega) u⟩
end
theorem chk_in' {t : Int} (h : inR t (-68719476736) 68719476736 = true) : chk t = (0, 0) := by unfold chk; rw [if_pos h]
set_option maxHeartbeats 4000000 in
set_option maxRecDepth 20000 in
theorem between_calls (z : Zone) (d : Date) (r : Rule) (sr : RS) (a b : Int) (w : World) (hs : z.name.size ≤ maxLen) (hR : RuleAt w r sr) (ia0 : -9223372036854775808 ≤ a) (ia1 : a ≤ 9223372036854775807) (ib0 : -9223372036854775808 ≤ b) (ib1 : b ≤ 9223372036854775807) :
    Calls Try.prog 30 #[zval z, dval d, rval r sr, .int .i64 a, .int .i64 b] w (GivesBF w (if btwF z d r a b = (0, 0) then betL z d r a b else []) (btwF z d r a b)) := by
  have hCK := fun W A => rcheck_calls z d r sr W hs A
  have hREG := fun (h : rckF z d r = (0, 0)) W A => regular_calls z d r sr W (rckF_ok h).1 (rckF_ok h).2.1 (rckF_ok h).2.2.1 (rckF_ok h).2.2.2 A
  have hBE := fun (h : rckF z d r = (0, 0)) => betP_eq (z := z) (d := d) (r := r) (a := a) (b := b) (rckF_ok h).1
  have hAL := fun (h : rckF z d r = (0, 0)) => Rule.ad_len (rckF_ok h).2.2.2
  have hRL := regL_len z d r
  have hV := rckF_or z d r
  have hBT : btwF z d r a b = if rckF z d r = (0, 0) ∧ (inR a (-68719476736) 68719476736 = false ∨ inR b a 68719476736 = false) then (3, -12) else rckF z d r := rfl
  have hCA := fun W => check_calls a W ia0 ia1
  have hCB := fun W => check_calls b W ib0 ib1
  generalize rckF z d r = v at *
  generalize btwF z d r a b = f at *
  generalize hLL : (if f = (0, 0) then betL z d r a b else []) = LL
  have HLL := Lib.hid hLL
  clear hLL
  have hu25 := Try.underlying25
  have hu34 := Try.underlying34
  have hu49 := Try.underlying49
  have hu28 := Try.underlying28
  have hu35 := Try.underlying35
  have S : Hid (BtS w ((((((w.alloc (.cells (zcells z) 25)).alloc (.cells (dcells d) 34)).alloc (.cells (rcells r sr) 49)).alloc (.cells #[.int .i64 a] 3)).alloc (.cells #[.int .i64 b] 3)).alloc (.cells #[.int .i64 0, .int .i64 0] 28)) (zcells z) (dcells d) (rcells r sr) a b) := Lib.hid
    ⟨(((((Bk.new w _ _).al _).al _).al _).al _).al _, ((((Bk.new' (w.alloc (.cells (zcells z) 25)) _ _ (by simp)).al _).al _).al _).al _, (((Bk.new' ((w.alloc (.cells (zcells z) 25)).alloc (.cells (dcells d) 34)) _ _ (by simp)).al _).al _).al _, ((Bk.new' (((w.alloc (.cells (zcells z) 25)).alloc (.cells (dcells d) 34)).alloc (.cells (rcells r sr) 49)) _ _ (by simp)).al _).al _, (Bk.new' ((((w.alloc (.cells (zcells z) 25)).alloc (.cells (dcells d) 34)).alloc (.cells (rcells r sr) 49)).alloc (.cells #[.int .i64 a] 3)) _ _ (by simp)).al _, Bk.new' (((((w.alloc (.cells (zcells z) 25)).alloc (.cells (dcells d) 34)).alloc (.cells (rcells r sr) 49)).alloc (.cells #[.int .i64 a] 3)).alloc (.cells #[.int .i64 b] 3)) _ _ (by simp), below_al (below_al (below_al (below_al (below_al (below_al (Below.refl _ _) _) _) _) _) _) _⟩
  have HCK := Lib.hid hCK
  have HREG := Lib.hid hREG
  have HBE := Lib.hid hBE
  have HAD := Lib.hid hAL
  have HRL := Lib.hid hRL
  have HRA := Lib.hid hR
  have HBT := Lib.hid hBT
  have HCA0 := Lib.hid hCA
  have HCB0 := Lib.hid hCB
  clear hCK hREG hBE hAL hRL hR hBT hCA hCB hs
  go_enter Try.func30, Try.ntmps30
  go_upto_region 1 with fail
  generalize ((((((w.alloc (.cells (zcells z) 25)).alloc (.cells (dcells d) 34)).alloc (.cells (rcells r sr) 49)).alloc (.cells #[.int .i64 a] 3)).alloc (.cells #[.int .i64 b] 3)).alloc (.cells #[.int .i64 0, .int .i64 0] 28)) = w0 at *
  have cz := S.out.z.cell; have cd := S.out.d.cell; have cr := S.out.u.cell; have ca := S.out.xa.cell; have cb := S.out.xb.cell; have ce := S.out.e.cell; have fe := S.out.e.frozen
  go_upto_region 2 with (go_at_call 55; ((with_reducible refine (HCK.out _ (HRA.out.bel S.out.b)).mono ?_); rintro e w1 ⟨rfl, hb⟩; have T := Lib.hid (S.out.bel hb); clear S cz cd cr ca cb ce fe; clear hb; have S := T; clear T; have cz := S.out.z.cell; have cd := S.out.d.cell; have cr := S.out.u.cell; have ca := S.out.xa.cell; have cb := S.out.xb.cell; have ce := S.out.e.cell; have fe := S.out.e.frozen))
  have T := Lib.hid (S.out.al (.cells #[.int .i64 v.1, .int .i64 v.2] 28))
  have K := Lib.hid (Bk.new w1 28 #[.int .i64 v.1, .int .i64 v.2])
  have n1 : w.heap.size + 1 + 1 + 1 + 1 + 1 < w1.heap.size := S.out.e.lt
  clear S cz cd cr ca cb ce fe
  have S := T
  clear T
  generalize w1.heap.size = g1 at *
  generalize w1.alloc (.cells #[.int .i64 v.1, .int .i64 v.2] 28) = w2 at *
  clear w0 w1
  have cz := S.out.z.cell; have cd := S.out.d.cell; have cr := S.out.u.cell; have ca := S.out.xa.cell; have cb := S.out.xb.cell; have ce := S.out.e.cell; have fe := S.out.e.frozen
  have ck := K.out.cell
  have fk := K.out.frozen
  have xz := S.out.z.s
  have xd := S.out.d.s
  have xr := S.out.u.s
  have xa := S.out.xa.s
  have xb := S.out.xb.s
  have xk := K.out.s
  by_cases hv : v = (0, 0)
  · subst hv
    rcases tf (inR a (-68719476736) 68719476736) with ha | ha
    · -- from lies outside
      have hca := HCA0.out
      rw [show chk a = (3, -2) by unfold chk; rw [if_neg (by rw [ha]; simp)]] at hca
      have HCA := Lib.hid hca
      have HCB := HCB0
      have hf : f = (3, -12) := by rw [HBT.out, if_pos ⟨rfl, .inl ha⟩]
      subst hf
      have hl := HLL.out
      rw [if_neg (by simp)] at hl
      subst hl
      clear HLL
      clear hca HCA0 HCB0 HREG HBE HAD HRL HBT hV ha
      refine wp_region_bel (by kernel_rfl) (by kernel_rfl) ?_
      repeat (go_big_quiet_step ((go_at_call 40; with_reducible (first | exact bel_bel (HCA.out _) | exact bel_bel (HCB.out _)))))
      refine wpQuiet_nil ?_
      rintro _ ⟨s0, rfl⟩
      have T := Lib.hid (S.out.bel s0.below)
      have T2 := Lib.hid (K.out.bel s0.below)
      clear S K ck fk xz xd xr xa xb xk cz cd cr ca cb ce fe
      have S := T
      have K := T2
      clear T T2
      generalize s0.w = w3 at *
      clear s0
      have cz := S.out.z.cell; have cd := S.out.d.cell; have cr := S.out.u.cell; have ca := S.out.xa.cell; have cb := S.out.xb.cell; have ce := S.out.e.cell; have fe := S.out.e.frozen
      have ck := K.out.cell
      have fk := K.out.frozen
      go_upto_region 4 with fail
      have T := Lib.hid (S.out.far (p := ⟨g1, 0, none⟩) (.int .i64 3) n1)
      have T1 := Lib.hid (T.out.far (p := ⟨g1, 1, none⟩) (.int .i64 (-12)) n1)
      have K1 := Lib.hid ((K.out.put 0 (.int .i64 3)).put' (cs' := #[.int .i64 3, .int .i64 (-12)]) 1 (.int .i64 (-12)) rfl)
      clear S T K ck fk cz cd cr ca cb ce fe
      have S := T1
      have K := K1
      clear T1 K1
      generalize (w3.setCell ⟨g1, 0, none⟩ (.int .i64 3)).setCell ⟨g1, 1, none⟩ (.int .i64 (-12)) = w4 at *
      have cz := S.out.z.cell; have cd := S.out.d.cell; have cr := S.out.u.cell; have ca := S.out.xa.cell; have cb := S.out.xb.cell; have ce := S.out.e.cell; have fe := S.out.e.frozen
      have ck := K.out.cell
      have fk := K.out.frozen
      go_wp2_with fail
      go_region
      all_goals
        go_wp2
        exact bodyPost_ret (v := .tuple #[.slice none 0 0, .agg #[.int .i64 (3), .int .i64 (-12)]]) (res_tc Try.results30 rfl (by (with_reducible repeat (first | exact S.out.e | apply Bk.al | apply Bk.dr | apply Bk.put' | (apply Bk.far; case hp => (simp [*] <;> omega)))); all_goals rfl) hu28 rfl (by kernel_rfl)) rfl ⟨none, 0, rfl, World.ownsRow_nil _ _ _ _, (by with_reducible repeat (first | exact S.out.b | refine below_drew1 ?_ | refine below_al ?_ _ | refine below_set ?_ (by simp <;> omega) _))⟩
    · have hca := HCA0.out
      rw [chk_in' ha] at hca
      have HCA := Lib.hid hca
      clear hca HCA0
      rcases tf (inR b (-68719476736) 68719476736) with hb0 | hb0
      · have hcb := HCB0.out
        rw [show chk b = (3, -2) by unfold chk; rw [if_neg (by rw [hb0]; simp)]] at hcb
        have HCB := Lib.hid hcb
        have hx : inR b a 68719476736 = false := by
          have h1 := inR_t ha
          unfold inR at hb0 ⊢
          simp only [Bool.and_eq_false_iff, decide_eq_false_iff_not] at hb0 ⊢
          omega
        have hf : f = (3, -12) := by rw [HBT.out, if_pos ⟨rfl, .inr hx⟩]
        subst hf
        have hl := HLL.out
        rw [if_neg (by simp)] at hl
        subst hl
        clear HLL
        clear hcb HCB0 HREG HBE HAD HRL HBT hV ha hb0 hx
        refine wp_region_bel (by kernel_rfl) (by kernel_rfl) ?_
        repeat (go_big_quiet_step ((go_at_call 40; with_reducible (first | exact bel_bel (HCA.out _) | exact bel_bel (HCB.out _)))))
        refine wpQuiet_nil ?_
        rintro _ ⟨s0, rfl⟩
        have T := Lib.hid (S.out.bel s0.below)
        have T2 := Lib.hid (K.out.bel s0.below)
        clear S K ck fk xz xd xr xa xb xk cz cd cr ca cb ce fe
        have S := T
        have K := T2
        clear T T2
        generalize s0.w = w3 at *
        clear s0
        have cz := S.out.z.cell; have cd := S.out.d.cell; have cr := S.out.u.cell; have ca := S.out.xa.cell; have cb := S.out.xb.cell; have ce := S.out.e.cell; have fe := S.out.e.frozen
        have ck := K.out.cell
        have fk := K.out.frozen
        go_upto_region 4 with fail
        have T := Lib.hid (S.out.far (p := ⟨g1, 0, none⟩) (.int .i64 3) n1)
        have T1 := Lib.hid (T.out.far (p := ⟨g1, 1, none⟩) (.int .i64 (-12)) n1)
        have K1 := Lib.hid ((K.out.put 0 (.int .i64 3)).put' (cs' := #[.int .i64 3, .int .i64 (-12)]) 1 (.int .i64 (-12)) rfl)
        clear S T K ck fk cz cd cr ca cb ce fe
        have S := T1
        have K := K1
        clear T1 K1
        generalize (w3.setCell ⟨g1, 0, none⟩ (.int .i64 3)).setCell ⟨g1, 1, none⟩ (.int .i64 (-12)) = w4 at *
        have cz := S.out.z.cell; have cd := S.out.d.cell; have cr := S.out.u.cell; have ca := S.out.xa.cell; have cb := S.out.xb.cell; have ce := S.out.e.cell; have fe := S.out.e.frozen
        have ck := K.out.cell
        have fk := K.out.frozen
        go_wp2_with fail
        go_region
        all_goals
          go_wp2
          exact bodyPost_ret (v := .tuple #[.slice none 0 0, .agg #[.int .i64 (3), .int .i64 (-12)]]) (res_tc Try.results30 rfl (by (with_reducible repeat (first | exact S.out.e | apply Bk.al | apply Bk.dr | apply Bk.put' | (apply Bk.far; case hp => (simp [*] <;> omega)))); all_goals rfl) hu28 rfl (by kernel_rfl)) rfl ⟨none, 0, rfl, World.ownsRow_nil _ _ _ _, (by with_reducible repeat (first | exact S.out.b | refine below_drew1 ?_ | refine below_al ?_ _ | refine below_set ?_ (by simp <;> omega) _))⟩
      · have hcb := HCB0.out
        rw [chk_in' hb0] at hcb
        have HCB := Lib.hid hcb
        clear hcb HCB0
        by_cases hab : b < a
        · have g1' : decide (b < a) = true := by simpa using hab
          have hx : inR b a 68719476736 = false := by
            unfold inR
            simp only [Bool.and_eq_false_iff, decide_eq_false_iff_not]
            omega
          have hf : f = (3, -12) := by rw [HBT.out, if_pos ⟨rfl, .inr hx⟩]
          subst hf
          have hl := HLL.out
          rw [if_neg (by simp)] at hl
          subst hl
          clear HLL
          clear HREG HBE HAD HRL HBT hV ha hb0 hx
          refine wp_region_bel (by kernel_rfl) (by kernel_rfl) ?_
          repeat (go_big_quiet_step ((go_at_call 40; with_reducible (first | exact bel_bel (HCA.out _) | exact bel_bel (HCB.out _)))))
          refine wpQuiet_nil ?_
          rintro _ ⟨s0, rfl⟩
          have T := Lib.hid (S.out.bel s0.below)
          have T2 := Lib.hid (K.out.bel s0.below)
          clear S K ck fk xz xd xr xa xb xk cz cd cr ca cb ce fe
          have S := T
          have K := T2
          clear T T2
          generalize s0.w = w3 at *
          clear s0
          have cz := S.out.z.cell; have cd := S.out.d.cell; have cr := S.out.u.cell; have ca := S.out.xa.cell; have cb := S.out.xb.cell; have ce := S.out.e.cell; have fe := S.out.e.frozen
          have ck := K.out.cell
          have fk := K.out.frozen
          go_upto_region 4 with fail
          have T := Lib.hid (S.out.far (p := ⟨g1, 0, none⟩) (.int .i64 3) n1)
          have T1 := Lib.hid (T.out.far (p := ⟨g1, 1, none⟩) (.int .i64 (-12)) n1)
          have K1 := Lib.hid ((K.out.put 0 (.int .i64 3)).put' (cs' := #[.int .i64 3, .int .i64 (-12)]) 1 (.int .i64 (-12)) rfl)
          clear S T K ck fk cz cd cr ca cb ce fe
          have S := T1
          have K := K1
          clear T1 K1
          generalize (w3.setCell ⟨g1, 0, none⟩ (.int .i64 3)).setCell ⟨g1, 1, none⟩ (.int .i64 (-12)) = w4 at *
          have cz := S.out.z.cell; have cd := S.out.d.cell; have cr := S.out.u.cell; have ca := S.out.xa.cell; have cb := S.out.xb.cell; have ce := S.out.e.cell; have fe := S.out.e.frozen
          have ck := K.out.cell
          have fk := K.out.frozen
          go_wp2_with fail
          go_region
          all_goals
            go_wp2
            exact bodyPost_ret (v := .tuple #[.slice none 0 0, .agg #[.int .i64 (3), .int .i64 (-12)]]) (res_tc Try.results30 rfl (by (with_reducible repeat (first | exact S.out.e | apply Bk.al | apply Bk.dr | apply Bk.put' | (apply Bk.far; case hp => (simp [*] <;> omega)))); all_goals rfl) hu28 rfl (by kernel_rfl)) rfl ⟨none, 0, rfl, World.ownsRow_nil _ _ _ _, (by with_reducible repeat (first | exact S.out.b | refine below_drew1 ?_ | refine below_al ?_ _ | refine below_set ?_ (by simp <;> omega) _))⟩
        · have g1' : decide (b < a) = false := by simpa using hab
          have hf : f = (0, 0) := by
            rw [HBT.out, if_neg]
            rintro ⟨_, h | h⟩
            · rw [ha] at h; cases h
            · have h1 := inR_t hb0
              unfold inR at h
              simp only [Bool.and_eq_false_iff, decide_eq_false_iff_not] at h
              omega
          subst hf
          have hl := HLL.out
          rw [if_pos rfl] at hl
          subst hl
          clear HLL
          have hreg := HREG.out rfl
          have hbe := HBE.out rfl
          have had := HAD.out rfl
          have HREG2 := Lib.hid hreg
          clear hreg HREG HBE HAD HBT hV ha hb0 hab HCK
          refine wp_region_bel (by kernel_rfl) (by kernel_rfl) ?_
          repeat (go_big_quiet_step ((go_at_call 40; with_reducible (first | exact bel_bel (HCA.out _) | exact bel_bel (HCB.out _)))))
          refine wpQuiet_nil ?_
          rintro _ ⟨s0, rfl⟩
          have T := Lib.hid (S.out.bel s0.below)
          have T2 := Lib.hid (K.out.bel s0.below)
          clear S K ck fk xz xd xr xa xb xk cz cd cr ca cb ce fe
          have S := T
          have K := T2
          clear T T2
          generalize s0.w = w3 at *
          clear s0
          have cz := S.out.z.cell; have cd := S.out.d.cell; have cr := S.out.u.cell; have ca := S.out.xa.cell; have cb := S.out.xb.cell; have ce := S.out.e.cell; have fe := S.out.e.frozen
          have ck := K.out.cell
          have fk := K.out.frozen
          unfold srtL rawL at hbe
          have hlen1 : ((regL z d r).filter fun t => !r.ex.contains t).length ≤ 1501 := Nat.le_trans (List.length_filter_le _ _) HRL.out
          have hrl1 : (regL z d r).length ≤ 9223372036854775807 := by have := HRL.out; omega
          generalize hF1 : ((regL z d r).filter fun t => !r.ex.contains t) = F1 at *
          have hlen2 : (F1 ++ r.ad).length ≤ 1801 := by rw [List.length_append]; omega
          generalize hRW : F1 ++ r.ad = RW at *
          have hls : (RW.mergeSort fun x y => decide (x ≤ y)).length = RW.length := by simp
          generalize hSR : (RW.mergeSort fun x y => decide (x ≤ y)) = SR at *
          have hlc : (Lib.compact SR).length ≤ 1801 := by
            have : (Lib.compact SR).length ≤ SR.length := by
              unfold Lib.compact Lib.compactUpTo
              rw [List.length_map]
              exact Nat.le_trans (List.length_filter_le _ _) (by simp)
            omega
          generalize hCO : Lib.compact SR = CO at *
          generalize betL z d r a b = BL at *
          have HBE2 := Lib.hid hbe
          have HF1 := Lib.hid hF1
          have HRW := Lib.hid hRW
          have HSR := Lib.hid hSR
          have HCO := Lib.hid hCO
          have HLEN1 := Lib.hid hlen1
          have HLEN2 := Lib.hid hlen2
          have HLS := Lib.hid hls
          have HLC := Lib.hid hlc
          have HRL1 := Lib.hid hrl1
          have HAD2 := Lib.hid had
          have n3 : w.heap.size + 1 + 1 + 1 + 1 + 1 < w3.heap.size := S.out.e.lt
          have n4 : g1 < w3.heap.size := K.out.lt
          obtain ⟨B0, hB0⟩ : ∃ B0, w3.heap.size = B0 := ⟨_, rfl⟩
          rw [hB0] at n3 n4
          have HB0 := Lib.hid hB0
          clear hB0 had hbe hF1 hRW hSR hCO hlen1 hlen2 hls hlc hrl1 HRL
          obtain ⟨i0, hi0, hz0, hz1, hz2⟩ := info_parts info3
          have HI0 := Lib.hid hi0
          have HZ0 := Lib.hid hz0
          have HZ1 := Lib.hid hz1
          have HZ2 := Lib.hid hz2
          clear hi0 hz0 hz1 hz2
          go_upto_region 7 with (first | (go_at_call 57; ((with_reducible refine (HREG2.out _ (HRA.out.bel S.out.b)).mono ?_); rintro e w4 ⟨A1, c1, rfl, hown, hb⟩; rw [HB0.out] at hown hb; have hb0 : B0 ≤ w4.heap.size := Nat.le_trans (Nat.le_of_eq HB0.out.symm) hb.size; have T := Lib.hid (S.out.low hb n3); have T2 := Lib.hid (bk_low K.out hb n4); clear S K ck fk hb cz cd cr ca cb ce fe; have S := T; have K := T2; clear T T2; have cz := S.out.z.cell; have cd := S.out.d.cell; have cr := S.out.u.cell; have ca := S.out.xa.cell; have cb := S.out.xb.cell; have ce := S.out.e.cell; have fe := S.out.e.frozen; have ck := K.out.cell; have fk := K.out.frozen; have hdel : Calls Try.prog 56 #[.slice A1 (regL z d r).length c1, .func (.func 58) #[] #[.pointer (some ⟨w.heap.size + 1 + 1, 0, none⟩)]] w4 (GivesB B0 w4 F1) := (by rw [← HF1.out]; exact delete_own (B := B0) (fun x => r.ex.contains x) 58 #[.pointer (some ⟨w.heap.size + 1 + 1, 0, none⟩)] enters_exc (fun W x hbW => gives_exc r sr _ x W (S.out.low hbW n3).u (HRA.out.bel (S.out.low hbW n3).b)) hown hb0 HRL1.out); have HDEL := Lib.hid hdel; clear hdel hown)) | (go_at_call 56; ((with_reducible refine HDEL.out.mono ?_); rintro e w5 ⟨A2, c2, rfl, hown, hb⟩; have HB5 := Lib.hid (Nat.le_trans hb0 hb.size); have T := Lib.hid (S.out.low hb n3); have T2 := Lib.hid (bk_low K.out hb n4); clear S K ck fk hb cz cd cr ca cb ce fe; have S := T; have K := T2; clear T T2; have cz := S.out.z.cell; have cd := S.out.d.cell; have cr := S.out.u.cell; have ca := S.out.xa.cell; have cb := S.out.xb.cell; have ce := S.out.e.cell; have fe := S.out.e.frozen; have ck := K.out.cell; have fk := K.out.frozen; clear hb0; have HOWN := Lib.hid hown; clear hown)))
          clear HDEL HREG2 HF1
          go_upto_region 8 with (at_builtin; refine wpList_appL (l := F1) (r := r.ad) rfl _ _ 35 rfl i0 (.int .i64 0) Try.underlying35 HI0.out HZ0.out HZ1.out HZ2.out rfl rfl HOWN.out rfl (HRA.out.h7.bel S.out.b) (by have := HLEN1.out; have := HAD2.out; omega) HB5.out ?_; intro A3 c3 w6 hown hg; rw [HRW.out] at hown; rw [HRW.out]; have hb : Below B0 w5 w6 := (Below.refl _ _).grown hg HB5.out (fun k hk => (HOWN.out.lt k hk).1); have HB6 := Lib.hid (Nat.le_trans HB5.out hb.size); have T := Lib.hid (S.out.low hb n3); have T2 := Lib.hid (bk_low K.out hb n4); clear S K ck fk hb cz cd cr ca cb ce fe; have S := T; have K := T2; clear T T2; have cz := S.out.z.cell; have cd := S.out.d.cell; have cr := S.out.u.cell; have ca := S.out.xa.cell; have cb := S.out.xb.cell; have ce := S.out.e.cell; have fe := S.out.e.frozen; have ck := K.out.cell; have fk := K.out.frozen; clear HOWN HB5 hg; have HOWN := Lib.hid hown; clear hown)
          have hsort := sort_own HOWN.out HB6.out (by have := HLEN2.out; omega)
          rw [HSR.out] at hsort
          have HSORT := Lib.hid hsort
          clear hsort HLEN1 HAD2 HRW
          go_upto_region 9 with (go_at_call 60; ((with_reducible refine HSORT.out.mono ?_); rintro e w7 ⟨rfl, hown, hb⟩; have HB7 := Lib.hid (Nat.le_trans HB6.out hb.size); have T := Lib.hid (S.out.low hb n3); have T2 := Lib.hid (bk_low K.out hb n4); clear S K ck fk hb cz cd cr ca cb ce fe; have S := T; have K := T2; clear T T2; have cz := S.out.z.cell; have cd := S.out.d.cell; have cr := S.out.u.cell; have ca := S.out.xa.cell; have cb := S.out.xb.cell; have ce := S.out.e.cell; have fe := S.out.e.frozen; have ck := K.out.cell; have fk := K.out.frozen; clear HOWN HB6 HSORT; have HOWN := Lib.hid hown; clear hown))
          have hcom : Calls Try.prog 61 #[.slice A3 RW.length c3] w7 (GivesB B0 w7 CO) := by
            have := compact_own (l := SR) (A := A3) (c := c3) (B := B0) (w := w7) (by rw [HLS.out]; exact HOWN.out) HB7.out (by rw [HLS.out]; have := HLEN2.out; omega)
            rwa [HLS.out, HCO.out] at this
          have HCOM := Lib.hid hcom
          clear hcom HOWN HLEN2 HLS HCO HSR
          go_upto_region 10 with (go_at_call 61; ((with_reducible refine HCOM.out.mono ?_); rintro e w8 ⟨A4, c4, rfl, hown, hb⟩; have HB8 := Lib.hid (Nat.le_trans HB7.out hb.size); have T := Lib.hid (S.out.low hb n3); have T2 := Lib.hid (bk_low K.out hb n4); clear S K ck fk hb cz cd cr ca cb ce fe; have S := T; have K := T2; clear T T2; have cz := S.out.z.cell; have cd := S.out.d.cell; have cr := S.out.u.cell; have ca := S.out.xa.cell; have cb := S.out.xb.cell; have ce := S.out.e.cell; have fe := S.out.e.frozen; have ck := K.out.cell; have fk := K.out.frozen; clear HB7 HCOM; have HOWN := Lib.hid hown; clear hown))
          have hdel2 : Calls Try.prog 56 #[.slice A4 CO.length c4, .func (.func 62) #[] #[.pointer (some ⟨w.heap.size + 1 + 1 + 1, 0, none⟩), .pointer (some ⟨w.heap.size + 1 + 1 + 1 + 1, 0, none⟩)]] w8.drew (GivesB B0 w8.drew BL) := by
            rw [← HBE2.out]
            exact delete_own (B := B0) (fun x => decide (x < a) || decide (b < x)) 62 _ enters_out (fun W x hbW => gives_out _ _ a b x W ((S.out.bel (below_drew1 (Below.refl _ _))).low hbW n3).xa ((S.out.bel (below_drew1 (Below.refl _ _))).low hbW n3).xb) HOWN.out.drew HB8.out (by have := HLC.out; omega)
          have HDEL2 := Lib.hid hdel2
          clear hdel2 HOWN HLC HBE2
          go_region_with (go_at_call 56; ((with_reducible refine HDEL2.out.mono ?_); rintro e w9 ⟨A5, c5, rfl, hown, hb⟩; have S9 := Lib.hid ((S.out.bel (below_drew1 (Below.refl _ _))).low hb n3); have HOWN := Lib.hid hown; have ck9 := (bk_low K.out.dr hb n4).cell; have ce9 := S9.out.e.cell; have fe9 := S9.out.e.frozen; clear hown hb))
          all_goals
            go_wp2
            exact bodyPost_ret (v := .tuple #[.slice A5 BL.length c5, .agg #[.int .i64 0, .int .i64 0]]) (res_tc Try.results30 rfl (by (with_reducible repeat (first | exact S9.out.e | apply Bk.al | apply Bk.dr | apply Bk.put' | (apply Bk.far; case hp => (simp [*] <;> omega)))); all_goals rfl) hu28 rfl (by kernel_rfl)) rfl ⟨A5, c5, rfl, own_mono (by with_reducible repeat (first | exact HOWN.out | refine World.ownsRow.drew ?_ | (refine ownsRow_setCell_below ?_ (by simp <;> omega) _))) (by omega), (by with_reducible repeat (first | exact S9.out.b | refine below_drew1 ?_ | refine below_al ?_ _ | refine below_set ?_ (by simp <;> omega) _))⟩
  · have p1 := pair_no hv
    have p2 := pair_no' hv
    have hf : f = v := by rw [HBT.out, if_neg (by simp [hv])]
    subst hf
    have hl := HLL.out
    rw [if_neg hv] at hl
    subst hl
    clear HLL
    have HCA := HCA0
    have HCB := HCB0
    clear HREG HBE HAD HRL HBT hV hv HCA0 HCB0
    refine wp_region_bel (by kernel_rfl) (by kernel_rfl) ?_
    repeat (go_big_quiet_step ((go_at_call 40; with_reducible (first | exact bel_bel (HCA.out _) | exact bel_bel (HCB.out _)))))
    refine wpQuiet_nil ?_
    rintro _ ⟨s0, rfl⟩
    have T := Lib.hid (S.out.bel s0.below)
    have T2 := Lib.hid (K.out.bel s0.below)
    clear S K ck fk xz xd xr xa xb xk cz cd cr ca cb ce fe
    have S := T
    have K := T2
    clear T T2
    generalize s0.w = w3 at *
    clear s0
    have cz := S.out.z.cell; have cd := S.out.d.cell; have cr := S.out.u.cell; have ca := S.out.xa.cell; have cb := S.out.xb.cell; have ce := S.out.e.cell; have fe := S.out.e.frozen
    have ck := K.out.cell
    have fk := K.out.frozen
    go_wp2_with fail
    go_region
    all_goals
      go_wp2
      exact bodyPost_ret (v := .tuple #[.slice none 0 0, .agg #[.int .i64 (f.1), .int .i64 (f.2)]]) (res_tc Try.results30 rfl (by (with_reducible repeat (first | exact S.out.e | apply Bk.al | apply Bk.dr | apply Bk.put' | (apply Bk.far; case hp => (simp [*] <;> omega)))); all_goals rfl) hu28 rfl (by kernel_rfl)) rfl ⟨none, 0, rfl, World.ownsRow_nil _ _ _ _, (by with_reducible repeat (first | exact S.out.b | refine below_drew1 ?_ | refine below_al ?_ _ | refine below_set ?_ (by simp <;> omega) _))⟩
end Go.Proofs.Ytnjplichhkmmhaa.CalW
