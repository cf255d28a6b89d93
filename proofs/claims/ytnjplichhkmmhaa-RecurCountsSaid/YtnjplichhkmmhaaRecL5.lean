import Derived.Test.YtnjplichhkmmhaaRecL4
import Derived.Test.YtnjplichhkmmhaaMr
/- Walk: the law RecurCounts. -/
namespace Go.Proofs.Ytnjplichhkmmhaa.CalW
open Go.RowKit Go.Proofs.Ytnjplichhkmmhaa.Base Go.Proofs.Ytnjplichhkmmhaa.Cal
set_option linter.unusedVariables false
set_option linter.unusedSimpArgs false
attribute [local go_sem high] eqA28
theorem cnt_at {w : World} {r : Rule} {sr : RS} (h : RuleAt w r sr) (n : Int) : RuleAt w (r.cnt n) ⟨sr.a5, sr.c5, none, 0, none, 0⟩ :=
  ⟨h.h5, Rd.nil, Rd.nil, h.l5, by simp [Rule.cnt], by simp [Rule.cnt], h.i5, by simp [Rule.cnt, I64], by simp [Rule.cnt, I64], h.u0, h.u1⟩
theorem Rd.take {w : World} {A : Option Addr} {l : List Int} (h : Rd w iv A l) (k : Nat) : Rd w iv A (l.take k) := fun hn => by
  obtain ⟨ad, e, hb, hc⟩ := h (by rw [List.length_take] at hn; omega)
  exact ⟨ad, e, hb, fun j x hx => hc j x (by
    have hj : j < k := by have := (List.getElem?_eq_some_iff.1 hx).1; rw [List.length_take] at this; omega
    rwa [List.getElem?_take_of_lt hj] at hx)⟩
set_option maxHeartbeats 2000000 in
set_option maxRecDepth 20000 in
theorem lawcounts_walk (z : Zone) (d : Date) (r : Rule) (sr : RS) (n : Int) (w : World) (hs : z.name.size ≤ maxLen) (hd : True) (hR : RuleAt w r sr) (in0 : -9223372036854775808 ≤ n) (in1 : n ≤ 9223372036854775807) :
    Calls Try.prog 11 #[zval z, dval d, rval r sr, .int .i64 n] w fun e w' => e = .returned (.bool true) ∧ Below w.heap.size w w' := by
  have hX := fun W => rexample_calls W
  have hB := fun W A => between_calls z d (r.cnt 0) ⟨sr.a5, sr.c5, none, 0, none, 0⟩ (-68719476736) 68719476736 W hs A (by omega) (by omega) (by omega) (by omega)
  have hF : ∀ k : Nat, 1 ≤ k → k ≤ 1500 → btwF z d (r.cnt 0) (-68719476736) 68719476736 = (0, 0) → btwF z d (r.cnt k) (-68719476736) 68719476736 = (0, 0) ∧ betL z d (r.cnt k) (-68719476736) 68719476736 = (betL z d (r.cnt 0) (-68719476736) 68719476736).take k := fun k h1 h2 h => by
    have o := btwF_ok h
    refine ⟨btwF_mk ?_ (by decide) (by decide), cnt_bet o.1 o.2.1 o.2.2.1 h1⟩
    unfold rckF
    rw [if_neg (by rw [o.1]; simp), if_neg (by rw [o.2.1]; simp), if_neg (by omega)]
    exact cnt_fault o.2.2.2 (by omega) (by omega)
  have hB2 : ∀ k : Nat, 1 ≤ k → k ≤ 1500 → btwF z d (r.cnt 0) (-68719476736) 68719476736 = (0, 0) → ∀ W, RuleAt W (r.cnt k) ⟨sr.a5, sr.c5, none, 0, none, 0⟩ → Calls Try.prog 30 #[zval z, dval d, rval (r.cnt k) ⟨sr.a5, sr.c5, none, 0, none, 0⟩, .int .i64 (-68719476736), .int .i64 68719476736] W (GivesBF W ((betL z d (r.cnt 0) (-68719476736) 68719476736).take k) (0, 0)) := fun k h1 h2 h W A => by
    have := between_calls z d (r.cnt k) ⟨sr.a5, sr.c5, none, 0, none, 0⟩ (-68719476736) 68719476736 W hs A (by omega) (by omega) (by omega) (by omega)
    rwa [(hF k h1 h2 h).1, if_pos rfl, (hF k h1 h2 h).2] at this
  have hL := fun (h : btwF z d (r.cnt 0) (-68719476736) 68719476736 = (0, 0)) => betL_len (z := z) (d := d) (a := -68719476736) (b := 68719476736) (btwF_ok h).2.2.2
  have hOr := btwF_or z d (r.cnt 0) (-68719476736) 68719476736
  clear hF
  generalize btwF z d (r.cnt 0) (-68719476736) 68719476736 = f at *
  generalize betL z d (r.cnt 0) (-68719476736) 68719476736 = BL at *
  generalize hLL : (if f = (0, 0) then BL else []) = LL at *
  have hu25 := Try.underlying25
  have hu34 := Try.underlying34
  have hu49 := Try.underlying49
  have hu28 := Try.underlying28
  have hu35 := Try.underlying35
  have S : Hid (LwS w (((w.alloc (.cells (zcells z) 25)).alloc (.cells (dcells d) 34)).alloc (.cells (rcells r sr) 49)) (zcells z) (dcells d) (rcells r sr)) := Lib.hid
    ⟨((Bk.new w _ _).al _).al _, (Bk.new' (w.alloc (.cells (zcells z) 25)) _ _ (by simp)).al _, Bk.new' ((w.alloc (.cells (zcells z) 25)).alloc (.cells (dcells d) 34)) _ _ (by simp), below_al (below_al (below_al (Below.refl _ _) _) _) _⟩
  have HX := Lib.hid hX
  have HB := Lib.hid hB
  have HB2 := Lib.hid hB2
  have HL := Lib.hid hL
  have HRA := Lib.hid hR
  have HOR := Lib.hid hOr
  have HLL := Lib.hid hLL
  clear hX hB hB2 hL hR hs hOr hLL
  go_enter Try.func11, Try.ntmps11
  go_upto_region 1 with fail
  generalize ((w.alloc (.cells (zcells z) 25)).alloc (.cells (dcells d) 34)).alloc (.cells (rcells r sr) 49) = w0 at *
  go_upto_region 3 with (go_at_call 27; ((with_reducible refine (HX.out _).mono ?_); rintro e w1 ⟨rfl, hb⟩; have T := Lib.hid (S.out.bel hb); clear S hb; have S := T; clear T))
  have cr := S.out.u.cell
  have fr := S.out.u.frozen
  go_upto_region 6 with fail
  have T := Lib.hid (((S.out.put 6 (.slice none 0 0) rfl).put 7 (.slice none 0 0) rfl).put (rc' := rcells (r.cnt 0) ⟨sr.a5, sr.c5, none, 0, none, 0⟩) 2 (.int .i64 0) rfl)
  clear S cr fr
  have S := T
  clear T
  generalize ((w1.setCell ⟨w.heap.size + 1 + 1, 6, none⟩ (.slice none 0 0)).setCell ⟨w.heap.size + 1 + 1, 7, none⟩ (.slice none 0 0)).setCell ⟨w.heap.size + 1 + 1, 2, none⟩ (.int .i64 0) = w2 at *
  clear w1
  have cz := S.out.z.cell; have cd := S.out.d.cell; have cr := S.out.u.cell
  go_upto_region 7 with (go_at_call 30; ((with_reducible refine (HB.out _ (cnt_at (HRA.out.bel S.out.b) 0)).mono ?_); rintro e w3 ⟨A1, c1, rfl, hown, hb⟩))
  have T := Lib.hid ((S.out.bel hb).al (.cells #[.int .i64 f.1, .int .i64 f.2] 28))
  have K1 := Lib.hid (Bk.new w3 28 #[.int .i64 f.1, .int .i64 f.2])
  have KO := Lib.hid (hown.alloc (.cells #[.int .i64 f.1, .int .i64 f.2] 28))
  have n1 : w.heap.size + 1 + 1 < w2.heap.size := S.out.u.lt
  have n2 : w2.heap.size ≤ w3.heap.size := hb.size
  clear S cz cd cr hown hb
  have S := T
  clear T
  generalize w2.heap.size = B0 at *
  generalize w3.heap.size = g1 at *
  generalize w3.alloc (.cells #[.int .i64 f.1, .int .i64 f.2] 28) = w4 at *
  clear w2 w3
  have k1 := K1.out.cell
  have cr := S.out.u.cell
  have fr := S.out.u.frozen
  rcases HOR.out with hf | hf
  · subst hf
    have hl := HLL.out
    rw [if_pos rfl] at hl
    subst hl
    rcases tf (inR n 1 1500) with hin | hin
    · go_wp2_with (go_at_call 24; refine (rIn_is hin _).mono ?_; rintro e w' ⟨rfl, rfl⟩)
      go_ret
      exact ⟨rfl, S.out.b⟩
    · have hn := inR_t hin
      go_upto_region 9 with (go_at_call 24; refine (rIn_is hin _).mono ?_; rintro e w' ⟨rfl, rfl⟩)
      obtain ⟨k, rfl⟩ : ∃ k : Nat, n = k := ⟨n.toNat, by omega⟩
      have h1 : 1 ≤ k := by omega
      have h2 : k ≤ 1500 := by omega
      have HC := Lib.hid (HB2.out k h1 h2 (by simp))
      have hn0 := HL.out (by simp)
      have HN0 := Lib.hid hn0
      have hL2' : ∃ L2, L2 = BL.take k := ⟨_, rfl⟩
      obtain ⟨L2, hL2⟩ := hL2'
      rw [← hL2] at HC
      have HTK := Lib.hid hL2
      clear hn0 HB2 HL HB HX hn hin hL2
      go_upto_region 10 with fail
      have T := Lib.hid (S.out.put (rc' := rcells (r.cnt k) ⟨sr.a5, sr.c5, none, 0, none, 0⟩) 2 (.int .i64 k) rfl)
      have JO := Lib.hid (ownsRow_setCell_below KO.out (a := ⟨w.heap.size + 1 + 1, 2, none⟩) (by simp; omega) (.int .i64 k))
      clear S K1 k1 KO cr fr
      have S := T
      clear T
      generalize w4.setCell ⟨w.heap.size + 1 + 1, 2, none⟩ (.int .i64 k) = w5 at *
      clear w4
      have cz := S.out.z.cell; have cd := S.out.d.cell; have cr := S.out.u.cell
      go_upto_region 11 with (go_at_call 30; ((with_reducible refine (HC.out _ (cnt_at (HRA.out.bel S.out.b) k)).mono ?_); rintro e w6 ⟨A2, c2, rfl, hown, hb⟩))
      have T := Lib.hid ((S.out.bel hb).al (.cells #[.int .i64 0, .int .i64 0] 28))
      have K2 := Lib.hid (Bk.new w6 28 #[.int .i64 0, .int .i64 0])
      have OA := Lib.hid ((own_bel JO.out hb).alloc (.cells #[.int .i64 0, .int .i64 0] 28))
      have RB := Lib.hid ((Rd.own hown).al (.cells #[.int .i64 0, .int .i64 0] 28))
      clear S JO cz cd cr hown hb HC
      have S := T
      clear T
      generalize w6.heap.size = g3 at *
      generalize w6.alloc (.cells #[.int .i64 0, .int .i64 0] 28) = w7 at *
      clear w5 w6
      have k2 := K2.out.cell
      by_cases hlt : k < BL.length
      · have hlk : L2.length = k := by rw [HTK.out]; simp; omega
        have RA := Lib.hid (Rd.take (Rd.own OA.out) k)
        rw [← HTK.out] at RA
        have hn3 : L2.length ≤ maxLen := by have := HN0.out; unfold maxLen; omega
        clear HTK
        subst hlk
        have HN := Lib.hid hn3
        rcases own_parts OA.out with ⟨_, _, h0⟩ | ⟨g, cur, rfl, q1, q2, q3, q4, q5, q6⟩
        · rw [h0] at hlt; simp at hlt
        · have i1 : (0 : Int) ≤ (L2.length : Int) := by omega
          have i2 : (L2.length : Int) < (BL.length : Int) := by omega
          have i3 : (L2.length : Int) ≤ (c1 : Int) := by omega
          clear q1 q2 q5 q6 hn3 OA h1 h2 in0 in1
          go_wp2_with (go_at_call 21; ((with_reducible refine (ints_same RB.out RA.out HN.out).mono ?_); rintro e w8 ⟨rfl, hb8⟩))
          go_ret
          exact ⟨by simp, below_go S.out.b hb8⟩
      · have hte : L2 = BL := by rw [HTK.out]; exact List.take_of_length_le (by omega)
        clear HTK
        subst hte
        have i2 : (L2.length : Int) ≤ (k : Int) := by omega
        have RA := Lib.hid (Rd.own OA.out)
        have hn3 : L2.length ≤ maxLen := by have := HN0.out; unfold maxLen; omega
        have HN := Lib.hid hn3
        clear hn3 OA
        go_wp2_with (go_at_call 21; ((with_reducible refine (ints_same RB.out RA.out HN.out).mono ?_); rintro e w8 ⟨rfl, hb8⟩))
        go_ret
        exact ⟨by simp, below_go S.out.b hb8⟩
  · have p1 : (f.1 == 0) = false := by simpa using hf
    have p1b : (!(f.1 == 0)) = true := by rw [p1]; rfl
    have p1c : (f.1 != 0) = true := by simpa using hf
    have hl := HLL.out
    rw [if_neg (fun h => hf (by rw [h]))] at hl
    subst hl
    clear HLL HB2 HL hf HOR
    go_wp2
    go_ret
    exact ⟨by simp, S.out.b⟩
end Go.Proofs.Ytnjplichhkmmhaa.CalW
