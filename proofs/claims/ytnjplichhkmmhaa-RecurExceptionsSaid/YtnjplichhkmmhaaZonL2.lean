import Derived.Test.YtnjplichhkmmhaaZonW14
import Derived.Test.YtnjplichhkmmhaaZonL1
/- Walk: the law ZonesInstantsMatchesSpec. -/
namespace Go.Proofs.Ytnjplichhkmmhaa.Cal
theorem locf_or (d : Date) : locf d = (0, 0) ∨ (locf d).1 ≠ 0 := by
  by_cases h : d.ok = true
  · have hd : dfault d = (0, 0) := if_pos h
    unfold locf
    rw [if_neg (by rw [hd]; simp)]
    split
    · exact .inr (by simp)
    split
    · exact .inr (by simp)
    · exact .inl rfl
  · have hd : dfault d = (3, -3) := if_neg h
    unfold locf
    rw [if_pos (by rw [hd]; simp), hd]
    exact .inr (by simp)
theorem Zone.fault_or' (z : Zone) : z.fault = (0, 0) ∨ z.fault.1 ≠ 0 := by
  rcases z.fault_or with h | h
  · exact .inl h
  · exact .inr (by simpa using h)
end Go.Proofs.Ytnjplichhkmmhaa.Cal
namespace Go.Proofs.Ytnjplichhkmmhaa.CalW
open Go.RowKit Go.Proofs.Ytnjplichhkmmhaa.Base Go.Proofs.Ytnjplichhkmmhaa.Cal
set_option linter.unusedVariables false
set_option linter.unusedSimpArgs false
theorem ints_same {A B : Option Addr} {a : List Int} {c d : Nat} {w : World} (h : Rd w iv A a) (h' : Rd w iv B a) (hl : a.length ≤ maxLen) :
    Calls Try.prog 21 #[.slice A a.length c, .slice B a.length d] w fun e w' => e = .returned (.bool true) ∧ Below w.heap.size w w' := by
  have hh := ints_calls A B a a c d w h h' hl hl
  rw [decide_eq_true (rfl : a = a)] at hh
  exact hh

attribute [local go_sem high] eqA28
set_option maxHeartbeats 4000000 in
set_option maxRecDepth 20000 in
theorem lawinstants_walk (z : Zone) (d : Date) (w : World) (hs : z.name.size ≤ maxLen) (hd : True) :
    Calls Try.prog 4 #[zval z, dval d] w fun e w' => e = .returned (.bool true) ∧ Below w.heap.size w w' := by
  have hF := fun W => zonefault_calls z W hs
  have hI := fun W => instants_calls z d W hs
  have hQ := fun W => localfault_calls d W
  have hO := fun W h h' => instantsof_calls z d W h h'
  have hA : instR z d = if z.fault ≠ (0, 0) then ([], z.fault) else if locf d ≠ (0, 0) then ([], locf d) else (allL z d, (0, 0)) := rfl
  have hKo := z.fault_or'
  have hQo := locf_or d
  have hln : (allL z d).length ≤ 2 := allTo_len z d 2
  obtain ⟨nm, st, su, ⟨b0, b1, b2, b3⟩, ⟨e0, e1, e2, e3⟩⟩ := z
  obtain ⟨y, mo, dd, h, mi, s, dz⟩ := d
  have hu25 := Try.underlying25
  have hu28 := Try.underlying28
  have hu34 := Try.underlying34
  generalize instR ⟨nm, st, su, ⟨b0, b1, b2, b3⟩, ⟨e0, e1, e2, e3⟩⟩ ⟨y, mo, dd, h, mi, s, dz⟩ = v at *
  generalize allL ⟨nm, st, su, ⟨b0, b1, b2, b3⟩, ⟨e0, e1, e2, e3⟩⟩ ⟨y, mo, dd, h, mi, s, dz⟩ = al at *
  generalize Zone.fault ⟨nm, st, su, ⟨b0, b1, b2, b3⟩, ⟨e0, e1, e2, e3⟩⟩ = k at *
  generalize locf ⟨y, mo, dd, h, mi, s, dz⟩ = q at *
  obtain ⟨l, f1, f2⟩ := v
  have HZF := Lib.hid hF
  have HI := Lib.hid hI
  have HQ := Lib.hid hQ
  have HO := Lib.hid hO
  have HA := Lib.hid hA
  have HKO := Lib.hid hKo
  have HQO := Lib.hid hQo
  have HLN := Lib.hid hln
  clear hF hI hQ hO hA hKo hQo hln
  go_enter Try.func4, Try.ntmps4
  go_upto_region 1 with fail
  have BZ := Lib.hid ((Bk.new w 25 #[.string nm, .int .i64 st, .int .i64 su, .int .i64 b0, .int .i64 b1, .int .i64 b2, .int .i64 b3, .int .i64 e0, .int .i64 e1, .int .i64 e2, .int .i64 e3]).al (.cells #[.int .i64 y, .int .i64 mo, .int .i64 dd, .int .i64 h, .int .i64 mi, .int .i64 s, .int .i64 dz] 34))
  have BD := Lib.hid (Bk.new' (n := w.heap.size + 1) (w.alloc (.cells #[.string nm, .int .i64 st, .int .i64 su, .int .i64 b0, .int .i64 b1, .int .i64 b2, .int .i64 b3, .int .i64 e0, .int .i64 e1, .int .i64 e2, .int .i64 e3] 25)) 34 #[.int .i64 y, .int .i64 mo, .int .i64 dd, .int .i64 h, .int .i64 mi, .int .i64 s, .int .i64 dz] (by simp))
  have BB := Lib.hid (below_al (below_al (Below.refl w.heap.size w) (.cells #[.string nm, .int .i64 st, .int .i64 su, .int .i64 b0, .int .i64 b1, .int .i64 b2, .int .i64 b3, .int .i64 e0, .int .i64 e1, .int .i64 e2, .int .i64 e3] 25)) (.cells #[.int .i64 y, .int .i64 mo, .int .i64 dd, .int .i64 h, .int .i64 mi, .int .i64 s, .int .i64 dz] 34))
  generalize (w.alloc (.cells #[.string nm, .int .i64 st, .int .i64 su, .int .i64 b0, .int .i64 b1, .int .i64 b2, .int .i64 b3, .int .i64 e0, .int .i64 e1, .int .i64 e2, .int .i64 e3] 25)).alloc (.cells #[.int .i64 y, .int .i64 mo, .int .i64 dd, .int .i64 h, .int .i64 mi, .int .i64 s, .int .i64 dz] 34) = w0 at *
  go_upto_region 3 with (go_at_call 14; refine (zexample_calls _).mono ?_; rintro e w1 ⟨rfl, hb⟩)
  have JZ := Lib.hid (BZ.out.bel hb)
  have JD := Lib.hid (BD.out.bel hb)
  have JB := Lib.hid (below_go BB.out hb)
  clear BZ BD BB hb w0
  have cz := JZ.out.cell
  have cd := JD.out.cell
  go_upto_region 4 with (go_at_call 19; refine (HI.out _).mono ?_; rintro e w2 ⟨A0, k0, rfl, hR, hF, hb⟩)
  have KZ := Lib.hid ((JZ.out.bel hb).al (.cells #[.int .i64 f1, .int .i64 f2] 28))
  have KD := Lib.hid ((JD.out.bel hb).al (.cells #[.int .i64 f1, .int .i64 f2] 28))
  have K1 := Lib.hid (Bk.new w2 28 #[.int .i64 f1, .int .i64 f2])
  have KB := Lib.hid (below_al (below_go JB.out hb) (.cells #[.int .i64 f1, .int .i64 f2] 28))
  have KR := Lib.hid (hR.al (.cells #[.int .i64 f1, .int .i64 f2] 28))
  clear cz cd JZ JD JB hb hR hF
  generalize w2.heap.size = g1 at *
  generalize w2.alloc (.cells #[.int .i64 f1, .int .i64 f2] 28) = w3 at *
  clear w1 w2
  have cz := KZ.out.cell
  go_upto_region 5 with (go_at_call 16; refine (HZF.out _).mono ?_; rintro e w2 ⟨rfl, hb⟩)
  have JZ := Lib.hid ((KZ.out.bel hb).al (.cells #[.int .i64 k.1, .int .i64 k.2] 28))
  have JD := Lib.hid ((KD.out.bel hb).al (.cells #[.int .i64 k.1, .int .i64 k.2] 28))
  have J1 := Lib.hid ((K1.out.bel hb).al (.cells #[.int .i64 k.1, .int .i64 k.2] 28))
  have J2 := Lib.hid (Bk.new w2 28 #[.int .i64 k.1, .int .i64 k.2])
  have JB := Lib.hid (below_al (below_go KB.out hb) (.cells #[.int .i64 k.1, .int .i64 k.2] 28))
  have RB := Lib.hid (below_al hb (.cells #[.int .i64 k.1, .int .i64 k.2] 28))
  have hg3 : w3.heap.size ≤ w2.heap.size := hb.size
  have hg0 : w.heap.size ≤ w2.heap.size := (below_go KB.out hb).size
  have n1 : ¬ w2.heap.size = w.heap.size := Nat.ne_of_gt (KZ.out.bel hb).lt
  have n2 : ¬ w2.heap.size = w.heap.size + 1 := Nat.ne_of_gt (KD.out.bel hb).lt
  have n3 : ¬ w2.heap.size = g1 := Nat.ne_of_gt (K1.out.bel hb).lt
  have n4 : ¬ w.heap.size = w2.heap.size := fun h => n1 h.symm
  have n5 : ¬ w.heap.size + 1 = w2.heap.size := fun h => n2 h.symm
  have n6 : ¬ g1 = w2.heap.size := fun h => n3 h.symm
  clear cz KZ KD K1 KB hb
  generalize w2.heap.size = g2 at *
  generalize w2.alloc (.cells #[.int .i64 k.1, .int .i64 k.2] 28) = w4 at *
  clear w2
  have cz := JZ.out.cell
  have cd := JD.out.cell
  have c1 := J1.out.cell
  have c2 := J2.out.cell
  have m2 := J2.out.frozen
  by_cases hk : k = (0, 0)
  · subst hk
    by_cases hq : q = (0, 0)
    · subst hq
      have hv := HA.out
      rw [if_neg (by simp), if_neg (by simp)] at hv
      simp only [Prod.mk.injEq] at hv
      obtain ⟨rfl, rfl, rfl⟩ := hv
      have HO2 := Lib.hid (fun W => HO.out W rfl rfl)
      clear HA HKO HQO
      go_upto_region 9 with (go_at_call 20; refine (HQ.out _).mono ?_; rintro e w5 ⟨rfl, hb⟩; have KZ := Lib.hid (JZ.out.bel hb); have KD := Lib.hid (JD.out.bel hb); have K1 := Lib.hid (J1.out.bel hb); have K2 := Lib.hid (J2.out.bel hb); have KB := Lib.hid (below_go JB.out hb); have KX := Lib.hid (below_go RB.out hb); clear cz cd c1 c2 m2 JZ JD J1 J2 JB RB hb; have cz := KZ.out.cell; have cd := KD.out.cell; have c1 := K1.out.cell; have c2 := K2.out.cell; have m2 := K2.out.frozen)
      go_wp2_with (first | (go_at_call 22; refine (HO2.out _).mono ?_; rintro e w6 ⟨B0, k1, rfl, hR2, hF2, hb6⟩) | (go_at_call 21; refine (ints_same (KR.out.bel (below_go (by with_reducible repeat (first | exact KX.out | refine below_set ?_ (by simp <;> omega) _)) hb6)) hR2 (by have := HLN.out; unfold maxLen; omega)).mono ?_; rintro e w7 ⟨rfl, hb7⟩))
      go_ret
      exact ⟨rfl, below_go (below_go (by with_reducible repeat (first | exact KB.out | refine below_set ?_ (by simp <;> omega) _)) hb6) hb7⟩
    · have p := (HQO.out).resolve_left hq
      have p1 : (q.1 == 0) = false := by simpa using p
      have p2 : (q.1 != 0) = true := by simpa using p
      have hv := HA.out
      rw [if_neg (by simp), if_pos hq] at hv
      simp only [Prod.mk.injEq] at hv
      obtain ⟨rfl, hv1⟩ := hv
      have hv2 : f1 = q.1 ∧ f2 = q.2 := ⟨by rw [← hv1], by rw [← hv1]⟩
      obtain ⟨rfl, rfl⟩ := hv2
      clear hq hv1 p HA HKO HQO
      go_wp2_with (go_at_call 20; refine (HQ.out _).mono ?_; rintro e w5 ⟨rfl, hb⟩; have KZ := Lib.hid (JZ.out.bel hb); have KD := Lib.hid (JD.out.bel hb); have K1 := Lib.hid (J1.out.bel hb); have K2 := Lib.hid (J2.out.bel hb); have KB := Lib.hid (below_go JB.out hb); have KX := Lib.hid (below_go RB.out hb); clear cz cd c1 c2 m2 JZ JD J1 J2 JB RB hb; have cz := KZ.out.cell; have cd := KD.out.cell; have c1 := K1.out.cell; have c2 := K2.out.cell; have m2 := K2.out.frozen)
      go_ret
      exact ⟨rfl, by with_reducible repeat (first | exact KB.out | refine below_drew1 ?_ | refine below_set ?_ (by simp <;> omega) _)⟩
  · have p := (HKO.out).resolve_left hk
    have p1 : (k.1 == 0) = false := by simpa using p
    have p2 : (k.1 != 0) = true := by simpa using p
    have hv := HA.out
    rw [if_pos hk] at hv
    simp only [Prod.mk.injEq] at hv
    obtain ⟨rfl, hv1⟩ := hv
    have hv2 : f1 = k.1 ∧ f2 = k.2 := ⟨by rw [← hv1], by rw [← hv1]⟩
    obtain ⟨rfl, rfl⟩ := hv2
    clear hk hv1 p HA HKO
    go_wp2
    go_ret
    exact ⟨rfl, by with_reducible repeat (first | exact JB.out | refine below_drew1 ?_ | refine below_drewN ?_ _)⟩
end Go.Proofs.Ytnjplichhkmmhaa.CalW
