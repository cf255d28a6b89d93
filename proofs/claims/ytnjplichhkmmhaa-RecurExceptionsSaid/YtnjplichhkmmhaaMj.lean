import Derived.Test.YtnjplichhkmmhaaRecW4
import Derived.Test.YtnjplichhkmmhaaMc
import Derived.Test.YtnjplichhkmmhaaZonW10
import Derived.Test.YtnjplichhkmmhaaZonW12
import Derived.Test.YtnjplichhkmmhaaZonL2
/- Walk: recur.date. -/
namespace Go.Proofs.Ytnjplichhkmmhaa.Cal
/-- the day with a number, with the time of a date. -/
def dateN (n : Int) (d : Date) : Date := ⟨ymdY n, ymdM n, ymdD n, d.h, d.mi, d.s, 0⟩
theorem lday_day (n : Int) : lday (n * 86400) 0 = n := by unfold lday; omega
theorem civ_day (n : Int) : (civ (n * 86400) 0).y = ymdY n ∧ (civ (n * 86400) 0).mo = ymdM n ∧ (civ (n * 86400) 0).d = ymdD n ∧ (civ (n * 86400) 0).z = 0 := by
  unfold civ
  rw [lday_day]
  exact ⟨rfl, rfl, rfl, rfl⟩
end Go.Proofs.Ytnjplichhkmmhaa.Cal
namespace Go.Proofs.Ytnjplichhkmmhaa.CalW
open Go.RowKit Go.Proofs.Ytnjplichhkmmhaa.Base Go.Proofs.Ytnjplichhkmmhaa.Cal
set_option linter.unusedVariables false
set_option linter.unusedSimpArgs false
set_option maxHeartbeats 1000000 in
set_option maxRecDepth 20000 in
theorem rdate_calls (n : Int) (d : Date) (w : World) (h1 : -800000 ≤ n) (h2 : n ≤ 800000) :
    Calls Try.prog 73 #[.int .i64 n, dval d] w fun e w' => e = .returned (dval (dateN n d)) ∧ Below w.heap.size w w' := by
  have hA := fun W => at_calls (n * 86400) 0 W (by omega) (by omega) (by omega) (by omega)
  have hc := civ_day n
  unfold dateN
  generalize civ (n * 86400) 0 = c at *
  obtain ⟨cy, cmo, cd, ch, cmi, cs, cz⟩ := c
  dsimp only at hc
  obtain ⟨e1, e2, e3, e4⟩ := hc
  rw [← e1, ← e2, ← e3]
  subst e4
  clear e1 e2 e3
  obtain ⟨y, mo, dd, h, mi, s, dz⟩ := d
  have hu34 := Try.underlying34
  have HA := Lib.hid hA
  clear hA
  have BB := Lib.hid (below_al (below_al (Below.refl w.heap.size w) (.cells #[.int .i64 y, .int .i64 mo, .int .i64 dd, .int .i64 h, .int .i64 mi, .int .i64 s, .int .i64 dz] 34)) (.cells #[.int .i64 0, .int .i64 0, .int .i64 0, .int .i64 0, .int .i64 0, .int .i64 0, .int .i64 0] 34))
  have BD := Lib.hid ((Bk.new w 34 #[.int .i64 y, .int .i64 mo, .int .i64 dd, .int .i64 h, .int .i64 mi, .int .i64 s, .int .i64 dz]).al (.cells #[.int .i64 0, .int .i64 0, .int .i64 0, .int .i64 0, .int .i64 0, .int .i64 0, .int .i64 0] 34))
  have BR := Lib.hid (Bk.new' (n := w.heap.size + 1) (w.alloc (.cells #[.int .i64 y, .int .i64 mo, .int .i64 dd, .int .i64 h, .int .i64 mi, .int .i64 s, .int .i64 dz] 34)) 34 #[.int .i64 0, .int .i64 0, .int .i64 0, .int .i64 0, .int .i64 0, .int .i64 0, .int .i64 0] (by simp))
  go_enter Try.func73, Try.ntmps73
  go_upto_region 1 with fail
  generalize (w.alloc (.cells #[.int .i64 y, .int .i64 mo, .int .i64 dd, .int .i64 h, .int .i64 mi, .int .i64 s, .int .i64 dz] 34)).alloc (.cells #[.int .i64 0, .int .i64 0, .int .i64 0, .int .i64 0, .int .i64 0, .int .i64 0, .int .i64 0] 34) = w0 at *
  go_upto_region 2 with (go_at_call 41; ((with_reducible refine (HA.out _).mono ?_); rintro e w1 ⟨rfl, hb⟩))
  have KD := Lib.hid ((BD.out.bel hb).al (.cells #[.int .i64 cy, .int .i64 cmo, .int .i64 cd, .int .i64 ch, .int .i64 cmi, .int .i64 cs, .int .i64 0] 34))
  have KR := Lib.hid ((BR.out.bel hb).al (.cells #[.int .i64 cy, .int .i64 cmo, .int .i64 cd, .int .i64 ch, .int .i64 cmi, .int .i64 cs, .int .i64 0] 34))
  have KC := Lib.hid (Bk.new w1 34 #[.int .i64 cy, .int .i64 cmo, .int .i64 cd, .int .i64 ch, .int .i64 cmi, .int .i64 cs, .int .i64 0])
  have KB := Lib.hid (below_al (below_go BB.out hb) (.cells #[.int .i64 cy, .int .i64 cmo, .int .i64 cd, .int .i64 ch, .int .i64 cmi, .int .i64 cs, .int .i64 0] 34))
  have n1 : w.heap.size + 1 < w1.heap.size := (BR.out.bel hb).lt
  clear BD BR BB hb
  generalize w1.heap.size = gc at *
  generalize w1.alloc (.cells #[.int .i64 cy, .int .i64 cmo, .int .i64 cd, .int .i64 ch, .int .i64 cmi, .int .i64 cs, .int .i64 0] 34) = w2 at *
  clear w0 w1
  have kd := KD.out.cell
  have kr := KR.out.cell
  have fr := KR.out.frozen
  have kc := KC.out.cell
  have fc := KC.out.frozen
  go_cut [] (fun wx => Hid (Bk wx gc 34 #[.int .i64 cy, .int .i64 cmo, .int .i64 cd, .int .i64 h, .int .i64 mi, .int .i64 s, .int .i64 0] ∧ Bk wx (w.heap.size + 1) 34 #[.int .i64 0, .int .i64 0, .int .i64 0, .int .i64 0, .int .i64 0, .int .i64 0, .int .i64 0] ∧ Below w.heap.size w wx))
  case first =>
    go_region
    all_goals
      go_wp2_with fail
      go_meet
      exact Lib.hid ⟨(by (with_reducible repeat (first | exact KC.out | apply Bk.al | apply Bk.dr | apply Bk.put' | (apply Bk.far; case hp => (simp [*] <;> omega)))); all_goals rfl), (by (with_reducible repeat (first | exact KR.out | apply Bk.al | apply Bk.dr | apply Bk.put' | (apply Bk.far; case hp => (simp [*] <;> omega)))); all_goals rfl), (by with_reducible repeat (first | exact KB.out | refine below_drew1 ?_ | refine below_al ?_ _ | refine below_set ?_ (by simp <;> omega) _))⟩
  case rest =>
    obtain ⟨q1, q2, q3⟩ := hcut.out
    clear kd kr fr kc fc KD KR KC KB hcut
    have KC := Lib.hid q1
    have KR := Lib.hid q2
    have KB := Lib.hid q3
    clear q1 q2 q3
    have kc := KC.out.cell
    have kr := KR.out.cell
    have fr := KR.out.frozen
    go_wp2
    refine bodyPost_ret (v := .agg #[.int .i64 cy, .int .i64 cmo, .int .i64 cd, .int .i64 h, .int .i64 mi, .int .i64 s, .int .i64 0]) (res_c Try.results73 rfl (by (with_reducible repeat (first | exact KR.out | apply Bk.al | apply Bk.dr | apply Bk.put' | (apply Bk.far; case hp => (simp [*] <;> omega)))); all_goals rfl) hu34 rfl (by kernel_rfl)) rfl ⟨by rfl, (by with_reducible repeat (first | exact KB.out | refine below_drew1 ?_ | refine below_al ?_ _ | refine below_set ?_ (by simp <;> omega) _))⟩
end Go.Proofs.Ytnjplichhkmmhaa.CalW
/- Walk: recur.Check and the reference's BetweenFault. -/
namespace Go.Proofs.Ytnjplichhkmmhaa.Cal
def rckF (z : Zone) (d : Date) (r : Rule) : Int × Int :=
  if z.fault ≠ (0, 0) then (z.fault.1, -10)
  else if locf d ≠ (0, 0) then ((locf d).1, -11)
  else if 3980 < d.y then (3, -11)
  else r.fault
def btwF (z : Zone) (d : Date) (r : Rule) (a b : Int) : Int × Int :=
  if rckF z d r = (0, 0) ∧ (inR a (-68719476736) 68719476736 = false ∨ inR b a 68719476736 = false) then (3, -12) else rckF z d r
theorem Rule.fault_or (r : Rule) : r.fault = (0, 0) ∨ r.fault.1 ≠ 0 := by
  unfold Rule.fault
  split
  · exact .inr (by simp)
  split
  · exact .inr (by simp)
  split
  · exact .inr (by simp)
  split
  · exact .inr (by simp)
  split
  · exact .inr (by simp)
  split
  · exact .inr ‹_›
  split
  · exact .inr ‹_›
  split
  · exact .inr ‹_›
  · exact .inl rfl
theorem rckF_or (z : Zone) (d : Date) (r : Rule) : rckF z d r = (0, 0) ∨ (rckF z d r).1 ≠ 0 := by
  have h1 := z.fault_or'
  have h2 := locf_or d
  have h3 := r.fault_or
  unfold rckF
  split
  · exact .inr (h1.resolve_left ‹_›)
  split
  · exact .inr (h2.resolve_left ‹_›)
  split
  · exact .inr (by simp)
  · exact h3
theorem rckF_ok {z : Zone} {d : Date} {r : Rule} (h : rckF z d r = (0, 0)) : z.fault = (0, 0) ∧ locf d = (0, 0) ∧ d.y ≤ 3980 ∧ r.fault = (0, 0) := by
  have h1 := z.fault_or'
  have h2 := locf_or d
  unfold rckF at h
  split at h
  · rename_i h3; have := h1.resolve_left h3; simp only [Prod.mk.injEq] at h; exact absurd h.1 this
  split at h
  · rename_i h3; have := h2.resolve_left h3; simp only [Prod.mk.injEq] at h; exact absurd h.1 this
  split at h
  · simp at h
  · rename_i k1 k2 k3
    exact ⟨by simpa using k1, by simpa using k2, by omega, h⟩
end Go.Proofs.Ytnjplichhkmmhaa.Cal
namespace Go.Proofs.Ytnjplichhkmmhaa.CalW
open Go.RowKit Go.Proofs.Ytnjplichhkmmhaa.Base Go.Proofs.Ytnjplichhkmmhaa.Cal
set_option linter.unusedVariables false
set_option linter.unusedSimpArgs false
attribute [local go_sem high] eqA28
/-- the arguments of a recurrence, and the fault, in memory. -/
structure CkSt (w wr : World) (zc dc rc fc : Array Value) (r : Rule) (sr : RS) : Prop where
  z : Bk wr w.heap.size 25 zc
  d : Bk wr (w.heap.size + 1) 34 dc
  u : Bk wr (w.heap.size + 1 + 1) 49 rc
  e : Bk wr (w.heap.size + 1 + 1 + 1) 28 fc
  a : RuleAt wr r sr
  b : Below w.heap.size w wr
theorem CkSt.bel {w wr w' : World} {zc dc rc fc : Array Value} {r : Rule} {sr : RS} (h : CkSt w wr zc dc rc fc r sr) (hb : Below wr.heap.size wr w') : CkSt w w' zc dc rc fc r sr :=
  ⟨h.z.bel hb, h.d.bel hb, h.u.bel hb, h.e.bel hb, h.a.bel hb, below_go h.b hb⟩
theorem CkSt.al {w wr : World} {zc dc rc fc : Array Value} {r : Rule} {sr : RS} (h : CkSt w wr zc dc rc fc r sr) (o : Obj) : CkSt w (wr.alloc o) zc dc rc fc r sr := h.bel (below_al (Below.refl _ _) _)
set_option maxHeartbeats 1000000 in
set_option maxRecDepth 20000 in
theorem rcheck_calls (z : Zone) (d : Date) (r : Rule) (sr : RS) (w : World) (hs : z.name.size ≤ maxLen) (hR : RuleAt w r sr) :
    Calls Try.prog 55 #[zval z, dval d, rval r sr] w fun e w' => e = .returned (fval (rckF z d r)) ∧ Below w.heap.size w w' := by
  have hZ := fun W => zvalidate_calls z W hs
  have hD := fun W => zcheck_calls d W
  have hV := fun W A => rvalidate_calls r sr W A
  generalize hv : rckF z d r = v
  unfold rckF at hv
  obtain ⟨nm, st, su, ⟨b0, b1, b2, b3⟩, ⟨e0, e1, e2, e3⟩⟩ := z
  obtain ⟨y, mo, dd, h, mi, s, dz⟩ := d
  obtain ⟨fr, ev, ct, un, hu, wd, ex, ad⟩ := r
  obtain ⟨a5, c5, a6, c6, a7, c7⟩ := sr
  have hu25 := Try.underlying25
  have hu34 := Try.underlying34
  have hu49 := Try.underlying49
  have hu28 := Try.underlying28
  dsimp only at hv
  generalize Zone.fault ⟨nm, st, su, ⟨b0, b1, b2, b3⟩, ⟨e0, e1, e2, e3⟩⟩ = k at *
  generalize locf ⟨y, mo, dd, h, mi, s, dz⟩ = q at *
  generalize Rule.fault ⟨fr, ev, ct, un, hu, wd, ex, ad⟩ = f at *
  have S := Lib.hid (CkSt.mk ((((Bk.new w 25 #[.string nm, .int .i64 st, .int .i64 su, .int .i64 b0, .int .i64 b1, .int .i64 b2, .int .i64 b3, .int .i64 e0, .int .i64 e1, .int .i64 e2, .int .i64 e3]).al (.cells #[.int .i64 y, .int .i64 mo, .int .i64 dd, .int .i64 h, .int .i64 mi, .int .i64 s, .int .i64 dz] 34)).al (.cells #[.int .i64 fr, .int .i64 ev, .int .i64 ct, .int .i64 un, .bool hu, .slice a5 wd.length c5, .slice a6 ex.length c6, .slice a7 ad.length c7] 49)).al (.cells #[.int .i64 0, .int .i64 0] 28)) (((Bk.new' (n := w.heap.size + 1) (w.alloc (.cells #[.string nm, .int .i64 st, .int .i64 su, .int .i64 b0, .int .i64 b1, .int .i64 b2, .int .i64 b3, .int .i64 e0, .int .i64 e1, .int .i64 e2, .int .i64 e3] 25)) 34 #[.int .i64 y, .int .i64 mo, .int .i64 dd, .int .i64 h, .int .i64 mi, .int .i64 s, .int .i64 dz] (by simp)).al (.cells #[.int .i64 fr, .int .i64 ev, .int .i64 ct, .int .i64 un, .bool hu, .slice a5 wd.length c5, .slice a6 ex.length c6, .slice a7 ad.length c7] 49)).al (.cells #[.int .i64 0, .int .i64 0] 28)) ((Bk.new' (n := w.heap.size + 1 + 1) ((w.alloc (.cells #[.string nm, .int .i64 st, .int .i64 su, .int .i64 b0, .int .i64 b1, .int .i64 b2, .int .i64 b3, .int .i64 e0, .int .i64 e1, .int .i64 e2, .int .i64 e3] 25)).alloc (.cells #[.int .i64 y, .int .i64 mo, .int .i64 dd, .int .i64 h, .int .i64 mi, .int .i64 s, .int .i64 dz] 34)) 49 #[.int .i64 fr, .int .i64 ev, .int .i64 ct, .int .i64 un, .bool hu, .slice a5 wd.length c5, .slice a6 ex.length c6, .slice a7 ad.length c7] (by simp)).al (.cells #[.int .i64 0, .int .i64 0] 28)) (Bk.new' (n := w.heap.size + 1 + 1 + 1) (((w.alloc (.cells #[.string nm, .int .i64 st, .int .i64 su, .int .i64 b0, .int .i64 b1, .int .i64 b2, .int .i64 b3, .int .i64 e0, .int .i64 e1, .int .i64 e2, .int .i64 e3] 25)).alloc (.cells #[.int .i64 y, .int .i64 mo, .int .i64 dd, .int .i64 h, .int .i64 mi, .int .i64 s, .int .i64 dz] 34)).alloc (.cells #[.int .i64 fr, .int .i64 ev, .int .i64 ct, .int .i64 un, .bool hu, .slice a5 wd.length c5, .slice a6 ex.length c6, .slice a7 ad.length c7] 49)) 28 #[.int .i64 0, .int .i64 0] (by simp)) ((((hR.al (.cells #[.string nm, .int .i64 st, .int .i64 su, .int .i64 b0, .int .i64 b1, .int .i64 b2, .int .i64 b3, .int .i64 e0, .int .i64 e1, .int .i64 e2, .int .i64 e3] 25)).al (.cells #[.int .i64 y, .int .i64 mo, .int .i64 dd, .int .i64 h, .int .i64 mi, .int .i64 s, .int .i64 dz] 34)).al (.cells #[.int .i64 fr, .int .i64 ev, .int .i64 ct, .int .i64 un, .bool hu, .slice a5 wd.length c5, .slice a6 ex.length c6, .slice a7 ad.length c7] 49)).al (.cells #[.int .i64 0, .int .i64 0] 28)) (below_al (below_al (below_al (below_al (Below.refl w.heap.size w) (.cells #[.string nm, .int .i64 st, .int .i64 su, .int .i64 b0, .int .i64 b1, .int .i64 b2, .int .i64 b3, .int .i64 e0, .int .i64 e1, .int .i64 e2, .int .i64 e3] 25)) (.cells #[.int .i64 y, .int .i64 mo, .int .i64 dd, .int .i64 h, .int .i64 mi, .int .i64 s, .int .i64 dz] 34)) (.cells #[.int .i64 fr, .int .i64 ev, .int .i64 ct, .int .i64 un, .bool hu, .slice a5 wd.length c5, .slice a6 ex.length c6, .slice a7 ad.length c7] 49)) (.cells #[.int .i64 0, .int .i64 0] 28)) : CkSt w ((((w.alloc (.cells #[.string nm, .int .i64 st, .int .i64 su, .int .i64 b0, .int .i64 b1, .int .i64 b2, .int .i64 b3, .int .i64 e0, .int .i64 e1, .int .i64 e2, .int .i64 e3] 25)).alloc (.cells #[.int .i64 y, .int .i64 mo, .int .i64 dd, .int .i64 h, .int .i64 mi, .int .i64 s, .int .i64 dz] 34)).alloc (.cells #[.int .i64 fr, .int .i64 ev, .int .i64 ct, .int .i64 un, .bool hu, .slice a5 wd.length c5, .slice a6 ex.length c6, .slice a7 ad.length c7] 49)).alloc (.cells #[.int .i64 0, .int .i64 0] 28)) #[.string nm, .int .i64 st, .int .i64 su, .int .i64 b0, .int .i64 b1, .int .i64 b2, .int .i64 b3, .int .i64 e0, .int .i64 e1, .int .i64 e2, .int .i64 e3] #[.int .i64 y, .int .i64 mo, .int .i64 dd, .int .i64 h, .int .i64 mi, .int .i64 s, .int .i64 dz] #[.int .i64 fr, .int .i64 ev, .int .i64 ct, .int .i64 un, .bool hu, .slice a5 wd.length c5, .slice a6 ex.length c6, .slice a7 ad.length c7] #[.int .i64 0, .int .i64 0] ⟨fr, ev, ct, un, hu, wd, ex, ad⟩ ⟨a5, c5, a6, c6, a7, c7⟩)
  have HV := Lib.hid hv
  have HZ := Lib.hid hZ
  have HD := Lib.hid hD
  have HR := Lib.hid hV
  clear hv hZ hD hV hR
  go_enter Try.func55, Try.ntmps55
  go_upto_region 1 with fail
  generalize (((w.alloc (.cells #[.string nm, .int .i64 st, .int .i64 su, .int .i64 b0, .int .i64 b1, .int .i64 b2, .int .i64 b3, .int .i64 e0, .int .i64 e1, .int .i64 e2, .int .i64 e3] 25)).alloc (.cells #[.int .i64 y, .int .i64 mo, .int .i64 dd, .int .i64 h, .int .i64 mi, .int .i64 s, .int .i64 dz] 34)).alloc (.cells #[.int .i64 fr, .int .i64 ev, .int .i64 ct, .int .i64 un, .bool hu, .slice a5 wd.length c5, .slice a6 ex.length c6, .slice a7 ad.length c7] 49)).alloc (.cells #[.int .i64 0, .int .i64 0] 28) = w0 at *
  have cz := S.out.z.cell; have cd := S.out.d.cell; have cr := S.out.u.cell; have ce := S.out.e.cell; have fe := S.out.e.frozen
  go_upto_region 2 with (go_at_call 15; ((with_reducible refine (HZ.out _).mono ?_); rintro e w1 ⟨rfl, hb⟩; have T := Lib.hid (S.out.bel hb); clear S cz cd cr ce fe; clear hb; have S := T; clear T; have cz := S.out.z.cell; have cd := S.out.d.cell; have cr := S.out.u.cell; have ce := S.out.e.cell; have fe := S.out.e.frozen))
  have T := Lib.hid (S.out.al (.cells #[.int .i64 k.1, .int .i64 k.2] 28))
  have K1 := Lib.hid (Bk.new w1 28 #[.int .i64 k.1, .int .i64 k.2])
  have n1 : w.heap.size + 1 + 1 + 1 < w1.heap.size := S.out.e.lt
  clear S cz cd cr ce fe
  have S := T
  clear T
  generalize w1.heap.size = g1 at *
  generalize w1.alloc (.cells #[.int .i64 k.1, .int .i64 k.2] 28) = w2 at *
  clear w0 w1
  have cz := S.out.z.cell; have cd := S.out.d.cell; have cr := S.out.u.cell; have ce := S.out.e.cell; have fe := S.out.e.frozen
  have c1 := K1.out.cell
  by_cases hk : k = (0, 0)
  · subst hk
    have hv := HV.out
    rw [if_neg (by simp)] at hv
    clear HV
    have HV := Lib.hid hv
    clear hv
    go_upto_region 5 with (first | (go_at_call 45; ((with_reducible refine (HD.out _).mono ?_); rintro e w1 ⟨rfl, hb⟩; have T := Lib.hid (S.out.bel hb); clear S cz cd cr ce fe; clear hb; have S := T; clear T; have cz := S.out.z.cell; have cd := S.out.d.cell; have cr := S.out.u.cell; have ce := S.out.e.cell; have fe := S.out.e.frozen)))
    have T := Lib.hid (S.out.al (.cells #[.int .i64 q.1, .int .i64 q.2] 28))
    have K2 := Lib.hid (Bk.new w1 28 #[.int .i64 q.1, .int .i64 q.2])
    have n2 : w.heap.size + 1 + 1 + 1 < w1.heap.size := S.out.e.lt
    clear S cz cd cr ce fe
    clear K1 c1
    have S := T
    clear T
    generalize w1.heap.size = g2 at *
    generalize w1.alloc (.cells #[.int .i64 q.1, .int .i64 q.2] 28) = w3 at *
    clear w2 w1
    have cz := S.out.z.cell; have cd := S.out.d.cell; have cr := S.out.u.cell; have ce := S.out.e.cell; have fe := S.out.e.frozen
    have c2 := K2.out.cell
    by_cases hq : q = (0, 0)
    · subst hq
      have hv := HV.out
      rw [if_neg (by simp)] at hv
      clear HV
      by_cases hy : 3980 < y
      · rw [if_pos hy] at hv
        subst hv
        go_wp2
        refine bodyPost_ret (v := .agg #[.int .i64 3, .int .i64 (-11)]) (res_c Try.results55 rfl (by (with_reducible repeat (first | exact S.out.e | apply Bk.al | apply Bk.dr | apply Bk.put' | (apply Bk.far; case hp => (simp [*] <;> omega)))); all_goals rfl) hu28 rfl (by kernel_rfl)) rfl ⟨by rfl, (by with_reducible repeat (first | exact S.out.b | refine below_drew1 ?_ | refine below_al ?_ _ | refine below_set ?_ (by simp <;> omega) _))⟩
      · rw [if_neg hy] at hv
        subst hv
        have hy' : y ≤ 3980 := by omega
        clear hy
        go_wp2_with (go_at_call 28; ((with_reducible refine (HR.out _ S.out.a).mono ?_); rintro e w1 ⟨rfl, hb⟩; have T := Lib.hid (S.out.bel hb); clear S cz cd cr ce fe; clear hb; have S := T; clear T; have cz := S.out.z.cell; have cd := S.out.d.cell; have cr := S.out.u.cell; have ce := S.out.e.cell; have fe := S.out.e.frozen))
        refine bodyPost_ret (v := .agg #[.int .i64 f.1, .int .i64 f.2]) (res_c Try.results55 rfl (by (with_reducible repeat (first | exact S.out.e | apply Bk.al | apply Bk.dr | apply Bk.put' | (apply Bk.far; case hp => (simp [*] <;> omega)))); all_goals rfl) hu28 rfl (by kernel_rfl)) rfl ⟨by rfl, (by with_reducible repeat (first | exact S.out.b | refine below_drew1 ?_ | refine below_al ?_ _ | refine below_set ?_ (by simp <;> omega) _))⟩
    · have p1 := pair_no hq
      have p2 := pair_no' hq
      have hv := HV.out
      rw [if_pos hq] at hv
      subst hv
      clear HV hq
      go_wp2
      refine bodyPost_ret (v := .agg #[.int .i64 q.1, .int .i64 (-11)]) (res_c Try.results55 rfl (by (with_reducible repeat (first | exact S.out.e | apply Bk.al | apply Bk.dr | apply Bk.put' | (apply Bk.far; case hp => (simp [*] <;> omega)))); all_goals rfl) hu28 rfl (by kernel_rfl)) rfl ⟨by rfl, (by with_reducible repeat (first | exact S.out.b | refine below_drew1 ?_ | refine below_al ?_ _ | refine below_set ?_ (by simp <;> omega) _))⟩
  · have p1 := pair_no hk
    have p2 := pair_no' hk
    have hv := HV.out
    rw [if_pos hk] at hv
    subst hv
    clear HV hk
    go_wp2
    refine bodyPost_ret (v := .agg #[.int .i64 k.1, .int .i64 (-10)]) (res_c Try.results55 rfl (by (with_reducible repeat (first | exact S.out.e | apply Bk.al | apply Bk.dr | apply Bk.put' | (apply Bk.far; case hp => (simp [*] <;> omega)))); all_goals rfl) hu28 rfl (by kernel_rfl)) rfl ⟨by rfl, (by with_reducible repeat (first | exact S.out.b | refine below_drew1 ?_ | refine below_al ?_ _ | refine below_set ?_ (by simp <;> omega) _))⟩
end Go.Proofs.Ytnjplichhkmmhaa.CalW
