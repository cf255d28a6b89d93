import Derived.Test.YtnjplichhkmmhaaZonW12
/- Walk: the reference's InstantsOf. -/
namespace Go.Proofs.Ytnjplichhkmmhaa.Cal
set_option linter.unusedVariables false
/-- the instants of a date, offset by offset. -/
def instL (z : Zone) (d : Date) : List Int :=
  (if 0 < z.b.mo ∧ cur z (secZ d z.su) d.y = z.su then [secZ d z.su] else []) ++ (if cur z (secZ d z.st) d.y = z.st then [secZ d z.st] else [])
theorem secZ_sub (d : Date) (o : Int) : secZ d o = secZ d 0 - 60 * o := by unfold secZ secs; dsimp only; omega
theorem Zone.lt_of {z : Zone} (h : z.fault = (0, 0)) (hz : z.b.zero = false) : z.st < z.su ∧ 0 < z.b.mo := by
  have hg := Zone.good_of h
  unfold Zone.fault at h
  split at h
  · simp at h
  split at h
  · simp at h
  rw [if_neg (by simp [hz])] at h
  split at h
  · simp at h
  rename_i hsu
  rcases hg with hg | ⟨hb, _⟩
  · rw [hg] at hz; cases hz
  · have := Turn.ok_bd hb
    omega
theorem Zone.mo_of {z : Zone} (hz : z.b.zero = true) : z.b.mo = 0 := by
  unfold Turn.zero at hz
  simp only [Bool.and_eq_true, beq_iff_eq] at hz
  exact hz.1
theorem allL_eq {z : Zone} (d : Date) (h : z.fault = (0, 0)) : allL z d = instL z d := by
  have e1 : allTo z d 1 = if cur z (secZ d z.su) d.y = z.su then [secZ d z.su] else [] := by
    unfold allTo allTo offAt
    simp
  have e2 : allL z d = if cur z (secZ d z.st) d.y = z.st ∧ (allTo z d 1).contains (secZ d z.st) = false then allTo z d 1 ++ [secZ d z.st] else allTo z d 1 := by
    show allTo z d 2 = _
    rw [allTo]
    unfold offAt
    simp
  rw [e2, e1]
  unfold instL
  have a1 := secZ_sub d z.su
  have a2 := secZ_sub d z.st
  cases hz : z.b.zero
  · have hlt := Zone.lt_of h hz
    have hne : secZ d z.st ≠ secZ d z.su := by omega
    by_cases c1 : cur z (secZ d z.su) d.y = z.su <;> by_cases c2 : cur z (secZ d z.st) d.y = z.st <;> simp [c1, c2, hlt.2, hne]
  · have hm := Zone.mo_of hz
    have hc : ∀ t y, cur z t y = z.st := fun t y => by unfold cur; rw [if_pos hz]
    rw [hc, hc]
    by_cases c1 : z.st = z.su
    · have he : secZ d z.st = secZ d z.su := by rw [c1]
      simp [c1, hm]
    · simp [c1, hm]
end Go.Proofs.Ytnjplichhkmmhaa.Cal
namespace Go.Proofs.Ytnjplichhkmmhaa.CalW
open Go.RowKit Go.Proofs.Ytnjplichhkmmhaa.Base Go.Proofs.Ytnjplichhkmmhaa.Cal
set_option linter.unusedVariables false
set_option linter.unusedSimpArgs false
/-- what stands in memory in InstantsOf. -/
structure InSt (w wr : World) (B gz gd : Nat) (zc dc : Array Value) (l : List Int) (v : Value) : Prop where
  z : Bk wr gz 25 zc
  d : Bk wr gd 34 dc
  own : wr.ownsRow B 3 1 v l.length (l.map iv)
  b : Below w.heap.size w wr
  hB : B ≤ wr.heap.size
  lz : gz < B
  ld : gd < B
  lw : w.heap.size ≤ B
  len : l.length ≤ 2
theorem InSt.bel {w wr w' : World} {B gz gd : Nat} {zc dc : Array Value} {l : List Int} {v : Value} (h : InSt w wr B gz gd zc dc l v) (hb : Below wr.heap.size wr w') : InSt w w' B gz gd zc dc l v :=
  ⟨h.z.bel hb, h.d.bel hb, own_bel h.own hb, below_go h.b hb, Nat.le_trans h.hB hb.size, h.lz, h.ld, h.lw, h.len⟩
theorem InSt.app {w wr w' : World} {B gz gd : Nat} {zc dc : Array Value} {l l' : List Int} {v v' : Value} (h : InSt w wr B gz gd zc dc l v) (hg : wr.grownBy w' v.ownBlock) (hown : w'.ownsRow B 3 1 v' l'.length (l'.map iv)) (hl : l'.length ≤ 2) : InSt w w' B gz gd zc dc l' v' :=
  ⟨h.z.grown hg h.own h.lz, h.d.grown hg h.own h.ld, hown, below_grown h.b hg h.own h.lw, Nat.le_trans h.hB hg.size, h.lz, h.ld, h.lw, hl⟩

set_option maxHeartbeats 4000000 in
set_option maxRecDepth 20000 in
theorem instantsof_calls (z : Zone) (d : Date) (w : World) (hk : z.fault = (0, 0)) (hq : locf d = (0, 0)) :
    Calls Try.prog 22 #[zval z, dval d] w (GivesI w (allL z d)) := by
  rw [allL_eq d hk]
  have hG := Zone.good_of hk
  have hM := zero_mo hk
  have s1 := (Zone.st_of hk).1
  have s2 := (Zone.st_of hk).2
  have s3 := (Zone.su_of hk).1
  have s4 := (Zone.su_of hk).2
  have bd := Date.ok_bd (locf_ok hq).1
  have y1 := (locf_ok hq).2.2.1
  have y2 := (locf_ok hq).2.2.2
  have hm := mlen_bd d.y d.mo
  have hF : FitsR ⟨d.y, d.mo, d.d, d.h, d.mi, d.s, 0⟩ := ⟨by dsimp only; omega, by dsimp only; omega, by dsimp only; omega, by dsimp only; omega, by dsimp only; omega, by dsimp only; omega, by dsimp only; omega, by dsimp only; omega, by dsimp only; omega, by dsimp only; omega, by dsimp only; omega, by dsimp only; omega, by dsimp only; omega, by dsimp only; omega⟩
  have hS := fun W => secs_calls d.y d.mo d.d d.h d.mi d.s 0 W hF
  have hN := fun W t => offnear_calls z t d.y W hG hM (by omega) (by omega)
  have hv := secZ_sub d z.su
  have hw := secZ_sub d z.st
  have hL : secZ d 0 = secs ⟨d.y, d.mo, d.d, d.h, d.mi, d.s, 0⟩ := rfl
  have hdb := dnum_bd d.y d.mo d.d (by omega) (by omega) (by omega) (by omega) (by omega) (by omega)
  have l1 : -1000000000000 ≤ secZ d 0 := by unfold secZ secs; dsimp only; omega
  have l2 : secZ d 0 ≤ 1000000000000 := by unfold secZ secs; dsimp only; omega
  unfold instL
  rw [hv, hw]
  rw [← hL] at hS
  clear hv hw hL hdb hF hm bd hk hq hG hM
  generalize secZ d 0 = L at *
  have hNA := fun W => hN W (L - 60 * z.su)
  have hNB := fun W => hN W (L - 60 * z.st)
  generalize cur z (L - 60 * z.su) d.y = ca at *
  generalize cur z (L - 60 * z.st) d.y = cb at *
  clear hN
  obtain ⟨nm, st, su, ⟨b0, b1, b2, b3⟩, ⟨e0, e1, e2, e3⟩⟩ := z
  obtain ⟨y, mo, dd, h, mi, s, dz⟩ := d
  dsimp only at s1 s2 s3 s4 y1 y2
  have hu25 := Try.underlying25
  have hu34 := Try.underlying34
  have hu23 := Try.underlying23
  generalize hl1 : (if 0 < (⟨nm, st, su, ⟨b0, b1, b2, b3⟩, ⟨e0, e1, e2, e3⟩⟩ : Zone).b.mo ∧ ca = (⟨nm, st, su, ⟨b0, b1, b2, b3⟩, ⟨e0, e1, e2, e3⟩⟩ : Zone).su then [L - 60 * (⟨nm, st, su, ⟨b0, b1, b2, b3⟩, ⟨e0, e1, e2, e3⟩⟩ : Zone).su] else []) = m1
  generalize hl2 : (if cb = (⟨nm, st, su, ⟨b0, b1, b2, b3⟩, ⟨e0, e1, e2, e3⟩⟩ : Zone).st then [L - 60 * (⟨nm, st, su, ⟨b0, b1, b2, b3⟩, ⟨e0, e1, e2, e3⟩⟩ : Zone).st] else []) = m2
  dsimp only at hl1 hl2 hS hNA hNB
  have hlen : m1.length ≤ 1 := by rw [← hl1]; split <;> simp
  have H1 := Lib.hid hl1
  have H2 := Lib.hid hl2
  have LB := Lib.hid hlen
  have HS := Lib.hid hS
  have HNA := Lib.hid hNA
  have HNB := Lib.hid hNB
  clear hl1 hl2 hlen hS hNA hNB
  obtain ⟨i0, hi0, hz0, hz1, hz2⟩ := info_parts info3
  have HI0 := Lib.hid hi0
  have HZ0 := Lib.hid hz0
  have HZ1 := Lib.hid hz1
  have HZ2 := Lib.hid hz2
  clear hi0 hz0 hz1 hz2
  go_enter Try.func22, Try.ntmps22
  go_upto_region 1 with fail
  have BZ := (Bk.new w 25 #[.string nm, .int .i64 st, .int .i64 su, .int .i64 b0, .int .i64 b1, .int .i64 b2, .int .i64 b3, .int .i64 e0, .int .i64 e1, .int .i64 e2, .int .i64 e3]).al (.cells #[.int .i64 y, .int .i64 mo, .int .i64 dd, .int .i64 h, .int .i64 mi, .int .i64 s, .int .i64 dz] 34)
  have BD := Bk.new' (n := w.heap.size + 1) (w.alloc (.cells #[.string nm, .int .i64 st, .int .i64 su, .int .i64 b0, .int .i64 b1, .int .i64 b2, .int .i64 b3, .int .i64 e0, .int .i64 e1, .int .i64 e2, .int .i64 e3] 25)) 34 #[.int .i64 y, .int .i64 mo, .int .i64 dd, .int .i64 h, .int .i64 mi, .int .i64 s, .int .i64 dz] (by simp)
  have BB := below_al (below_al (Below.refl w.heap.size w) (.cells #[.string nm, .int .i64 st, .int .i64 su, .int .i64 b0, .int .i64 b1, .int .i64 b2, .int .i64 b3, .int .i64 e0, .int .i64 e1, .int .i64 e2, .int .i64 e3] 25)) (.cells #[.int .i64 y, .int .i64 mo, .int .i64 dd, .int .i64 h, .int .i64 mi, .int .i64 s, .int .i64 dz] 34)
  have S := Lib.hid (InSt.mk BZ BD (World.ownsRow_nil _ (w.heap.size + 2) _ _) BB (by simp) (by omega) (by omega) (by omega) (by simp) : InSt w ((w.alloc (.cells #[.string nm, .int .i64 st, .int .i64 su, .int .i64 b0, .int .i64 b1, .int .i64 b2, .int .i64 b3, .int .i64 e0, .int .i64 e1, .int .i64 e2, .int .i64 e3] 25)).alloc (.cells #[.int .i64 y, .int .i64 mo, .int .i64 dd, .int .i64 h, .int .i64 mi, .int .i64 s, .int .i64 dz] 34)) (w.heap.size + 2) w.heap.size (w.heap.size + 1) #[.string nm, .int .i64 st, .int .i64 su, .int .i64 b0, .int .i64 b1, .int .i64 b2, .int .i64 b3, .int .i64 e0, .int .i64 e1, .int .i64 e2, .int .i64 e3] #[.int .i64 y, .int .i64 mo, .int .i64 dd, .int .i64 h, .int .i64 mi, .int .i64 s, .int .i64 dz] [] (.slice none 0 0))
  clear BZ BD BB
  generalize (w.alloc (.cells #[.string nm, .int .i64 st, .int .i64 su, .int .i64 b0, .int .i64 b1, .int .i64 b2, .int .i64 b3, .int .i64 e0, .int .i64 e1, .int .i64 e2, .int .i64 e3] 25)).alloc (.cells #[.int .i64 y, .int .i64 mo, .int .i64 dd, .int .i64 h, .int .i64 mi, .int .i64 s, .int .i64 dz] 34) = w0 at *
  have cz := S.out.z.cell
  have cd := S.out.d.cell
  go_upto_region 5 with (go_at_call 23; refine (HS.out _).mono ?_; rintro e w2 ⟨rfl, hb⟩; have T := Lib.hid (S.out.bel hb); clear S cz cd hb; have S := T; clear T; have cz := S.out.z.cell; have cd := S.out.d.cell)
  generalize hcc : (decide (0 < b0) && (ca == su)) = cc
  have HCC := Lib.hid hcc
  clear hcc
  go_cut [8, 46] (fun s8 s46 wx => ∃ A0 k0, s8 = .slice A0 ([] : List Int).length k0 ∧ s46 = .bool cc ∧ Hid (InSt w wx (w.heap.size + 2) w.heap.size (w.heap.size + 1) #[.string nm, .int .i64 st, .int .i64 su, .int .i64 b0, .int .i64 b1, .int .i64 b2, .int .i64 b3, .int .i64 e0, .int .i64 e1, .int .i64 e2, .int .i64 e3] #[.int .i64 y, .int .i64 mo, .int .i64 dd, .int .i64 h, .int .i64 mi, .int .i64 s, .int .i64 dz] [] (.slice A0 ([] : List Int).length k0)))
  case first =>
    clear cz cd
    have cz := S.out.z.s
    have cd := S.out.d.s
    refine wp_region_bel (by kernel_rfl) (by kernel_rfl) ?_
    by_cases h0 : 0 < b0
    · have hd0 : decide (0 < b0) = true := decide_eq_true h0
      have hce : cc = (ca == su) := by rw [← HCC.out, hd0, Bool.true_and]
      generalize hk1 : (ca == su) = k1 at *
      subst hce
      repeat (go_big_quiet_step ((go_at_call 44; exact bel_bel (HNA.out _))))
      refine wpQuiet_nil ?_
      rintro _ ⟨s0, rfl⟩
      have hb := s0.below
      generalize s0.w = w1 at *
      clear s0 cz cd
      have T := Lib.hid (S.out.bel hb)
      go_wp2_with fail
      go_meet
      exact ⟨none, 0, rfl, rfl, T⟩
    · have hd0 : decide (0 < b0) = false := decide_eq_false h0
      have hce : cc = false := by rw [← HCC.out, hd0, Bool.false_and]
      subst hce
      repeat (go_big_quiet_step (fail))
      refine wpQuiet_nil ?_
      rintro _ ⟨s0, rfl⟩
      have hb := s0.below
      generalize s0.w = w1 at *
      clear s0 cz cd
      have T := Lib.hid (S.out.bel hb)
      go_wp2_with fail
      go_meet
      exact ⟨none, 0, rfl, rfl, T⟩
  clear S cz cd
  obtain ⟨A0, k0, rfl, rfl, S⟩ := hcut
  go_upto_if 46 with fail
  go_cut [8] (fun s8 wx => ∃ A0 k0, s8 = .slice A0 m1.length k0 ∧ Hid (InSt w wx (w.heap.size + 2) w.heap.size (w.heap.size + 1) #[.string nm, .int .i64 st, .int .i64 su, .int .i64 b0, .int .i64 b1, .int .i64 b2, .int .i64 b3, .int .i64 e0, .int .i64 e1, .int .i64 e2, .int .i64 e3] #[.int .i64 y, .int .i64 mo, .int .i64 dd, .int .i64 h, .int .i64 mi, .int .i64 s, .int .i64 dz] m1 (.slice A0 m1.length k0)))
  case first =>
    refine (tf cc).elim (fun hc => ?_) fun hc => ?_
    · have hm1 : m1 = [] := by
        rw [← H1.out, if_neg (fun hh => ?_)]
        have := HCC.out
        rw [hc, decide_eq_true hh.1, beq_iff_eq.2 hh.2] at this
        cases this
      subst hm1
      subst hc
      go_wp2_with fail
      go_meet
      exact ⟨A0, k0, rfl, S⟩
    · have hx := HCC.out
      rw [hc, Bool.and_eq_true] at hx
      have hm1 : m1 = [] ++ [L - 60 * su] := by rw [← H1.out, if_pos ⟨of_decide_eq_true hx.1, eq_of_beq hx.2⟩]; rfl
      subst hm1
      clear hx
      subst hc
      go_wp2_with (first | (at_builtin; refine wpList_app1 rfl _ _ 35 rfl (w.heap.size + 2) 3 i0 (.int .i64 0) 8 Try.underlying35 HI0.out HZ0.out HZ1.out HZ2.out rfl iv A0 k0 [] (L - 60 * su) _ rfl S.out.own rfl rfl (by have := S.out.len; unfold maxLen; omega) (by have := S.out.len; omega) S.out.hB ?_; intro A2 c2 w3 hown hg; have T := Lib.hid (S.out.app hg hown (by first | (simp; done) | (have := LB.out; simp; omega))); clear S hg hown; have S := T; clear T))
      go_meet
      exact ⟨A2, c2, rfl, S⟩
  case rest =>
    clear S
    obtain ⟨A0, k0, rfl, S⟩ := hcut
    have cz := S.out.z.s
    have cd := S.out.d.s
    go_upto_region 7 with fail
    refine wp_region_bel (by kernel_rfl) (by kernel_rfl) ?_
    repeat (go_big_quiet_step ((go_at_call 44; exact bel_bel (HNB.out _))))
    refine wpQuiet_nil ?_
    rintro _ ⟨s0, rfl⟩
    have hb := s0.below
    generalize s0.w = w1 at *
    clear s0 cz cd
    have T := Lib.hid (S.out.bel hb)
    clear S hb
    have S := T
    clear T
    refine (tf (cb == st)).elim (fun k1 => ?_) fun k1 => ?_
    · have hm2 : m2 = [] := by rw [← H2.out, if_neg (by simp at k1; simp [k1])]
      have HM := Lib.hid hm2
      clear hm2
      go_wp2_with fail
      go_ret
      rw [HM.out, List.append_nil]
      exact ⟨A0, k0, rfl, Rd.own S.out.own, Fresh.own S.out.own S.out.lw, S.out.b⟩
    · have hm2 : m2 = [L - 60 * st] := by rw [← H2.out, if_pos (eq_of_beq k1)]
      have HM := Lib.hid hm2
      clear hm2
      go_wp2_with (at_builtin; refine wpList_app1 rfl _ _ 35 rfl (w.heap.size + 2) 3 i0 (.int .i64 0) 8 Try.underlying35 HI0.out HZ0.out HZ1.out HZ2.out rfl iv A0 k0 m1 (L - 60 * st) _ rfl S.out.own rfl rfl (by have := S.out.len; unfold maxLen; omega) (by have := S.out.len; omega) S.out.hB ?_; intro A2 c2 w3 hown hg; have T := Lib.hid (S.out.app hg hown (by first | (simp; done) | (have := LB.out; simp; omega))); clear S hg hown; have S := T; clear T)
      go_ret
      rw [HM.out]
      exact ⟨A2, c2, by simp, Rd.own S.out.own, Fresh.own S.out.own S.out.lw, S.out.b⟩
end Go.Proofs.Ytnjplichhkmmhaa.CalW
