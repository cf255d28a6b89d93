import Derived.Test.YtnjplichhkmmhaaZonW11
import Derived.Test.YtnjplichhkmmhaaZonW8
import Derived.Test.YtnjplichhkmmhaaMd
/- Walks: the reference's LocalFault and OffsetOf. -/
namespace Go.Proofs.Ytnjplichhkmmhaa.CalW
open Go.RowKit Go.Proofs.Ytnjplichhkmmhaa.Base Go.Proofs.Ytnjplichhkmmhaa.Cal
set_option linter.unusedVariables false
set_option linter.unusedSimpArgs false

attribute [local go_sem high] eqA28
set_option maxHeartbeats 4000000 in
set_option maxRecDepth 20000 in
theorem localfault_calls (d : Date) (w : World) :
    Calls Try.prog 20 #[dval d] w fun e w' => e = .returned (.agg #[.int .i64 (locf d).1, .int .i64 (locf d).2]) ∧ Below w.heap.size w w' := by
  have hV := fun W => datefault_calls d.y d.mo d.d d.h d.mi d.s d.z W
  obtain ⟨y, mo, dd, h, mi, s, dz⟩ := d
  have hu28 := Try.underlying28
  have hu34 := Try.underlying34
  generalize hv : locf ⟨y, mo, dd, h, mi, s, dz⟩ = v
  have HV := Lib.hid hv
  clear hv
  generalize hk : dfault ⟨y, mo, dd, h, mi, s, dz⟩ = k at *
  have HK := Lib.hid hk
  have HVAL := Lib.hid hV
  clear hk hV
  go_enter Try.func20, Try.ntmps20
  go_upto_region 1 with fail
  have HZ := Lib.hid ((Bk.new w 34 #[.int .i64 y, .int .i64 mo, .int .i64 dd, .int .i64 h, .int .i64 mi, .int .i64 s, .int .i64 dz]).al (.cells #[.int .i64 0, .int .i64 0] 28))
  have HE := Lib.hid (Bk.new' (n := w.heap.size + 1) (w.alloc (.cells #[.int .i64 y, .int .i64 mo, .int .i64 dd, .int .i64 h, .int .i64 mi, .int .i64 s, .int .i64 dz] 34)) 28 #[.int .i64 0, .int .i64 0] (by simp))
  have HB := Lib.hid (below_al (below_al (Below.refl w.heap.size w) (.cells #[.int .i64 y, .int .i64 mo, .int .i64 dd, .int .i64 h, .int .i64 mi, .int .i64 s, .int .i64 dz] 34)) (.cells #[.int .i64 0, .int .i64 0] 28))
  generalize (w.alloc (.cells #[.int .i64 y, .int .i64 mo, .int .i64 dd, .int .i64 h, .int .i64 mi, .int .i64 s, .int .i64 dz] 34)).alloc (.cells #[.int .i64 0, .int .i64 0] 28) = w0 at *
  have cz := HZ.out.cell
  go_upto_region 2 with (go_at_call 47; refine (HVAL.out _).mono ?_; rintro e w1 ⟨rfl, hb⟩)
  have KZ := Lib.hid ((HZ.out.bel hb).al (.cells #[.int .i64 k.1, .int .i64 k.2] 28))
  have KE := Lib.hid ((HE.out.bel hb).al (.cells #[.int .i64 k.1, .int .i64 k.2] 28))
  have KF := Lib.hid (Bk.new w1 28 #[.int .i64 k.1, .int .i64 k.2])
  have KB := Lib.hid (below_al (below_go HB.out hb) (.cells #[.int .i64 k.1, .int .i64 k.2] 28))
  have n1 : ¬ w1.heap.size = w.heap.size := Nat.ne_of_gt (HZ.out.bel hb).lt
  have n2 : ¬ w1.heap.size = w.heap.size + 1 := Nat.ne_of_gt (HE.out.bel hb).lt
  have n3 : ¬ w.heap.size = w1.heap.size := fun h => n1 h.symm
  have n4 : ¬ w.heap.size + 1 = w1.heap.size := fun h => n2 h.symm
  clear cz HZ HE HB hb HVAL w0
  generalize hg : w1.heap.size = g at *
  clear hg
  generalize w1.alloc (.cells #[.int .i64 k.1, .int .i64 k.2] 28) = w2 at *
  clear w1
  have cz := KZ.out.cell
  have ce := KE.out.cell
  have fe := KE.out.frozen
  have cf := KF.out.cell
  by_cases hk : k = (0, 0)
  · subst hk
    refine (tf (dz == 0)).elim (fun k1 => ?_) fun k1 => (tf (inR y 3 3998)).elim (fun k2 => ?_) fun k2 => ?_
    · have k1' : (dz != 0) = true := by simpa using k1
      have hr : v = (5, -9) := by rw [← HV.out]; unfold locf; rw [HK.out]; simp at k1; simp [k1]
      have HR := Lib.hid hr
      clear hr
      go_wp2_with (first | (go_at_call 38; refine (rAt_calls _ _ _).mono ?_; rintro e w5 ⟨rfl, hb5⟩; have JE := Lib.hid (KE.out.bel hb5); have JB := Lib.hid (below_go KB.out hb5); clear cz ce fe cf KE KB hb5; have KE := JE; have KB := JB; clear JE JB; have ce := KE.out.cell; have fe := KE.out.frozen) | (go_at_call 24; refine (rIn_is k2 _).mono ?_; rintro e w' ⟨rfl, rfl⟩))
      exact bodyPost_ret (v := .agg #[.int .i64 5, .int .i64 (-9)]) (res_c Try.results20 rfl (by (with_reducible repeat (first | exact KE.out | apply Bk.al | apply Bk.dr | apply Bk.put' | (apply Bk.far; case hp => (simp [*] <;> omega)))); all_goals rfl) hu28 rfl (by kernel_rfl)) rfl ⟨by rw [HR.out], by with_reducible repeat (first | exact KB.out | refine below_drew1 ?_ | refine below_al ?_ _ | refine below_set ?_ (by simp <;> omega) _)⟩
    · have k1' : (dz != 0) = false := by simpa using k1
      have hr : v = (3, -9) := by rw [← HV.out]; unfold locf; rw [HK.out]; simp at k1; simp [k1, k2]
      have HR := Lib.hid hr
      clear hr
      go_wp2_with (first | (go_at_call 38; refine (rAt_calls _ _ _).mono ?_; rintro e w5 ⟨rfl, hb5⟩; have JE := Lib.hid (KE.out.bel hb5); have JB := Lib.hid (below_go KB.out hb5); clear cz ce fe cf KE KB hb5; have KE := JE; have KB := JB; clear JE JB; have ce := KE.out.cell; have fe := KE.out.frozen) | (go_at_call 24; refine (rIn_is k2 _).mono ?_; rintro e w' ⟨rfl, rfl⟩))
      exact bodyPost_ret (v := .agg #[.int .i64 3, .int .i64 (-9)]) (res_c Try.results20 rfl (by (with_reducible repeat (first | exact KE.out | apply Bk.al | apply Bk.dr | apply Bk.put' | (apply Bk.far; case hp => (simp [*] <;> omega)))); all_goals rfl) hu28 rfl (by kernel_rfl)) rfl ⟨by rw [HR.out], by with_reducible repeat (first | exact KB.out | refine below_drew1 ?_ | refine below_al ?_ _ | refine below_set ?_ (by simp <;> omega) _)⟩
    · have k1' : (dz != 0) = false := by simpa using k1
      have hr : v = (0, 0) := by rw [← HV.out]; unfold locf; rw [HK.out]; simp at k1; simp [k1, k2]
      have HR := Lib.hid hr
      clear hr
      go_wp2_with (first | (go_at_call 38; refine (rAt_calls _ _ _).mono ?_; rintro e w5 ⟨rfl, hb5⟩; have JE := Lib.hid (KE.out.bel hb5); have JB := Lib.hid (below_go KB.out hb5); clear cz ce fe cf KE KB hb5; have KE := JE; have KB := JB; clear JE JB; have ce := KE.out.cell; have fe := KE.out.frozen) | (go_at_call 24; refine (rIn_is k2 _).mono ?_; rintro e w' ⟨rfl, rfl⟩))
      exact bodyPost_ret (v := .agg #[.int .i64 0, .int .i64 0]) (res_c Try.results20 rfl (by (with_reducible repeat (first | exact KE.out | apply Bk.al | apply Bk.dr | apply Bk.put' | (apply Bk.far; case hp => (simp [*] <;> omega)))); all_goals rfl) hu28 rfl (by kernel_rfl)) rfl ⟨by rw [HR.out], by with_reducible repeat (first | exact KB.out | refine below_drew1 ?_ | refine below_al ?_ _ | refine below_set ?_ (by simp <;> omega) _)⟩
  · have p1 := pair_no hk
    have p2 := pair_no' hk
    have p3 : (k.1 != 0) = true := by
      have := HK.out
      unfold dfault at this
      split at this
      · exact absurd this.symm hk
      · rw [← this]; rfl
    have hr : v = k := by rw [← HV.out]; unfold locf; rw [HK.out, if_pos hk]
    have HR := Lib.hid hr
    clear hr hk
    go_wp2_with fail
    exact bodyPost_ret (v := .agg #[.int .i64 k.1, .int .i64 k.2]) (res_c Try.results20 rfl (by (with_reducible repeat (first | exact KE.out | apply Bk.al | apply Bk.dr | apply Bk.put' | (apply Bk.far; case hp => (simp [*] <;> omega)))); all_goals rfl) hu28 rfl (by kernel_rfl)) rfl ⟨by rw [HR.out], by with_reducible repeat (first | exact KB.out | refine below_drew1 ?_ | refine below_al ?_ _ | refine below_set ?_ (by simp <;> omega) _)⟩
theorem zero_mo {z : Zone} (h : z.fault = (0, 0)) : z.b.zero = true ↔ z.b.mo = 0 := by
  constructor
  · intro hz
    unfold Turn.zero at hz
    simp only [Bool.and_eq_true, beq_iff_eq] at hz
    exact hz.1
  · intro hm
    cases hz : z.b.zero
    · rcases Zone.good_of h with h | ⟨h, _⟩
      · rw [hz] at h; cases h
      · have := Turn.ok_bd h
        omega
    · rfl
theorem c14 {w : World} {g k h : Nat} {t t' t'' : TypeId} {a0 a1 a2 a3 a4 a5 a6 a7 a8 a9 a10 d0 d1 d2 d3 d4 d5 d6 f0 f1 : Value} (B : Bk w g t #[a0, a1, a2, a3, a4, a5, a6, a7, a8, a9, a10]) (D : Bk w k t'' #[d0, d1, d2, d3, d4, d5, d6]) (F : Bk w h t' #[f0, f1]) :
    w.cell? ⟨g, 0, none⟩ = some a0 ∧ w.cell? ⟨g, 1, none⟩ = some a1 ∧ w.cell? ⟨g, 2, none⟩ = some a2 ∧ w.cell? ⟨g, 3, none⟩ = some a3 ∧ w.cell? ⟨g, 4, none⟩ = some a4 ∧ w.cell? ⟨g, 5, none⟩ = some a5 ∧ w.cell? ⟨g, 6, none⟩ = some a6 ∧ w.cell? ⟨g, 7, none⟩ = some a7 ∧ w.cell? ⟨g, 8, none⟩ = some a8 ∧ w.cell? ⟨g, 9, none⟩ = some a9 ∧ w.cell? ⟨g, 10, none⟩ = some a10 ∧ w.cell? ⟨k, 0, none⟩ = some d0 ∧ w.cell? ⟨h, 0, none⟩ = some f0 ∧ w.cell? ⟨h, 1, none⟩ = some f1 :=
  ⟨B.cell 0, B.cell 1, B.cell 2, B.cell 3, B.cell 4, B.cell 5, B.cell 6, B.cell 7, B.cell 8, B.cell 9, B.cell 10, D.cell 0, F.cell 0, F.cell 1⟩
set_option maxHeartbeats 4000000 in
set_option maxRecDepth 20000 in
theorem offsetof_calls (z : Zone) (t : Int) (w : World) (hk : z.fault = (0, 0)) (ht : -9223372036854775808 ≤ t) (ht' : t ≤ 9223372036854775807) :
    Calls Try.prog 18 #[zval z, .int .i64 t] w fun e w' => e = .returned (.tuple #[.int .i64 (offR z t).1, .agg #[.int .i64 (offR z t).2.1, .int .i64 (offR z t).2.2]]) ∧ Below w.heap.size w w' := by
  have hG := Zone.good_of hk
  have hM := zero_mo hk
  have s1 := (Zone.st_of hk).1
  have s2 := (Zone.st_of hk).2
  have HON := Lib.hid (fun W y => offnear_calls z t y W hG hM)
  have hv : offR z t = if chk t ≠ (0, 0) then (0, chk t) else if inR (civ t z.st).y 2 3999 = false then (0, (3, -8)) else (cur z t (civ t z.st).y, (0, 0)) := by unfold offR; rw [hk]; simp
  have HV := Lib.hid hv
  clear hG hM hk hv
  obtain ⟨nm, st, su, ⟨b0, b1, b2, b3⟩, ⟨e0, e1, e2, e3⟩⟩ := z
  dsimp only at s1 s2
  have hu25 := Try.underlying25
  have hu28 := Try.underlying28
  have hu34 := Try.underlying34
  generalize offR ⟨nm, st, su, ⟨b0, b1, b2, b3⟩, ⟨e0, e1, e2, e3⟩⟩ t = v at HV ⊢
  have hC := fun W h h' => dateof_calls t st W h h' s1 s2
  generalize hD : civ t st = D at hC
  have hV2 := HV.out
  dsimp only at hV2
  rw [hD] at hV2
  have HV := Lib.hid hV2
  clear hD hV2
  obtain ⟨y, mo, dd, h, mi, s, dz⟩ := D
  unfold dofV at hC
  dsimp only at hC
  have HC0 := Lib.hid hC
  clear hC
  go_enter Try.func18, Try.ntmps18
  go_upto_region 1 with fail
  have KZ := Lib.hid ((Bk.new w 25 #[.string nm, .int .i64 st, .int .i64 su, .int .i64 b0, .int .i64 b1, .int .i64 b2, .int .i64 b3, .int .i64 e0, .int .i64 e1, .int .i64 e2, .int .i64 e3]).al (.cells #[.int .i64 0, .int .i64 0] 28))
  have KE := Lib.hid (Bk.new' (n := w.heap.size + 1) (w.alloc (.cells #[.string nm, .int .i64 st, .int .i64 su, .int .i64 b0, .int .i64 b1, .int .i64 b2, .int .i64 b3, .int .i64 e0, .int .i64 e1, .int .i64 e2, .int .i64 e3] 25)) 28 #[.int .i64 0, .int .i64 0] (by simp))
  have KB := Lib.hid (below_al (below_al (Below.refl w.heap.size w) (.cells #[.string nm, .int .i64 st, .int .i64 su, .int .i64 b0, .int .i64 b1, .int .i64 b2, .int .i64 b3, .int .i64 e0, .int .i64 e1, .int .i64 e2, .int .i64 e3] 25)) (.cells #[.int .i64 0, .int .i64 0] 28))
  generalize (w.alloc (.cells #[.string nm, .int .i64 st, .int .i64 su, .int .i64 b0, .int .i64 b1, .int .i64 b2, .int .i64 b3, .int .i64 e0, .int .i64 e1, .int .i64 e2, .int .i64 e3] 25)).alloc (.cells #[.int .i64 0, .int .i64 0] 28) = w0 at *
  have cz := KZ.out.cell
  have ce := KE.out.cell
  have fe := KE.out.frozen
  refine (tf (inR t (-68719476736) 68719476736)).elim (fun h1 => ?_) fun h1 => ?_
  · have hr : v = (0, (3, -2)) := by rw [HV.out]; unfold chk; rw [h1]; simp
    have HR := Lib.hid hr
    clear hr
    go_wp2_with (first | (go_at_call 24; refine (rIn_is h1 _).mono ?_; rintro e w' ⟨rfl, rfl⟩) | (go_at_call 38; refine (rAt_calls _ _ _).mono ?_; rintro e w5 ⟨rfl, hb⟩; have JE := Lib.hid (KE.out.bel hb); have JB := Lib.hid (below_go KB.out hb); clear ce fe KE KB hb; have KE := JE; have KB := JB; clear JE JB; have ce := KE.out.cell; have fe := KE.out.frozen))
    exact bodyPost_ret (v := .tuple #[.int .i64 0, .agg #[.int .i64 3, .int .i64 (-2)]]) (res_tc Try.results18 rfl (by (with_reducible repeat (first | exact KE.out | apply Bk.al | apply Bk.dr | apply Bk.put' | (apply Bk.far; case hp => (simp [*] <;> omega)))); all_goals rfl) hu28 rfl (by kernel_rfl)) rfl ⟨by rw [HR.out], by with_reducible repeat (first | exact KB.out | refine below_drew1 ?_ | refine below_al ?_ _ | refine below_set ?_ (by simp <;> omega) _)⟩
  · have t1 := (inR_t h1).1
    have t2 := (inR_t h1).2
    have hch : chk t = (0, 0) := if_pos h1
    have HCH := Lib.hid hch
    clear hch
    refine (tf (inR y 1 4000)).elim (fun h2 => ?_) fun h2 => (tf (inR y 2 3999)).elim (fun h3 => ?_) fun h3 => ?_
    · have h3 : inR y 2 3999 = false := inR_no (by have := inR_f h2; omega)
      have hr : v = (0, (3, -8)) := by rw [HV.out, HCH.out, h3]; simp
      have HR := Lib.hid hr
      clear hr
      have hC := HC0.out
      simp only [h2, if_true, Bool.false_eq_true, if_false] at hC
      have HC := Lib.hid (fun W => hC W (by omega) (by omega))
      clear hC
      go_upto_region 4 with (first | (go_at_call 24; refine (rIn_is h1 _).mono ?_; rintro e w' ⟨rfl, rfl⟩) | (go_at_call 43; refine (HC.out _).mono ?_; rintro e w3 ⟨rfl, hb⟩))
      have JZ := Lib.hid ((KZ.out.bel hb).al (.cells #[.int .i64 0, .int .i64 0, .int .i64 0, .int .i64 0, .int .i64 0, .int .i64 0, .int .i64 0] 34))
      have JE := Lib.hid ((KE.out.bel hb).al (.cells #[.int .i64 0, .int .i64 0, .int .i64 0, .int .i64 0, .int .i64 0, .int .i64 0, .int .i64 0] 34))
      have KD := Lib.hid (Bk.new w3 34 #[.int .i64 0, .int .i64 0, .int .i64 0, .int .i64 0, .int .i64 0, .int .i64 0, .int .i64 0])
      have JB := Lib.hid (below_al (below_go KB.out hb) (.cells #[.int .i64 0, .int .i64 0, .int .i64 0, .int .i64 0, .int .i64 0, .int .i64 0, .int .i64 0] 34))
      have n1 : ¬ w3.heap.size = w.heap.size := Nat.ne_of_gt (KZ.out.bel hb).lt
      have n2 : ¬ w3.heap.size = w.heap.size + 1 := Nat.ne_of_gt (KE.out.bel hb).lt
      have n3 : ¬ w.heap.size = w3.heap.size := fun h => n1 h.symm
      have n4 : ¬ w.heap.size + 1 = w3.heap.size := fun h => n2 h.symm
      clear cz ce fe KZ KE KB hb
      have KZ := JZ
      have KE := JE
      have KB := JB
      clear JZ JE JB
      generalize w3.heap.size = g at *
      generalize w3.alloc (.cells #[.int .i64 0, .int .i64 0, .int .i64 0, .int .i64 0, .int .i64 0, .int .i64 0, .int .i64 0] 34) = w4 at *
      have cz := KZ.out.cell
      have ce := KE.out.cell
      have fe := KE.out.frozen
      have cd := KD.out.cell
      go_wp2_with (first | (go_at_call 24; refine (rIn_is h3 _).mono ?_; rintro e w' ⟨rfl, rfl⟩) | (go_at_call 38; refine (rAt_calls _ _ _).mono ?_; rintro e w5 ⟨rfl, hb⟩; have JE := Lib.hid (KE.out.bel hb); have JB := Lib.hid (below_go KB.out hb); clear ce fe KE KB hb; have KE := JE; have KB := JB; clear JE JB; have ce := KE.out.cell; have fe := KE.out.frozen))
      exact bodyPost_ret (v := .tuple #[.int .i64 0, .agg #[.int .i64 3, .int .i64 (-8)]]) (res_tc Try.results18 rfl (by (with_reducible repeat (first | exact KE.out | apply Bk.al | apply Bk.dr | apply Bk.put' | (apply Bk.far; case hp => (simp [*] <;> omega)))); all_goals rfl) hu28 rfl (by kernel_rfl)) rfl ⟨by rw [HR.out], by with_reducible repeat (first | exact KB.out | refine below_drew1 ?_ | refine below_al ?_ _ | refine below_set ?_ (by simp <;> omega) _)⟩
    · have hr : v = (0, (3, -8)) := by rw [HV.out, HCH.out, h3]; simp
      have HR := Lib.hid hr
      clear hr
      have hC := HC0.out
      simp only [h2, if_true, Bool.false_eq_true, if_false] at hC
      have HC := Lib.hid (fun W => hC W (by omega) (by omega))
      clear hC
      go_upto_region 4 with (first | (go_at_call 24; refine (rIn_is h1 _).mono ?_; rintro e w' ⟨rfl, rfl⟩) | (go_at_call 43; refine (HC.out _).mono ?_; rintro e w3 ⟨rfl, hb⟩))
      have JZ := Lib.hid ((KZ.out.bel hb).al (.cells #[.int .i64 y, .int .i64 mo, .int .i64 dd, .int .i64 h, .int .i64 mi, .int .i64 s, .int .i64 dz] 34))
      have JE := Lib.hid ((KE.out.bel hb).al (.cells #[.int .i64 y, .int .i64 mo, .int .i64 dd, .int .i64 h, .int .i64 mi, .int .i64 s, .int .i64 dz] 34))
      have KD := Lib.hid (Bk.new w3 34 #[.int .i64 y, .int .i64 mo, .int .i64 dd, .int .i64 h, .int .i64 mi, .int .i64 s, .int .i64 dz])
      have JB := Lib.hid (below_al (below_go KB.out hb) (.cells #[.int .i64 y, .int .i64 mo, .int .i64 dd, .int .i64 h, .int .i64 mi, .int .i64 s, .int .i64 dz] 34))
      have n1 : ¬ w3.heap.size = w.heap.size := Nat.ne_of_gt (KZ.out.bel hb).lt
      have n2 : ¬ w3.heap.size = w.heap.size + 1 := Nat.ne_of_gt (KE.out.bel hb).lt
      have n3 : ¬ w.heap.size = w3.heap.size := fun h => n1 h.symm
      have n4 : ¬ w.heap.size + 1 = w3.heap.size := fun h => n2 h.symm
      clear cz ce fe KZ KE KB hb
      have KZ := JZ
      have KE := JE
      have KB := JB
      clear JZ JE JB
      generalize w3.heap.size = g at *
      generalize w3.alloc (.cells #[.int .i64 y, .int .i64 mo, .int .i64 dd, .int .i64 h, .int .i64 mi, .int .i64 s, .int .i64 dz] 34) = w4 at *
      have cz := KZ.out.cell
      have ce := KE.out.cell
      have fe := KE.out.frozen
      have cd := KD.out.cell
      go_wp2_with (first | (go_at_call 24; refine (rIn_is h3 _).mono ?_; rintro e w' ⟨rfl, rfl⟩) | (go_at_call 38; refine (rAt_calls _ _ _).mono ?_; rintro e w5 ⟨rfl, hb⟩; have JE := Lib.hid (KE.out.bel hb); have JB := Lib.hid (below_go KB.out hb); clear ce fe KE KB hb; have KE := JE; have KB := JB; clear JE JB; have ce := KE.out.cell; have fe := KE.out.frozen))
      exact bodyPost_ret (v := .tuple #[.int .i64 0, .agg #[.int .i64 3, .int .i64 (-8)]]) (res_tc Try.results18 rfl (by (with_reducible repeat (first | exact KE.out | apply Bk.al | apply Bk.dr | apply Bk.put' | (apply Bk.far; case hp => (simp [*] <;> omega)))); all_goals rfl) hu28 rfl (by kernel_rfl)) rfl ⟨by rw [HR.out], by with_reducible repeat (first | exact KB.out | refine below_drew1 ?_ | refine below_al ?_ _ | refine below_set ?_ (by simp <;> omega) _)⟩
    · have hr : v = (cur ⟨nm, st, su, ⟨b0, b1, b2, b3⟩, ⟨e0, e1, e2, e3⟩⟩ t y, (0, 0)) := by rw [HV.out, HCH.out, h3]; simp
      have HR := Lib.hid hr
      clear hr
      have y1 := (inR_t h3).1
      have y2 := (inR_t h3).2
      have hC := HC0.out
      simp only [h2, if_true, Bool.false_eq_true, if_false] at hC
      have HC := Lib.hid (fun W => hC W (by omega) (by omega))
      clear hC
      go_upto_region 4 with (first | (go_at_call 24; refine (rIn_is h1 _).mono ?_; rintro e w' ⟨rfl, rfl⟩) | (go_at_call 43; refine (HC.out _).mono ?_; rintro e w3 ⟨rfl, hb⟩))
      have JZ := Lib.hid ((KZ.out.bel hb).al (.cells #[.int .i64 y, .int .i64 mo, .int .i64 dd, .int .i64 h, .int .i64 mi, .int .i64 s, .int .i64 dz] 34))
      have JE := Lib.hid ((KE.out.bel hb).al (.cells #[.int .i64 y, .int .i64 mo, .int .i64 dd, .int .i64 h, .int .i64 mi, .int .i64 s, .int .i64 dz] 34))
      have KD := Lib.hid (Bk.new w3 34 #[.int .i64 y, .int .i64 mo, .int .i64 dd, .int .i64 h, .int .i64 mi, .int .i64 s, .int .i64 dz])
      have JB := Lib.hid (below_al (below_go KB.out hb) (.cells #[.int .i64 y, .int .i64 mo, .int .i64 dd, .int .i64 h, .int .i64 mi, .int .i64 s, .int .i64 dz] 34))
      have n1 : ¬ w3.heap.size = w.heap.size := Nat.ne_of_gt (KZ.out.bel hb).lt
      have n2 : ¬ w3.heap.size = w.heap.size + 1 := Nat.ne_of_gt (KE.out.bel hb).lt
      have n3 : ¬ w.heap.size = w3.heap.size := fun h => n1 h.symm
      have n4 : ¬ w.heap.size + 1 = w3.heap.size := fun h => n2 h.symm
      clear cz ce fe KZ KE KB hb
      have KZ := JZ
      have KE := JE
      have KB := JB
      clear JZ JE JB
      generalize w3.heap.size = g at *
      generalize w3.alloc (.cells #[.int .i64 y, .int .i64 mo, .int .i64 dd, .int .i64 h, .int .i64 mi, .int .i64 s, .int .i64 dz] 34) = w4 at *
      have cz := KZ.out.cell
      have ce := KE.out.cell
      have fe := KE.out.frozen
      have cd := KD.out.cell
      go_wp2_with (first | (go_at_call 44; refine (HON.out _ y (by omega) (by omega)).mono ?_; rintro e w5 ⟨rfl, hb⟩; have JE := Lib.hid (KE.out.bel hb); have JB := Lib.hid (below_go KB.out hb); clear ce fe KE KB hb; have KE := JE; have KB := JB; clear JE JB; have ce := KE.out.cell; have fe := KE.out.frozen) | (go_at_call 24; refine (rIn_is h3 _).mono ?_; rintro e w' ⟨rfl, rfl⟩) | (go_at_call 38; refine (rAt_calls _ _ _).mono ?_; rintro e w5 ⟨rfl, hb⟩; have JE := Lib.hid (KE.out.bel hb); have JB := Lib.hid (below_go KB.out hb); clear ce fe KE KB hb; have KE := JE; have KB := JB; clear JE JB; have ce := KE.out.cell; have fe := KE.out.frozen))
      exact bodyPost_ret (v := .tuple #[.int .i64 (cur ⟨nm, st, su, ⟨b0, b1, b2, b3⟩, ⟨e0, e1, e2, e3⟩⟩ t y), .agg #[.int .i64 0, .int .i64 0]]) (res_tc Try.results18 rfl (by (with_reducible repeat (first | exact KE.out | apply Bk.al | apply Bk.dr | apply Bk.put' | (apply Bk.far; case hp => (simp [*] <;> omega)))); all_goals rfl) hu28 rfl (by kernel_rfl)) rfl ⟨by rw [HR.out], by with_reducible repeat (first | exact KB.out | refine below_drew1 ?_ | refine below_al ?_ _ | refine below_set ?_ (by simp <;> omega) _)⟩
end Go.Proofs.Ytnjplichhkmmhaa.CalW
