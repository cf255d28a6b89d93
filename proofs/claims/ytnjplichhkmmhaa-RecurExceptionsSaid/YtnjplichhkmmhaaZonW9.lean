import Derived.Test.YtnjplichhkmmhaaZonW7
import Derived.Test.YtnjplichhkmmhaaIntsW
import Derived.Test.YtnjplichhkmmhaaMe
/- Walk: zones.All. -/
namespace Go.Proofs.Ytnjplichhkmmhaa.CalW
open Go.RowKit Go.Proofs.Ytnjplichhkmmhaa.Base Go.Proofs.Ytnjplichhkmmhaa.Cal
set_option linter.unusedVariables false
set_option linter.unusedSimpArgs false

theorem info3 : (Try.prog.info? 3).map (fun i => (i.zero, i.size, i.bytes)) = some (some (.int .i64 0), 1, 8) := by kernel_rfl
/-- what stands in memory in the loop of All. -/
structure AllSt (w wr : World) (B gz gd ga : Nat) (zc dc ac : Array Value) (l : List Int) (v : Value) : Prop where
  z : Bk wr gz 25 zc
  d : Bk wr gd 34 dc
  a : Bk wr ga 3 ac
  own : wr.ownsRow B 3 1 v l.length (l.map iv)
  b : Below w.heap.size w wr
  hB : B ≤ wr.heap.size
  lz : gz < B
  ld : gd < B
  la : ga < B
  lw : w.heap.size ≤ B
theorem AllSt.bel {w wr w' : World} {B gz gd ga : Nat} {zc dc ac : Array Value} {l : List Int} {v : Value} (h : AllSt w wr B gz gd ga zc dc ac l v) (hb : Below wr.heap.size wr w') : AllSt w w' B gz gd ga zc dc ac l v :=
  ⟨h.z.bel hb, h.d.bel hb, h.a.bel hb, own_bel h.own hb, below_go h.b hb, Nat.le_trans h.hB hb.size, h.lz, h.ld, h.la, h.lw⟩
theorem AllSt.app {w wr w' : World} {B gz gd ga : Nat} {zc dc ac : Array Value} {l l' : List Int} {v v' : Value} (h : AllSt w wr B gz gd ga zc dc ac l v) (hg : wr.grownBy w' v.ownBlock) (hown : w'.ownsRow B 3 1 v' l'.length (l'.map iv)) : AllSt w w' B gz gd ga zc dc ac l' v' :=
  ⟨h.z.grown hg h.own h.lz, h.d.grown hg h.own h.ld, h.a.grown hg h.own h.la, hown, below_grown h.b hg h.own h.lw, Nat.le_trans h.hB hg.size, h.lz, h.ld, h.la, h.lw⟩
theorem AllSt.setz {w wr : World} {B gz gd ga : Nat} {zc ac : Array Value} {a0 a1 a2 a3 a4 a5 a6 u : Value} {l : List Int} {v : Value} (h : AllSt w wr B gz gd ga zc #[a0, a1, a2, a3, a4, a5, a6] ac l v) (hz : gz ≠ gd) (ha : ga ≠ gd) (hw : w.heap.size ≤ gd) : AllSt w (wr.setCell ⟨gd, 6, none⟩ u) B gz gd ga zc #[a0, a1, a2, a3, a4, a5, u] ac l v :=
  ⟨h.z.far hz u, by simpa using h.d.put 6 u, h.a.far ha u, by
    refine h.own.kept (row := some gd) ⟨rfl, rfl, rfl, by simp [World.setCell], fun k hk hne => Below.heap_setCell wr ⟨gd, 6, none⟩ u k (fun e => hne (by rw [e]))⟩ (.inr (fun e => ?_))
    have := (h.own.lt gd e).1
    have := h.ld
    omega, below_set h.b hw u, by simpa [World.setCell] using h.hB, h.lz, h.ld, h.la, h.lw⟩

set_option maxHeartbeats 4000000 in
set_option maxRecDepth 20000 in
theorem all_calls (z : Zone) (d : Date) (w : World) (hz : z.good) (h1 : -900 ≤ z.st) (h2 : z.st ≤ 900) (h3 : -900 ≤ z.su) (h4 : z.su ≤ 900) (hf : Fits ⟨d.y, d.mo, d.d, d.h, d.mi, d.s, 0⟩) (hy : 2 ≤ d.y) (hy' : d.y ≤ 4400) :
    Calls Try.prog 46 #[zval z, dval d] w (GivesI w (allL z d)) := by
  obtain ⟨nm, st, su, ⟨b0, b1, b2, b3⟩, ⟨e0, e1, e2, e3⟩⟩ := z
  obtain ⟨y, mo, dd, h, mi, s, dz⟩ := d
  dsimp only at h1 h2 h3 h4 hy hy'
  have hu25 := Try.underlying25
  have hu34 := Try.underlying34
  have hlen := allTo_len ⟨nm, st, su, ⟨b0, b1, b2, b3⟩, ⟨e0, e1, e2, e3⟩⟩ ⟨y, mo, dd, h, mi, s, dz⟩
  have hfit : ∀ o, -900 ≤ o → o ≤ 900 → Fits ⟨y, mo, dd, h, mi, s, o⟩ := fun o ho ho' => by
    obtain ⟨f1, f2, f3, f4, f5, f6, f7, f8, f9, f10, f11, f12, _, _⟩ := hf
    exact ⟨f1, f2, f3, f4, f5, f6, f7, f8, f9, f10, f11, f12, by dsimp only; omega, by dsimp only; omega⟩
  have HFIT := Lib.hid hfit
  have HLEN := Lib.hid hlen
  have HGD := Lib.hid hz
  clear hlen hfit hf hz
  obtain ⟨i0, hi0, hz0, hz1, hz2⟩ := info_parts info3
  have HI0 := Lib.hid hi0
  have HZ0 := Lib.hid hz0
  have HZ1 := Lib.hid hz1
  have HZ2 := Lib.hid hz2
  clear hi0 hz0 hz1 hz2
  go_enter Try.func46, Try.ntmps46
  go_upto_region 1 with fail
  have BZ := (Bk.new w 25 #[.string nm, .int .i64 st, .int .i64 su, .int .i64 b0, .int .i64 b1, .int .i64 b2, .int .i64 b3, .int .i64 e0, .int .i64 e1, .int .i64 e2, .int .i64 e3]).al (.cells #[.int .i64 y, .int .i64 mo, .int .i64 dd, .int .i64 h, .int .i64 mi, .int .i64 s, .int .i64 dz] 34)
  have BD := Bk.new' (n := w.heap.size + 1) (w.alloc (.cells #[.string nm, .int .i64 st, .int .i64 su, .int .i64 b0, .int .i64 b1, .int .i64 b2, .int .i64 b3, .int .i64 e0, .int .i64 e1, .int .i64 e2, .int .i64 e3] 25)) 34 #[.int .i64 y, .int .i64 mo, .int .i64 dd, .int .i64 h, .int .i64 mi, .int .i64 s, .int .i64 dz] (by simp)
  have BB := below_al (below_al (Below.refl w.heap.size w) (.cells #[.string nm, .int .i64 st, .int .i64 su, .int .i64 b0, .int .i64 b1, .int .i64 b2, .int .i64 b3, .int .i64 e0, .int .i64 e1, .int .i64 e2, .int .i64 e3] 25)) (.cells #[.int .i64 y, .int .i64 mo, .int .i64 dd, .int .i64 h, .int .i64 mi, .int .i64 s, .int .i64 dz] 34)
  have hs0 : ((w.alloc (.cells #[.string nm, .int .i64 st, .int .i64 su, .int .i64 b0, .int .i64 b1, .int .i64 b2, .int .i64 b3, .int .i64 e0, .int .i64 e1, .int .i64 e2, .int .i64 e3] 25)).alloc (.cells #[.int .i64 y, .int .i64 mo, .int .i64 dd, .int .i64 h, .int .i64 mi, .int .i64 s, .int .i64 dz] 34)).heap.size = w.heap.size + 2 := by simp
  generalize (w.alloc (.cells #[.string nm, .int .i64 st, .int .i64 su, .int .i64 b0, .int .i64 b1, .int .i64 b2, .int .i64 b3, .int .i64 e0, .int .i64 e1, .int .i64 e2, .int .i64 e3] 25)).alloc (.cells #[.int .i64 y, .int .i64 mo, .int .i64 dd, .int .i64 h, .int .i64 mi, .int .i64 s, .int .i64 dz] 34) = w0 at *
  have HS0 := Lib.hid hs0
  have BA := Bk.new w0 3 #[.int .i64 su, .int .i64 st]
  have S0 := Lib.hid (AllSt.mk (BZ.al (.cells #[.int .i64 su, .int .i64 st] 3)) (BD.al (.cells #[.int .i64 su, .int .i64 st] 3)) BA (World.ownsRow_nil _ (w0.heap.size + 1) _ _) (below_al BB (.cells #[.int .i64 su, .int .i64 st] 3)) (by simp) (Nat.lt_succ_of_lt BZ.lt) (Nat.lt_succ_of_lt BD.lt) (Nat.lt_succ_self _) (by rw [hs0]; omega) : AllSt w (w0.alloc (.cells #[.int .i64 su, .int .i64 st] 3)) (w0.heap.size + 1) w.heap.size (w.heap.size + 1) w0.heap.size #[.string nm, .int .i64 st, .int .i64 su, .int .i64 b0, .int .i64 b1, .int .i64 b2, .int .i64 b3, .int .i64 e0, .int .i64 e1, .int .i64 e2, .int .i64 e3] #[.int .i64 y, .int .i64 mo, .int .i64 dd, .int .i64 h, .int .i64 mi, .int .i64 s, .int .i64 dz] #[.int .i64 su, .int .i64 st] [] (.slice none 0 0))
  have cz := BZ.cell
  have HA0 := Lib.hid BA
  clear BD BB BA hs0
  have HBZ := Lib.hid BZ
  clear BZ
  go_upto_region 3 with fail
  have hga : w0.heap.size ≠ w.heap.size + 1 := by have := HS0.out; omega
  clear cz HA0 HBZ HS0
  generalize w0.alloc (.cells #[.int .i64 su, .int .i64 st] 3) = w1 at *
  generalize w0.heap.size = ga at *
  go_loopw [5, 15] (fun s5 s15 wr => ∃ (n : Nat) (j : Int) (A : Option Addr) (c : Nat) (zz : Int), Hid (j = n) ∧ 0 ≤ j ∧ j ≤ 2 ∧ s15 = .int .i64 j ∧ s5 = .slice A (allTo ⟨nm, st, su, ⟨b0, b1, b2, b3⟩, ⟨e0, e1, e2, e3⟩⟩ ⟨y, mo, dd, h, mi, s, dz⟩ n).length c ∧ Hid (AllSt w wr (ga + 1) w.heap.size (w.heap.size + 1) ga #[.string nm, .int .i64 st, .int .i64 su, .int .i64 b0, .int .i64 b1, .int .i64 b2, .int .i64 b3, .int .i64 e0, .int .i64 e1, .int .i64 e2, .int .i64 e3] #[.int .i64 y, .int .i64 mo, .int .i64 dd, .int .i64 h, .int .i64 mi, .int .i64 s, .int .i64 zz] #[.int .i64 su, .int .i64 st] (allTo ⟨nm, st, su, ⟨b0, b1, b2, b3⟩, ⟨e0, e1, e2, e3⟩⟩ ⟨y, mo, dd, h, mi, s, dz⟩ n) (.slice A (allTo ⟨nm, st, su, ⟨b0, b1, b2, b3⟩, ⟨e0, e1, e2, e3⟩⟩ ⟨y, mo, dd, h, mi, s, dz⟩ n).length c))) (fun _ s15 _ => (2 - intOf s15).toNat)
  case atStart => exact ⟨0, 0, none, 0, dz, Lib.hid rfl, by omega, by omega, rfl, rfl, S0⟩
  case round =>
    obtain ⟨n, j, A, c, zz, hj, j0, j2, rfl, rfl, S⟩ := hrel
    clear S0
    generalize hl : allTo ⟨nm, st, su, ⟨b0, b1, b2, b3⟩, ⟨e0, e1, e2, e3⟩⟩ ⟨y, mo, dd, h, mi, s, dz⟩ n = l at *
    have HL := Lib.hid hl
    clear hl
    have cz := S.out.z.cell
    have cd := S.out.d.cell
    have fd := S.out.d.frozen
    have ca := S.out.a.cell
    by_cases hlt : j < 2
    · have hll : l.length ≤ 2 := by
        have := HLEN.out n
        rw [HL.out] at this
        have := hj.out
        omega
      have hc : j = 0 ∨ j = 1 := by omega
      rcases hc with rfl | rfl
      · have hn : n = 0 := by have := hj.out; omega
        subst hn
        generalize hsec : secZ ⟨y, mo, dd, h, mi, s, dz⟩ su = t
        have HT := Lib.hid hsec
        have hsc := fun W => seconds_calls ⟨y, mo, dd, h, mi, s, su⟩ W (HFIT.out su h3 h4)
        have hse : secs ⟨y, mo, dd, h, mi, s, su⟩ = t := hsec
        rw [hse] at hsc
        have HSC := Lib.hid hsc
        clear hse hsc hsec
        generalize hcu : cur ⟨nm, st, su, ⟨b0, b1, b2, b3⟩, ⟨e0, e1, e2, e3⟩⟩ t y = cu
        have hcc := fun W => current_calls ⟨nm, st, su, ⟨b0, b1, b2, b3⟩, ⟨e0, e1, e2, e3⟩⟩ t y W HGD.out hy hy'
        rw [hcu] at hcc
        have HCC := Lib.hid hcc
        have hst : allTo ⟨nm, st, su, ⟨b0, b1, b2, b3⟩, ⟨e0, e1, e2, e3⟩⟩ ⟨y, mo, dd, h, mi, s, dz⟩ 1 = if cu = su ∧ l.contains t = false then l ++ [t] else l := by
          show (if cur ⟨nm, st, su, ⟨b0, b1, b2, b3⟩, ⟨e0, e1, e2, e3⟩⟩ (secZ ⟨y, mo, dd, h, mi, s, dz⟩ su) y = su ∧ (allTo ⟨nm, st, su, ⟨b0, b1, b2, b3⟩, ⟨e0, e1, e2, e3⟩⟩ ⟨y, mo, dd, h, mi, s, dz⟩ 0).contains (secZ ⟨y, mo, dd, h, mi, s, dz⟩ su) = false then allTo ⟨nm, st, su, ⟨b0, b1, b2, b3⟩, ⟨e0, e1, e2, e3⟩⟩ ⟨y, mo, dd, h, mi, s, dz⟩ 0 ++ [secZ ⟨y, mo, dd, h, mi, s, dz⟩ su] else allTo ⟨nm, st, su, ⟨b0, b1, b2, b3⟩, ⟨e0, e1, e2, e3⟩⟩ ⟨y, mo, dd, h, mi, s, dz⟩ 0) = _
          rw [HL.out, HT.out, hcu]
        have HST := Lib.hid hst
        clear hcc hcu hst HT
        have hj1 := hj
        clear hj
        refine (tf (cu == su)).elim (fun k1 => ?_) fun k1 => (tf (l.contains t)).elim (fun k2 => ?_) fun k2 => ?_
        · have he : allTo ⟨nm, st, su, ⟨b0, b1, b2, b3⟩, ⟨e0, e1, e2, e3⟩⟩ ⟨y, mo, dd, h, mi, s, dz⟩ 1 = l := by rw [HST.out, if_neg (by simp at k1; simp [k1])]
          have HE := Lib.hid he
          clear he
          go_wp2_with (first | (go_at_call 69; refine (HSC.out _).mono ?_; rintro e w2 ⟨rfl, hb⟩; have T := Lib.hid ((S.out.setz (by omega) hga (by omega)).bel hb); clear S cz cd fd ca hb; have S := T; clear T; have cz := S.out.z.cell; have cd := S.out.d.cell; have fd := S.out.d.frozen; have ca := S.out.a.cell) | (go_at_call 42; refine (HCC.out _).mono ?_; rintro e w2 ⟨rfl, hb⟩; have T := Lib.hid (S.out.bel hb); clear S cz cd fd ca hb; have S := T; clear T; have cz := S.out.z.cell; have cd := S.out.d.cell; have fd := S.out.d.frozen; have ca := S.out.a.cell))
          go_roundw
          case rel => exact ⟨1, 1, A, c, su, Lib.hid rfl, by omega, by omega, rfl, by rw [HE.out]; try simp, by rw [HE.out]; exact S⟩
          case measure => simp [intOf]
        · have he : allTo ⟨nm, st, su, ⟨b0, b1, b2, b3⟩, ⟨e0, e1, e2, e3⟩⟩ ⟨y, mo, dd, h, mi, s, dz⟩ 1 = l ++ [t] := by rw [HST.out, if_pos ⟨eq_of_beq k1, k2⟩]
          have HE := Lib.hid he
          clear he
          go_wp2_with (first | (go_at_call 69; refine (HSC.out _).mono ?_; rintro e w2 ⟨rfl, hb⟩; have T := Lib.hid ((S.out.setz (by omega) hga (by omega)).bel hb); clear S cz cd fd ca hb; have S := T; clear T; have cz := S.out.z.cell; have cd := S.out.d.cell; have fd := S.out.d.frozen; have ca := S.out.a.cell) | (go_at_call 42; refine (HCC.out _).mono ?_; rintro e w2 ⟨rfl, hb⟩; have T := Lib.hid (S.out.bel hb); clear S cz cd fd ca hb; have S := T; clear T; have cz := S.out.z.cell; have cd := S.out.d.cell; have fd := S.out.d.frozen; have ca := S.out.a.cell) | (go_at_call 59; refine (contains_is k2 (Rd.own S.out.own) (by unfold maxLen; omega)).mono ?_; rintro e w' ⟨rfl, rfl⟩) | (at_builtin; refine wpList_app1 rfl _ _ 35 rfl (ga + 1) 3 i0 (.int .i64 0) 8 Try.underlying35 HI0.out HZ0.out HZ1.out HZ2.out rfl iv A c l t _ rfl S.out.own rfl rfl (by unfold maxLen; omega) (by omega) S.out.hB ?_; intro A2 c2 w3 hown hg; have T := Lib.hid (S.out.app hg hown); clear S cz cd fd ca hg hown; have S := T; clear T))
          go_roundw
          case rel => exact ⟨1, 1, A2, c2, su, Lib.hid rfl, by omega, by omega, rfl, by rw [HE.out]; try simp, by rw [HE.out]; exact S⟩
          case measure => simp [intOf]
        · have he : allTo ⟨nm, st, su, ⟨b0, b1, b2, b3⟩, ⟨e0, e1, e2, e3⟩⟩ ⟨y, mo, dd, h, mi, s, dz⟩ 1 = l := by rw [HST.out, if_neg (by rw [k2]; simp)]
          have HE := Lib.hid he
          clear he
          go_wp2_with (first | (go_at_call 69; refine (HSC.out _).mono ?_; rintro e w2 ⟨rfl, hb⟩; have T := Lib.hid ((S.out.setz (by omega) hga (by omega)).bel hb); clear S cz cd fd ca hb; have S := T; clear T; have cz := S.out.z.cell; have cd := S.out.d.cell; have fd := S.out.d.frozen; have ca := S.out.a.cell) | (go_at_call 42; refine (HCC.out _).mono ?_; rintro e w2 ⟨rfl, hb⟩; have T := Lib.hid (S.out.bel hb); clear S cz cd fd ca hb; have S := T; clear T; have cz := S.out.z.cell; have cd := S.out.d.cell; have fd := S.out.d.frozen; have ca := S.out.a.cell) | (go_at_call 59; refine (contains_is k2 (Rd.own S.out.own) (by unfold maxLen; omega)).mono ?_; rintro e w' ⟨rfl, rfl⟩))
          go_roundw
          case rel => exact ⟨1, 1, A, c, su, Lib.hid rfl, by omega, by omega, rfl, by rw [HE.out]; try simp, by rw [HE.out]; exact S⟩
          case measure => simp [intOf]
      · have hn : n = 1 := by have := hj.out; omega
        subst hn
        generalize hsec : secZ ⟨y, mo, dd, h, mi, s, dz⟩ st = t
        have HT := Lib.hid hsec
        have hsc := fun W => seconds_calls ⟨y, mo, dd, h, mi, s, st⟩ W (HFIT.out st h1 h2)
        have hse : secs ⟨y, mo, dd, h, mi, s, st⟩ = t := hsec
        rw [hse] at hsc
        have HSC := Lib.hid hsc
        clear hse hsc hsec
        generalize hcu : cur ⟨nm, st, su, ⟨b0, b1, b2, b3⟩, ⟨e0, e1, e2, e3⟩⟩ t y = cu
        have hcc := fun W => current_calls ⟨nm, st, su, ⟨b0, b1, b2, b3⟩, ⟨e0, e1, e2, e3⟩⟩ t y W HGD.out hy hy'
        rw [hcu] at hcc
        have HCC := Lib.hid hcc
        have hst : allTo ⟨nm, st, su, ⟨b0, b1, b2, b3⟩, ⟨e0, e1, e2, e3⟩⟩ ⟨y, mo, dd, h, mi, s, dz⟩ 2 = if cu = st ∧ l.contains t = false then l ++ [t] else l := by
          show (if cur ⟨nm, st, su, ⟨b0, b1, b2, b3⟩, ⟨e0, e1, e2, e3⟩⟩ (secZ ⟨y, mo, dd, h, mi, s, dz⟩ st) y = st ∧ (allTo ⟨nm, st, su, ⟨b0, b1, b2, b3⟩, ⟨e0, e1, e2, e3⟩⟩ ⟨y, mo, dd, h, mi, s, dz⟩ 1).contains (secZ ⟨y, mo, dd, h, mi, s, dz⟩ st) = false then allTo ⟨nm, st, su, ⟨b0, b1, b2, b3⟩, ⟨e0, e1, e2, e3⟩⟩ ⟨y, mo, dd, h, mi, s, dz⟩ 1 ++ [secZ ⟨y, mo, dd, h, mi, s, dz⟩ st] else allTo ⟨nm, st, su, ⟨b0, b1, b2, b3⟩, ⟨e0, e1, e2, e3⟩⟩ ⟨y, mo, dd, h, mi, s, dz⟩ 1) = _
          rw [HL.out, HT.out, hcu]
        have HST := Lib.hid hst
        clear hcc hcu hst HT
        have hj1 := hj
        clear hj
        refine (tf (cu == st)).elim (fun k1 => ?_) fun k1 => (tf (l.contains t)).elim (fun k2 => ?_) fun k2 => ?_
        · have he : allTo ⟨nm, st, su, ⟨b0, b1, b2, b3⟩, ⟨e0, e1, e2, e3⟩⟩ ⟨y, mo, dd, h, mi, s, dz⟩ 2 = l := by rw [HST.out, if_neg (by simp at k1; simp [k1])]
          have HE := Lib.hid he
          clear he
          go_wp2_with (first | (go_at_call 69; refine (HSC.out _).mono ?_; rintro e w2 ⟨rfl, hb⟩; have T := Lib.hid ((S.out.setz (by omega) hga (by omega)).bel hb); clear S cz cd fd ca hb; have S := T; clear T; have cz := S.out.z.cell; have cd := S.out.d.cell; have fd := S.out.d.frozen; have ca := S.out.a.cell) | (go_at_call 42; refine (HCC.out _).mono ?_; rintro e w2 ⟨rfl, hb⟩; have T := Lib.hid (S.out.bel hb); clear S cz cd fd ca hb; have S := T; clear T; have cz := S.out.z.cell; have cd := S.out.d.cell; have fd := S.out.d.frozen; have ca := S.out.a.cell))
          go_roundw
          case rel => exact ⟨2, 2, A, c, st, Lib.hid rfl, by omega, by omega, rfl, by rw [HE.out]; try simp, by rw [HE.out]; exact S⟩
          case measure => simp [intOf]
        · have he : allTo ⟨nm, st, su, ⟨b0, b1, b2, b3⟩, ⟨e0, e1, e2, e3⟩⟩ ⟨y, mo, dd, h, mi, s, dz⟩ 2 = l ++ [t] := by rw [HST.out, if_pos ⟨eq_of_beq k1, k2⟩]
          have HE := Lib.hid he
          clear he
          go_wp2_with (first | (go_at_call 69; refine (HSC.out _).mono ?_; rintro e w2 ⟨rfl, hb⟩; have T := Lib.hid ((S.out.setz (by omega) hga (by omega)).bel hb); clear S cz cd fd ca hb; have S := T; clear T; have cz := S.out.z.cell; have cd := S.out.d.cell; have fd := S.out.d.frozen; have ca := S.out.a.cell) | (go_at_call 42; refine (HCC.out _).mono ?_; rintro e w2 ⟨rfl, hb⟩; have T := Lib.hid (S.out.bel hb); clear S cz cd fd ca hb; have S := T; clear T; have cz := S.out.z.cell; have cd := S.out.d.cell; have fd := S.out.d.frozen; have ca := S.out.a.cell) | (go_at_call 59; refine (contains_is k2 (Rd.own S.out.own) (by unfold maxLen; omega)).mono ?_; rintro e w' ⟨rfl, rfl⟩) | (at_builtin; refine wpList_app1 rfl _ _ 35 rfl (ga + 1) 3 i0 (.int .i64 0) 8 Try.underlying35 HI0.out HZ0.out HZ1.out HZ2.out rfl iv A c l t _ rfl S.out.own rfl rfl (by unfold maxLen; omega) (by omega) S.out.hB ?_; intro A2 c2 w3 hown hg; have T := Lib.hid (S.out.app hg hown); clear S cz cd fd ca hg hown; have S := T; clear T))
          go_roundw
          case rel => exact ⟨2, 2, A2, c2, st, Lib.hid rfl, by omega, by omega, rfl, by rw [HE.out]; try simp, by rw [HE.out]; exact S⟩
          case measure => simp [intOf]
        · have he : allTo ⟨nm, st, su, ⟨b0, b1, b2, b3⟩, ⟨e0, e1, e2, e3⟩⟩ ⟨y, mo, dd, h, mi, s, dz⟩ 2 = l := by rw [HST.out, if_neg (by rw [k2]; simp)]
          have HE := Lib.hid he
          clear he
          go_wp2_with (first | (go_at_call 69; refine (HSC.out _).mono ?_; rintro e w2 ⟨rfl, hb⟩; have T := Lib.hid ((S.out.setz (by omega) hga (by omega)).bel hb); clear S cz cd fd ca hb; have S := T; clear T; have cz := S.out.z.cell; have cd := S.out.d.cell; have fd := S.out.d.frozen; have ca := S.out.a.cell) | (go_at_call 42; refine (HCC.out _).mono ?_; rintro e w2 ⟨rfl, hb⟩; have T := Lib.hid (S.out.bel hb); clear S cz cd fd ca hb; have S := T; clear T; have cz := S.out.z.cell; have cd := S.out.d.cell; have fd := S.out.d.frozen; have ca := S.out.a.cell) | (go_at_call 59; refine (contains_is k2 (Rd.own S.out.own) (by unfold maxLen; omega)).mono ?_; rintro e w' ⟨rfl, rfl⟩))
          go_roundw
          case rel => exact ⟨2, 2, A, c, st, Lib.hid rfl, by omega, by omega, rfl, by rw [HE.out]; try simp, by rw [HE.out]; exact S⟩
          case measure => simp [intOf]
    · have hn : n = 2 := by have := hj.out; omega
      subst hn
      go_wp2_with fail
      go_ret
      have hal : allL ⟨nm, st, su, ⟨b0, b1, b2, b3⟩, ⟨e0, e1, e2, e3⟩⟩ ⟨y, mo, dd, h, mi, s, dz⟩ = l := HL.out
      rw [hal]
      exact ⟨A, c, rfl, Rd.own S.out.own, Fresh.own S.out.own S.out.lw, S.out.b⟩
end Go.Proofs.Ytnjplichhkmmhaa.CalW
