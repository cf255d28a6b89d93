import Derived.Test.YtnjplichhkmmhaaRecW13
/- Walk: recur.monthly. -/
namespace Go.Proofs.Ytnjplichhkmmhaa.CalW
open Go.RowKit Go.Shelf Go.Proofs.Ytnjplichhkmmhaa.Base Go.Proofs.Ytnjplichhkmmhaa.Cal
set_option linter.unusedVariables false
set_option linter.unusedSimpArgs false
theorem jbel {α : Type} {J : List α → World → Prop} {B : Nat} (hJ : AbidesFrom B J) {pre : List α} {W W' : World} (h : J pre W) (hb : Below W.heap.size W W') : J pre W' :=
  hJ pre W _ none h ⟨hb.os, hb.tape, hb.output, hb.size, fun k hk _ => hb.block k hk⟩ (fun r e => by cases e)
theorem nodepth {n : Nat} (h : Fence.wide.depth.isSome = true) : 1 ≤ n := by simp [Fence.wide] at h
abbrev dcells (d : Date) : Array Value := #[.int .i64 d.y, .int .i64 d.mo, .int .i64 d.d, .int .i64 d.h, .int .i64 d.mi, .int .i64 d.s, .int .i64 d.z]
set_option maxHeartbeats 2000000 in
set_option maxRecDepth 100000 in
theorem monthly_in (d : Date) (r : Rule) (sr : RS) (l go gr n : Nat) (J Jx : List (Day d) → World → Prop) (W : World) (B : Nat) (hJ : AbidesFrom B J) (hY : YieldsQ Try.prog l go gr 1501 dayV J Jx) (hrow : rowOf W go = none) (hlo : go < W.heap.size) (hlr : gr < W.heap.size) (hf : r.fr = 3 ∨ r.fr = 4) (hrf : r.fault = (0, 0)) (F : FirstOk d) (h0 : J [] W) :
    CallsIn Fence.wide n Try.prog 85 #[.int .i64 (firstD d), dval d, rval r sr, .func (.yield l) #[] #[]] W (IterEnd d r J Jx) := by
  have ro := Rule.ok_of hrf
  have he0 := ro.2.1
  have he1 := ro.2.2.1
  have bd := F.bd
  have sp := stepM_pos (r := r) he0
  have sq : stepM r ≤ 1200 := by unfold stepM; split <;> omega
  have hfst := moF_first F
  have d0 := F.d0
  have d1 : d.d ≤ 31 := by have := F.d1; have := mlen_bd d.y d.mo; omega
  have y0 := F.y0
  have y1 := F.y1
  have m0 := F.m0
  have m1 := F.m1
  have hge := fun (k : Int) (hk : d.mo - 1 ≤ k) => (by have := moF_mono (d := d) hk; omega : firstD d - d.d + 1 + 28 * (k - (d.mo - 1)) ≤ moF d k)
  have hfull := fun (s : Int) (pre : List (Day d)) (h : pre.map (·.1) = befL d r s) (hs : firstD d + 1500 < s) => h.trans (befL_full hs)
  have hpre := fun (s : Int) (pre : List (Day d)) (h : pre.map (·.1) = befL d r s) => (h ▸ befL_pre s : pre.map (·.1) <+: daysL d r)
  have hskip := fun (k : Int) (hk : (k - (d.mo - 1)) % stepM r = 0) (hl : mlen (d.y + k / 12) (k % 12 + 1) < d.d) => monthly_skip (d := d) (r := r) hf he0 hk hl
  have hhit := fun (k : Int) (hk : (k - (d.mo - 1)) % stepM r = 0) (hl : d.d ≤ mlen (d.y + k / 12) (k % 12 + 1)) => monthly_hit (d := d) (r := r) hf he0 hk hl d0
  have hnext := fun (k : Int) (hk : (k - (d.mo - 1)) % stepM r = 0) => monthly_next (d := d) (r := r) hk
  have hyes := fun (m : Int) (h1 : firstD d ≤ m) (h2 : m ≤ firstD d + 1500) (h : onD d r m = true) => befL_hit (d := d) (r := r) h1 h2 h
  have hmiss := fun (m : Int) (h : m < firstD d ∨ firstD d + 1500 < m) => befL_miss (d := d) (r := r) (n := m) (fun h1 h2 => by omega)
  have hplen := fun (s : Int) (pre : List (Day d)) (h : pre.map (·.1) = befL d r s) hs => pre_len h hs
  have hnx := fun (m : Int) (pre : List (Day d)) (x : Day d) h hx hn => pre_next (d := d) (r := r) (pre := pre) (n := m) (x := x) h hx hn
  have hst0 : befL d r (moF d (d.mo - 1)) = [] := befL_first (by omega)
  have hDm : ∀ (k : Int) W, d.mo - 1 ≤ k → k ≤ 1400 → Calls Try.prog 78 #[.int .i64 (d.y + k / 12), .int .i64 (k % 12 + 1), .int .i64 1] W fun e w' => e = .returned (.int .i64 (moF d k)) ∧ W = w' := fun k W h1 h2 => days_calls (d.y + k / 12) (k % 12 + 1) 1 W (by omega) (by omega) (by omega) (by omega) (by omega) (by omega)
  have hDd : ∀ (k : Int) W, d.mo - 1 ≤ k → k ≤ 1400 → Calls Try.prog 78 #[.int .i64 (d.y + k / 12), .int .i64 (k % 12 + 1), .int .i64 d.d] W fun e w' => e = .returned (.int .i64 (moF d k + d.d - 1)) ∧ W = w' := fun k W h1 h2 => by
    have := days_calls (d.y + k / 12) (k % 12 + 1) d.d W (by omega) (by omega) (by omega) (by omega) (by omega) (by omega)
    have e : dnum (d.y + k / 12) (k % 12 + 1) d.d = moF d k + d.d - 1 := by unfold moF dnum; omega
    rwa [e] at this
  have hLn : ∀ (k : Int) W, d.mo - 1 ≤ k → k ≤ 1400 → Calls Try.prog 70 #[.int .i64 (d.y + k / 12), .int .i64 (k % 12 + 1)] W fun e w' => e = .returned (.int .i64 (mlen (d.y + k / 12) (k % 12 + 1))) ∧ W = w' := fun k W h1 h2 => length_calls (d.y + k / 12) (k % 12 + 1) W (by omega) (by omega)
  have hstep : stepM r = if r.fr = 4 then 12 * r.ev else r.ev := rfl
  have HGE := Lib.hid hge
  have HFULL := Lib.hid hfull
  have HPRE := Lib.hid hpre
  have HSKIP := Lib.hid hskip
  have HHIT := Lib.hid hhit
  have HNEXT := Lib.hid hnext
  have HYES := Lib.hid hyes
  have HMISS := Lib.hid hmiss
  have HPL := Lib.hid hplen
  have HNX := Lib.hid hnx
  have HST0 := Lib.hid hst0
  have HDM := Lib.hid hDm
  have HDD := Lib.hid hDd
  have HLN := Lib.hid hLn
  have HSTEP := Lib.hid hstep
  have bd1 := bd.1
  have bd2 := bd.2
  clear hge hfull hpre hskip hhit hnext hyes hmiss hplen hnx hst0 hDm hDd hLn hstep ro F hrf bd hfst
  have hu49 := Try.underlying49
  have hu34 := Try.underlying34
  have BD := (Bk.new W 34 (dcells d)).al (.cells (rcells r sr) 49)
  have BK := Bk.new' (n := W.heap.size + 1) (W.alloc (.cells (dcells d) 34)) 49 (rcells r sr) (by simp)
  have hj1 := jal hJ (.cells (rcells r sr) 49) (jal hJ (.cells (dcells d) 34) h0)
  have hro : rowOf ((W.alloc (.cells (dcells d) 34)).alloc (.cells (rcells r sr) 49)) go = none := by
    rw [rowOf_al _ (by simp; omega), rowOf_al _ hlo]
    exact hrow
  have hlo1 : go < ((W.alloc (.cells (dcells d) 34)).alloc (.cells (rcells r sr) 49)).heap.size := by simp; omega
  have hbx : ∀ wr, Kq go gr ((W.alloc (.cells (dcells d) 34)).alloc (.cells (rcells r sr) 49)) wr → Bk wr W.heap.size 34 (dcells d) ∧ Bk wr (W.heap.size + 1) 49 (rcells r sr) := fun wr hq =>
    ⟨hq.bk hro BD (by omega) (by omega), hq.bk hro BK (by omega) (by omega)⟩
  have HBX := Lib.hid hbx
  have HJ1 := Lib.hid hj1
  have HLO1 := Lib.hid hlo1
  clear hbx hj1 h0 hro hrow hlo1
  refine callsIn_of_wp Try.func85 rfl trivial ?_ rfl
  simp only [Try.ntmps85, List.size_toArray, List.length_cons, List.length_nil, Nat.reduceAdd, Nat.reduceSub, Array.replicate_succ, Array.replicate_zero, List.push_toArray, List.append_toArray, List.nil_append, List.cons_append]
  have cd := BD.cell
  have cr := BK.cell
  clear BD BK
  rcases hf with hf | hf
  · have hs1 : stepM r = r.ev := by rw [HSTEP.out, if_neg (by omega)]
    have g4 : (r.fr == 4) = false := by simp; omega
    clear hf HSTEP
    gi_wp2
    clear cd cr
    generalize (W.alloc (.cells (dcells d) 34)).alloc (.cells (rcells r sr) 49) = w1 at *
    rw [hs1] at sp sq HSKIP HHIT HNEXT
    clear hs1 g4
    gi_loopw [9] (fun s9 wr => ∃ (k : Int) (pre : List (Day d)), s9 = .int .i64 k ∧ d.mo - 1 ≤ k ∧ k ≤ 1400 ∧ Hid ((k - (d.mo - 1)) % r.ev = 0) ∧ Hid (pre.map (·.1) = befL d r (moF d k)) ∧ Hid (J pre wr) ∧ Hid (Kq go gr w1 wr)) (fun s9 _ => (3000 - intOf s9).toNat)
    case atStart => exact ⟨d.mo - 1, [], rfl, by omega, by omega, Lib.hid (by simp), Lib.hid (by rw [HST0.out]; rfl), HJ1, Lib.hid (Kq.refl _ _ _)⟩
    case round =>
      clear HJ1
      obtain ⟨k, pre, rfl, k0, k1, hm, hp, HJW, HQ⟩ := hrel
      have cd := (HBX.out wr HQ.out).1.cell
      have cr := (HBX.out wr HQ.out).2.cell
      have HSW := Lib.hid (fun (s : Bel wr) => (HBX.out wr HQ.out).1.s s)
      have hge := HGE.out k k0
      have p1 : 0 ≤ k := by omega
      by_cases hle : moF d k ≤ firstD d + 1500
      · have k2 : k ≤ 100 := by omega
        have hl1 := mlen_bd (d.y + k / 12) (k % 12 + 1)
        have hl11 := hl1.1
        have hl12 := hl1.2
        have hdm := fun W => HDM.out k W k0 k1
        have hdd := fun W => HDD.out k W k0 k1
        have hln := fun W => HLN.out k W k0 k1
        have hsk := HSKIP.out k hm.out
        have hht := HHIT.out k hm.out
        have hnm := HNEXT.out k hm.out
        generalize hms : moF d k = ms at *
        generalize mlen (d.y + k / 12) (k % 12 + 1) = ln at *
        have HDMK := Lib.hid hdm
        have HDDK := Lib.hid hdd
        have HLNK := Lib.hid hln
        have HSK := Lib.hid hsk
        have HHT := Lib.hid hht
        have HNM := Lib.hid hnm
        have HMS := Lib.hid hms
        have ms0 : -740000 ≤ ms := by omega
        clear hdm hdd hln hsk hht hnm hl1 hms
        by_cases hsh : ln < d.d
        · have hp2 := hp.out.trans (HSK.out hsh).symm
          have HP2 := Lib.hid hp2
          have gg : decide (ln < d.d) = true := by simpa using hsh
          clear hp2
          gi_wp2_with (refine ⟨trivial, nodepth, ?_⟩; gi_at_call 78; refine (callsIn_wide.2 (HDMK.out _)).mono ?_; rintro e w' ⟨rfl, rfl⟩)
          refine wpIn_region_bel open_wide (by kernel_rfl) (by kernel_rfl) (by kernel_rfl) ?_
          have sd := HSW.out
          repeat (go_big_quiet_step ((go_at_call 70; exact bel_eq (HLNK.out _))))
          refine wpQuiet_nil ?_
          rintro _ ⟨s0, rfl⟩
          have HJ2 := Lib.hid (jbel hJ HJW.out s0.below)
          have HQ2 := Lib.hid (HQ.out.trans (Kq.of_below (Nat.lt_of_lt_of_le HLO1.out HQ.out.size) s0.below))
          generalize s0.w = w2 at *
          clear s0 sd HSW cd cr
          gi_wp2
          exact ⟨⟨k + r.ev, pre, rfl, by omega, by omega, Lib.hid HNM.out, HP2, HJ2, HQ2⟩, by simp [intOf]; omega⟩
        · have hsh' : d.d ≤ ln := by omega
          have hh := HHT.out hsh'
          have HH1 := Lib.hid hh.1
          have HH2 := Lib.hid hh.2.1
          have HH3 := Lib.hid hh.2.2
          have gg : decide (ln < d.d) = false := by simpa using hsh
          clear hh HHT HSK hsh
          gi_wp2_with (refine ⟨trivial, nodepth, ?_⟩; gi_at_call 78; refine (callsIn_wide.2 (HDMK.out _)).mono ?_; rintro e w' ⟨rfl, rfl⟩)
          refine wpIn_region_bel open_wide (by kernel_rfl) (by kernel_rfl) (by kernel_rfl) ?_
          have sd := HSW.out
          repeat (go_big_quiet_step ((go_at_call 70; exact bel_eq (HLNK.out _))))
          refine wpQuiet_nil ?_
          rintro _ ⟨s0, rfl⟩
          have HJ2 := Lib.hid (jbel hJ HJW.out s0.below)
          have HQ2 := Lib.hid (HQ.out.trans (Kq.of_below (Nat.lt_of_lt_of_le HLO1.out HQ.out.size) s0.below))
          generalize s0.w = w2 at *
          clear s0 sd HSW cd cr
          have cd := (HBX.out w2 HQ2.out).1.cell
          by_cases hin : ms + d.d - 1 ≤ firstD d + 1500
          · have hin0 : firstD d ≤ ms + d.d - 1 := by omega
            obtain ⟨fn, tmps, assign, body, hy, hR⟩ := hY (n - 1) pre ⟨ms + d.d - 1, hin0, hin⟩ w2 HJ2.out (HPL.out _ _ hp.out (by omega))
            dsimp only [dayV] at hy
            have hp3 := HNX.out (ms + d.d - 1) pre ⟨ms + d.d - 1, hin0, hin⟩ (hp.out.trans HH2.out.symm) rfl (HYES.out _ hin0 hin HH1.out)
            have HP3 := Lib.hid hp3
            have HR := Lib.hid hR
            clear hp3 hR
            gi_wp2_with (refine ⟨trivial, nodepth, ?_⟩; gi_at_call 78; refine (callsIn_wide.2 (HDDK.out _)).mono ?_; rintro e w' ⟨rfl, rfl⟩)
            refine ⟨nodepth, (roundIn_any HR.out).mono ?_⟩
            rintro e W' (⟨rfl, hJ', hK'⟩ | ⟨rfl, hX⟩)
            · have HJ' := Lib.hid hJ'
              have HK' := Lib.hid (HQ2.out.trans hK')
              clear hJ' hK'
              have cr := (HBX.out W' HK'.out).2.cell
              gi_wp2
              exact ⟨⟨k + r.ev, _, rfl, by omega, by omega, Lib.hid HNM.out, Lib.hid (HP3.out.trans HH3.out.symm), HJ', HK'⟩, by simp [intOf]; omega⟩
            · gi_wp2
              refine bodyPost_ret (results_none rfl _ _ _) rfl ?_
              exact ⟨⟨_, rfl⟩, .inr ⟨_, HPRE.out _ _ HP3.out, hX⟩⟩
          · have hp3 := (hp.out.trans HH2.out.symm).trans ((HMISS.out (ms + d.d - 1) (.inr (by omega))).symm.trans HH3.out.symm)
            have HP3 := Lib.hid hp3
            have hin' : firstD d + 1500 < ms + d.d - 1 := by omega
            clear hp3 hin
            gi_wp2_with (refine ⟨trivial, nodepth, ?_⟩; gi_at_call 78; refine (callsIn_wide.2 (HDDK.out _)).mono ?_; rintro e w' ⟨rfl, rfl⟩)
            refine ⟨fun _ h => (by cases h), ?_⟩
            gi_wp2
            exact ⟨⟨k + r.ev, pre, rfl, by omega, by omega, Lib.hid HNM.out, HP3, HJ2, HQ2⟩, by simp [intOf]; omega⟩
      · have hdm := fun W => HDM.out k W k0 k1
        generalize hms : moF d k = ms at *
        have hle' : firstD d + 1500 < ms := by omega
        have HDMK := Lib.hid hdm
        have HMS := Lib.hid hms
        clear hdm hle hms
        gi_wp2_with (refine ⟨trivial, nodepth, ?_⟩; gi_at_call 78; refine (callsIn_wide.2 (HDMK.out _)).mono ?_; rintro e w' ⟨rfl, rfl⟩)
        refine bodyPost_ret (results_none rfl _ _ _) rfl ?_
        exact ⟨⟨_, rfl⟩, .inl ⟨pre, HFULL.out _ _ hp.out hle', HJW.out⟩⟩
  · have hs1 : stepM r = r.ev * 12 := by rw [HSTEP.out, if_pos hf]; omega
    have g4 : (r.fr == 4) = true := by simp; omega
    clear hf HSTEP
    gi_wp2
    clear cd cr
    generalize (W.alloc (.cells (dcells d) 34)).alloc (.cells (rcells r sr) 49) = w1 at *
    rw [hs1] at sp sq HSKIP HHIT HNEXT
    clear hs1 g4
    gi_loopw [9] (fun s9 wr => ∃ (k : Int) (pre : List (Day d)), s9 = .int .i64 k ∧ d.mo - 1 ≤ k ∧ k ≤ 1400 ∧ Hid ((k - (d.mo - 1)) % (r.ev * 12) = 0) ∧ Hid (pre.map (·.1) = befL d r (moF d k)) ∧ Hid (J pre wr) ∧ Hid (Kq go gr w1 wr)) (fun s9 _ => (3000 - intOf s9).toNat)
    case atStart => exact ⟨d.mo - 1, [], rfl, by omega, by omega, Lib.hid (by simp), Lib.hid (by rw [HST0.out]; rfl), HJ1, Lib.hid (Kq.refl _ _ _)⟩
    case round =>
      clear HJ1
      obtain ⟨k, pre, rfl, k0, k1, hm, hp, HJW, HQ⟩ := hrel
      have cd := (HBX.out wr HQ.out).1.cell
      have cr := (HBX.out wr HQ.out).2.cell
      have HSW := Lib.hid (fun (s : Bel wr) => (HBX.out wr HQ.out).1.s s)
      have hge := HGE.out k k0
      have p1 : 0 ≤ k := by omega
      by_cases hle : moF d k ≤ firstD d + 1500
      · have k2 : k ≤ 100 := by omega
        have hl1 := mlen_bd (d.y + k / 12) (k % 12 + 1)
        have hl11 := hl1.1
        have hl12 := hl1.2
        have hdm := fun W => HDM.out k W k0 k1
        have hdd := fun W => HDD.out k W k0 k1
        have hln := fun W => HLN.out k W k0 k1
        have hsk := HSKIP.out k hm.out
        have hht := HHIT.out k hm.out
        have hnm := HNEXT.out k hm.out
        generalize hms : moF d k = ms at *
        generalize mlen (d.y + k / 12) (k % 12 + 1) = ln at *
        have HDMK := Lib.hid hdm
        have HDDK := Lib.hid hdd
        have HLNK := Lib.hid hln
        have HSK := Lib.hid hsk
        have HHT := Lib.hid hht
        have HNM := Lib.hid hnm
        have HMS := Lib.hid hms
        have ms0 : -740000 ≤ ms := by omega
        clear hdm hdd hln hsk hht hnm hl1 hms
        by_cases hsh : ln < d.d
        · have hp2 := hp.out.trans (HSK.out hsh).symm
          have HP2 := Lib.hid hp2
          have gg : decide (ln < d.d) = true := by simpa using hsh
          clear hp2
          gi_wp2_with (refine ⟨trivial, nodepth, ?_⟩; gi_at_call 78; refine (callsIn_wide.2 (HDMK.out _)).mono ?_; rintro e w' ⟨rfl, rfl⟩)
          refine wpIn_region_bel open_wide (by kernel_rfl) (by kernel_rfl) (by kernel_rfl) ?_
          have sd := HSW.out
          repeat (go_big_quiet_step ((go_at_call 70; exact bel_eq (HLNK.out _))))
          refine wpQuiet_nil ?_
          rintro _ ⟨s0, rfl⟩
          have HJ2 := Lib.hid (jbel hJ HJW.out s0.below)
          have HQ2 := Lib.hid (HQ.out.trans (Kq.of_below (Nat.lt_of_lt_of_le HLO1.out HQ.out.size) s0.below))
          generalize s0.w = w2 at *
          clear s0 sd HSW cd cr
          gi_wp2
          exact ⟨⟨k + (r.ev * 12), pre, rfl, by omega, by omega, Lib.hid HNM.out, HP2, HJ2, HQ2⟩, by simp [intOf]; omega⟩
        · have hsh' : d.d ≤ ln := by omega
          have hh := HHT.out hsh'
          have HH1 := Lib.hid hh.1
          have HH2 := Lib.hid hh.2.1
          have HH3 := Lib.hid hh.2.2
          have gg : decide (ln < d.d) = false := by simpa using hsh
          clear hh HHT HSK hsh
          gi_wp2_with (refine ⟨trivial, nodepth, ?_⟩; gi_at_call 78; refine (callsIn_wide.2 (HDMK.out _)).mono ?_; rintro e w' ⟨rfl, rfl⟩)
          refine wpIn_region_bel open_wide (by kernel_rfl) (by kernel_rfl) (by kernel_rfl) ?_
          have sd := HSW.out
          repeat (go_big_quiet_step ((go_at_call 70; exact bel_eq (HLNK.out _))))
          refine wpQuiet_nil ?_
          rintro _ ⟨s0, rfl⟩
          have HJ2 := Lib.hid (jbel hJ HJW.out s0.below)
          have HQ2 := Lib.hid (HQ.out.trans (Kq.of_below (Nat.lt_of_lt_of_le HLO1.out HQ.out.size) s0.below))
          generalize s0.w = w2 at *
          clear s0 sd HSW cd cr
          have cd := (HBX.out w2 HQ2.out).1.cell
          by_cases hin : ms + d.d - 1 ≤ firstD d + 1500
          · have hin0 : firstD d ≤ ms + d.d - 1 := by omega
            obtain ⟨fn, tmps, assign, body, hy, hR⟩ := hY (n - 1) pre ⟨ms + d.d - 1, hin0, hin⟩ w2 HJ2.out (HPL.out _ _ hp.out (by omega))
            dsimp only [dayV] at hy
            have hp3 := HNX.out (ms + d.d - 1) pre ⟨ms + d.d - 1, hin0, hin⟩ (hp.out.trans HH2.out.symm) rfl (HYES.out _ hin0 hin HH1.out)
            have HP3 := Lib.hid hp3
            have HR := Lib.hid hR
            clear hp3 hR
            gi_wp2_with (refine ⟨trivial, nodepth, ?_⟩; gi_at_call 78; refine (callsIn_wide.2 (HDDK.out _)).mono ?_; rintro e w' ⟨rfl, rfl⟩)
            refine ⟨nodepth, (roundIn_any HR.out).mono ?_⟩
            rintro e W' (⟨rfl, hJ', hK'⟩ | ⟨rfl, hX⟩)
            · have HJ' := Lib.hid hJ'
              have HK' := Lib.hid (HQ2.out.trans hK')
              clear hJ' hK'
              have cr := (HBX.out W' HK'.out).2.cell
              gi_wp2
              exact ⟨⟨k + (r.ev * 12), _, rfl, by omega, by omega, Lib.hid HNM.out, Lib.hid (HP3.out.trans HH3.out.symm), HJ', HK'⟩, by simp [intOf]; omega⟩
            · gi_wp2
              refine bodyPost_ret (results_none rfl _ _ _) rfl ?_
              exact ⟨⟨_, rfl⟩, .inr ⟨_, HPRE.out _ _ HP3.out, hX⟩⟩
          · have hp3 := (hp.out.trans HH2.out.symm).trans ((HMISS.out (ms + d.d - 1) (.inr (by omega))).symm.trans HH3.out.symm)
            have HP3 := Lib.hid hp3
            have hin' : firstD d + 1500 < ms + d.d - 1 := by omega
            clear hp3 hin
            gi_wp2_with (refine ⟨trivial, nodepth, ?_⟩; gi_at_call 78; refine (callsIn_wide.2 (HDDK.out _)).mono ?_; rintro e w' ⟨rfl, rfl⟩)
            refine ⟨fun _ h => (by cases h), ?_⟩
            gi_wp2
            exact ⟨⟨k + (r.ev * 12), pre, rfl, by omega, by omega, Lib.hid HNM.out, HP3, HJ2, HQ2⟩, by simp [intOf]; omega⟩
      · have hdm := fun W => HDM.out k W k0 k1
        generalize hms : moF d k = ms at *
        have hle' : firstD d + 1500 < ms := by omega
        have HDMK := Lib.hid hdm
        have HMS := Lib.hid hms
        clear hdm hle hms
        gi_wp2_with (refine ⟨trivial, nodepth, ?_⟩; gi_at_call 78; refine (callsIn_wide.2 (HDMK.out _)).mono ?_; rintro e w' ⟨rfl, rfl⟩)
        refine bodyPost_ret (results_none rfl _ _ _) rfl ?_
        exact ⟨⟨_, rfl⟩, .inl ⟨pre, HFULL.out _ _ hp.out hle', HJW.out⟩⟩
end Go.Proofs.Ytnjplichhkmmhaa.CalW
