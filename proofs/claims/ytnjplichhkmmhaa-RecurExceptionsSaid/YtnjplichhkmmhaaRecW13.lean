import Derived.Test.YtnjplichhkmmhaaRecW12
import Derived.Test.YtnjplichhkmmhaaMn
/- Walk: recur.weekly. -/
namespace Go.Proofs.Ytnjplichhkmmhaa.CalW
open Go.RowKit Go.Shelf Go.Proofs.Ytnjplichhkmmhaa.Base Go.Proofs.Ytnjplichhkmmhaa.Cal
set_option linter.unusedVariables false
set_option linter.unusedSimpArgs false
/-- a day of the span. -/
abbrev Day (d : Date) : Type := { n : Int // firstD d ≤ n ∧ n ≤ firstD d + 1500 }
abbrev dayV {d : Date} (x : Day d) : Array Value := #[.int .i64 x.1]
/-- the iterator has come to its end, or a round has said 'no more'. -/
def IterEnd (d : Date) (r : Rule) (J Jx : List (Day d) → World → Prop) (e : Ending) (W' : World) : Prop :=
  (∃ v, e = .returned v) ∧ ((∃ xs : List (Day d), xs.map (·.1) = daysL d r ∧ J xs W') ∨ (∃ pre : List (Day d), pre.map (·.1) <+: daysL d r ∧ Jx pre W'))
/-- what an iterator asks of memory. -/
structure ItAt (W : World) (go gr : Nat) (r : Rule) (sr : RS) : Prop where
  a : RuleAt W r sr
  row : rowOf W go = none
  lo : go < W.heap.size
  lr : gr < W.heap.size
  ne : r.wd ≠ [] → ∀ ad, sr.a5 = some ad → ad.block ≠ go ∧ ad.block ≠ gr
theorem jal {α : Type} {J : List α → World → Prop} {B : Nat} (hJ : AbidesFrom B J) {pre : List α} {W : World} (o : Obj) (h : J pre W) : J pre (W.alloc o) := hJ pre W _ none h (World.grownBy_alloc W o none) (fun r e => by cases e)
theorem rowOf_al {W : World} {go : Nat} (o : Obj) (h : go < W.heap.size) : rowOf (W.alloc o) go = rowOf W go := rowOf_same (Below.heap_alloc W o go h)
/-- the list of weekdays, whichever it is, reads in every later world. -/
structure WkAt (W : World) (go gr : Nat) (wl : List Int) (ad : Addr) (gb : Nat) (rc : Array Value) : Prop where
  cells : ∀ wr, Kq go gr W wr → ∀ (k : Nat) (hk : k < wl.length), wr.cell? (ad.add k) = some (.int .i64 wl[k])
  box : ∀ wr, Kq go gr W wr → ∀ i, wr.cell? ⟨gb, i, none⟩ = rc[i]?
theorem pre_next {d : Date} {r : Rule} {pre : List (Day d)} {n : Int} {x : Day d} (h : pre.map (·.1) = befL d r n) (hx : x.1 = n) (hn : befL d r (n + 1) = befL d r n ++ [n]) : (pre ++ [x]).map (·.1) = befL d r (n + 1) := by
  rw [List.map_append, h, hn]
  simp [hx]
theorem pre_len {d : Date} {r : Rule} {pre : List (Day d)} {n : Int} (h : pre.map (·.1) = befL d r n) (hn : n ≤ firstD d + 1500) : pre.length < 1501 := by
  have := befL_lt (d := d) (r := r) hn
  rw [← h] at this
  simpa using this
set_option maxHeartbeats 2000000 in
set_option maxRecDepth 100000 in
theorem weekly_in (d : Date) (r : Rule) (sr : RS) (l go gr n : Nat) (J Jx : List (Day d) → World → Prop) (W : World) (B : Nat) (hJ : AbidesFrom B J) (hY : YieldsQ Try.prog l go gr 1501 dayV J Jx) (hW : ItAt W go gr r sr) (hf : r.fr = 2) (hrf : r.fault = (0, 0)) (F : FirstOk d) (h0 : J [] W) :
    CallsIn Fence.wide n Try.prog 83 #[.int .i64 (firstD d), .int .i64 (wdD d), rval r sr, .func (.yield l) #[] #[]] W (IterEnd d r J Jx) := by
  have ro := Rule.ok_of hrf
  have he0 := ro.2.1
  have he1 := ro.2.2.1
  have bd := F.bd
  have wb := wdD_bd d
  have hw : WOk (wlD d r) := WOk.of hrf
  have hfull := fun (s : Int) (pre : List (Day d)) (h : pre.map (·.1) = befL d r s) (hs : firstD d + 1500 < s) => h.trans (befL_full hs)
  have hpre := fun (s : Int) (pre : List (Day d)) (h : pre.map (·.1) = befL d r s) => (h ▸ befL_pre s : pre.map (·.1) <+: daysL d r)
  have hend := fun (q : Int) (hq : q % r.ev = 0) => weekly_end (d := d) hf hw hq he0
  have hgap := fun (q : Int) (k : Nat) (hk : k < (wlD d r).length) => weekly_gap (d := d) (r := r) hf hw (q := q) hk
  have hhit := fun (q : Int) (hq : q % r.ev = 0) (k : Nat) (hk : k < (wlD d r).length) (h1 : firstD d ≤ firstD d - wdD d + 7 * q + (wlD d r)[k]) (h2 : firstD d - wdD d + 7 * q + (wlD d r)[k] ≤ firstD d + 1500) => befL_hit h1 h2 (weekly_hit (d := d) (r := r) hf hw hq hk)
  have hmiss := fun (m : Int) (h : m < firstD d ∨ firstD d + 1500 < m) => befL_miss (d := d) (r := r) (n := m) (fun h1 h2 => by omega)
  have hlo := fun (k : Nat) (hk : k < (wlD d r).length) => loW_succ hk
  have hlo0 : loW (wlD d r) 0 = 0 := rfl
  have hmod := fun (q : Int) (hq : q % r.ev = 0) => (by rw [mod_add hq, Int.emod_self] : (q + r.ev) % r.ev = 0)
  have hfst : ∀ s, s ≤ firstD d → befL d r s = [] := fun s hs => befL_first hs
  have hplen := fun (s : Int) (pre : List (Day d)) (h : pre.map (·.1) = befL d r s) hs => pre_len h hs
  have hbd := hw.bd
  have hwl : wlD d r = if r.wd = [] then [wdD d] else r.wd := rfl
  have hnx := fun (m : Int) (pre : List (Day d)) (x : Day d) h hx hn => pre_next (d := d) (r := r) (pre := pre) (n := m) (x := x) h hx hn
  have HEND := Lib.hid hend
  have HGAP := Lib.hid hgap
  have HHIT := Lib.hid hhit
  have HMISS := Lib.hid hmiss
  have HLO := Lib.hid hlo
  have HLO0 := Lib.hid hlo0
  have HMOD := Lib.hid hmod
  have HFST := Lib.hid hfst
  have HPL := Lib.hid hplen
  have HBD := Lib.hid hbd
  have HWL := Lib.hid hwl
  have HNX := Lib.hid hnx
  have HFULL := Lib.hid hfull
  have HPRE := Lib.hid hpre
  have HHW := Lib.hid hw
  have bd1 := bd.1
  have bd2 := bd.2
  have wb1 := wb.1
  have wb2 := wb.2
  clear hend hgap hhit hmiss hlo hlo0 hmod hfst hplen hbd hwl hnx hfull hpre hw ro F hrf bd wb hf
  have hu49 := Try.underlying49
  have hu35 := Try.underlying35
  have BK0 := Bk.new W 49 (rcells r sr)
  by_cases hz : r.wd = []
  · have hwl := HWL.out
    rw [if_pos hz] at hwl
    have hl0 : r.wd.length = 0 := by rw [hz]; rfl
    have HL0 := Lib.hid hl0
    have hj1 := jal hJ (.cells #[.int .i64 (wdD d)] 3) (jal hJ (.cells (rcells r sr) 49) h0)
    have hq0 : Kq go gr (W.alloc (.cells (rcells r sr) 49)) ((W.alloc (.cells (rcells r sr) 49)).alloc (.cells #[.int .i64 (wdD d)] 3)) := Kq.of_below (by simp; have := hW.lo; omega) (below_al (Below.refl _ _) _)
    have hro : rowOf ((W.alloc (.cells (rcells r sr) 49)).alloc (.cells #[.int .i64 (wdD d)] 3)) go = none := by
      rw [rowOf_al _ (by simp; have := hW.lo; omega), rowOf_al _ hW.lo]
      exact hW.row
    have BI := Bk.new' (n := W.heap.size + 1) (W.alloc (.cells (rcells r sr) 49)) 3 #[.int .i64 (wdD d)] (by simp)
    have hwk : WkAt ((W.alloc (.cells (rcells r sr) 49)).alloc (.cells #[.int .i64 (wdD d)] 3)) go gr [wdD d] ⟨W.heap.size + 1, 0, none⟩ W.heap.size (rcells r sr) := by
      refine ⟨fun wr hq k hk => ?_, fun wr hq i => ?_⟩
      · have hk0 : k = 0 := by simp at hk; omega
        subst hk0
        rw [show Addr.add ⟨W.heap.size + 1, 0, none⟩ 0 = ⟨W.heap.size + 1, 0, none⟩ by simp [Addr.add]]
        exact (hq.bk hro BI (by have := hW.lo; omega) (by have := hW.lr; omega)).cell 0
      · exact (hq.bk hro (BK0.al _) (by have := hW.lo; omega) (by have := hW.lr; omega)).cell i
    have HWK := Lib.hid hwk
    generalize wlD d r = wl at *
    subst hwl
    clear hq0 hro BI hwk BK0 hW hz
    have HJ1 := Lib.hid hj1
    clear hj1 h0
    refine callsIn_of_wp Try.func83 rfl trivial ?_ rfl
    simp only [Try.ntmps83, List.size_toArray, List.length_cons, List.length_nil, Nat.reduceAdd, Nat.reduceSub, Array.replicate_succ, Array.replicate_zero, List.push_toArray, List.append_toArray, List.nil_append, List.cons_append]
    have cr := (Bk.new W 49 (rcells r sr)).cell
    have hlz : ((r.wd.length : Nat) : Int) == 0 := by rw [hl0]; rfl
    clear hl0
    gi_wp2
    clear cr hlz
    generalize (W.alloc (.cells (rcells r sr) 49)).alloc (.cells #[.int .i64 (wdD d)] 3) = w1 at *
    gi_loopw [9] (fun s9 wr => ∃ (q s : Int) (pre : List (Day d)), s9 = .int .i64 s ∧ Hid (s = firstD d - wdD d + 7 * q) ∧ firstD d - 6 ≤ s ∧ s ≤ firstD d + 2200 ∧ Hid (q % r.ev = 0) ∧ Hid (pre.map (·.1) = befL d r s) ∧ Hid (J pre wr) ∧ Hid (Kq go gr w1 wr)) (fun s9 _ => (firstD d + 3000 - intOf s9).toNat)
    case atStart => exact ⟨0, firstD d - wdD d, [], rfl, Lib.hid (by omega), by omega, by omega, Lib.hid (by simp), Lib.hid (by rw [HFST.out _ (by omega)]; rfl), HJ1, Lib.hid (Kq.refl _ _ _)⟩
    case round =>
      clear HJ1
      obtain ⟨q, s, pre, rfl, hs, hs0, hs1, hq, hp, HJW, HQ⟩ := hrel
      by_cases hle : s ≤ firstD d + 1500
      · gi_wp2
        obtain ⟨wo, rfl⟩ : ∃ wo : World, wo = wr := ⟨_, rfl⟩
        gi_loopw [34] (fun s34 wr => ∃ (k : Nat) (pre : List (Day d)), k ≤ 1 ∧ s34 = .int .i64 k ∧ Hid (pre.map (·.1) = befL d r (s + loW [wdD d] k)) ∧ Hid (J pre wr) ∧ Hid (Kq go gr w1 wr)) (fun s34 _ => (1 - (intOf s34).toNat))
        case atStart => exact ⟨0, pre, by omega, rfl, Lib.hid (by rw [HLO0.out, Int.add_zero]; exact hp.out), HJW, HQ⟩
        case round =>
          clear HJW HQ hp
          obtain ⟨k, pre2, hk, rfl, hp, HJW, HQ⟩ := hrel
          by_cases hlt : k < 1
          · have i1 : (0 : Int) ≤ (k : Int) := by omega
            have i2 : (k : Int) < ((1 : Nat) : Int) := by omega
            have hlk : k < ([wdD d]).length := by simpa using hlt
            have ca := HWK.out.cells wr HQ.out k hlk
            have hxb := HBD.out k hlk
            have hgp := HGAP.out q k hlk
            have hht := HHIT.out q hq.out k hlk
            have hlo1 := HLO.out k hlk
            rw [← hs.out] at hgp hht
            generalize ([wdD d])[k] = x at *
            have ca2 : wr.cell? ⟨W.heap.size + 1, k, none⟩ = some (.int .i64 x) := by
              have e : Addr.add ⟨W.heap.size + 1, 0, none⟩ k = ⟨W.heap.size + 1, k, none⟩ := by unfold Addr.add; split <;> simp_all
              rw [← e]; exact ca
            have hx1 := hxb.1
            have hx2 := hxb.2
            have hp2 := hp.out.trans hgp.symm
            have HP2 := Lib.hid hp2
            have HHT := Lib.hid hht
            have HLO1 := Lib.hid hlo1
            clear hxb hgp hht hlo1 hp2 hp
            by_cases hin : firstD d ≤ s + x ∧ s + x ≤ firstD d + 1500
            · obtain ⟨fn, tmps, assign, body, hy, hR⟩ := hY (n - 1) pre2 ⟨s + x, hin⟩ wr HJW.out (HPL.out _ _ HP2.out hin.2)
              dsimp only [dayV] at hy
              have hp3 := HNX.out (s + x) pre2 ⟨s + x, hin⟩ HP2.out rfl (HHT.out hin.1 hin.2)
              have HP3 := Lib.hid hp3
              have hin1 := hin.1
              have hin2 := hin.2
              have HR := Lib.hid hR
              clear hp3 hR
              gi_wp2
              refine ⟨(fun h => by simp [Fence.wide] at h), (roundIn_any HR.out).mono ?_⟩
              rintro e W' (⟨rfl, hJ', hK'⟩ | ⟨rfl, hX⟩)
              · have HJ' := Lib.hid hJ'
                have HK' := Lib.hid (HQ.out.trans hK')
                clear hJ' hK'
                gi_wp2
                exact ⟨⟨k + 1, pre2 ++ [⟨s + x, hin⟩], by omega, by go_num, Lib.hid (by rw [HLO1.out, show s + (x + 1) = s + x + 1 by omega]; exact HP3.out), HJ', HK'⟩, by simp [intOf]; omega⟩
              · gi_wp2
                refine bodyPost_ret (results_none rfl _ _ _) rfl ?_
                exact ⟨⟨_, rfl⟩, .inr ⟨_, HPRE.out _ _ HP3.out, hX⟩⟩
            · have hin' : s + x < firstD d ∨ firstD d + 1500 < s + x := by omega
              have hp3 := HP2.out.trans (HMISS.out _ hin').symm
              have HP3 := Lib.hid hp3
              clear hp3 hin
              rcases hin' with hin | hin
              all_goals
                gi_wp2
                refine ⟨fun _ h => (by cases h), ?_⟩
                gi_wp2
                exact ⟨⟨k + 1, pre2, by omega, by go_num, Lib.hid (by rw [HLO1.out, show s + (x + 1) = s + x + 1 by omega]; exact HP3.out), HJW, HQ⟩, by simp [intOf]; omega⟩
          · have hkl : k = ([wdD d]).length := by simp at hk hlt ⊢; omega
            have hen := HEND.out q hq.out
            rw [← hs.out, ← hkl] at hen
            have hp3 := hp.out.trans hen.symm
            have HP3 := Lib.hid hp3
            have cr := HWK.out.box wr HQ.out
            clear hen hp3 hkl
            gi_wp2
            exact ⟨⟨q + r.ev, s + 7 * r.ev, pre2, rfl, Lib.hid (by have := hs.out; omega), by omega, by omega, Lib.hid (HMOD.out _ hq.out), Lib.hid (by rw [HP3.out, show firstD d - wdD d + 7 * (q + r.ev) = s + 7 * r.ev by have := hs.out; omega]), HJW, HQ⟩, by simp [intOf]; omega⟩
      · gi_wp2
        go_end0
        exact ⟨⟨_, rfl⟩, .inl ⟨pre, HFULL.out _ _ hp.out (by omega), HJW.out⟩⟩
  · have hwl := HWL.out
    rw [if_neg hz] at hwl
    have hl0 : 0 < r.wd.length := List.length_pos_iff.2 hz
    have hl1 : (((r.wd.length : Nat) : Int) == 0) = false := by simp; exact hz
    have hl2 : (r.wd.length : Int) ≤ 17592186044032 := by have := hW.a.l5; omega
    have hj1 := jal hJ (.cells (rcells r sr) 49) h0
    have hro : rowOf (W.alloc (.cells (rcells r sr) 49)) go = none := by
      rw [rowOf_al _ hW.lo]
      exact hW.row
    obtain ⟨a5, c5, a6, c6, a7, c7⟩ := sr
    obtain ⟨ad, e5, hre⟩ := rd_all hW.a.h5 hl0
    dsimp only at e5
    subst e5
    have hne := hW.ne hz ad rfl
    have hwk : WkAt (W.alloc (.cells (rcells r ⟨some ad, c5, a6, c6, a7, c7⟩) 49)) go gr r.wd ad W.heap.size (rcells r ⟨some ad, c5, a6, c6, a7, c7⟩) := by
      refine ⟨fun wr hq k hk => ?_, fun wr hq i => ?_⟩
      · exact hq.cell hro (hre _ (below_al (Below.refl _ _) _) k hk) (by rw [blk_add]; exact hne.1) (by rw [blk_add]; exact hne.2)
      · exact (hq.bk hro BK0 (by have := hW.lo; omega) (by have := hW.lr; omega)).cell i
    have HWK := Lib.hid hwk
    have HWLE := Lib.hid hwl
    have HJ1 := Lib.hid hj1
    rw [HWLE.out] at HEND HGAP HHIT HLO HLO0 HBD HHW
    clear hro hwk BK0 hW hz hwl hj1 h0 hre hne HWL
    refine callsIn_of_wp Try.func83 rfl trivial ?_ rfl
    simp only [Try.ntmps83, List.size_toArray, List.length_cons, List.length_nil, Nat.reduceAdd, Nat.reduceSub, Array.replicate_succ, Array.replicate_zero, List.push_toArray, List.append_toArray, List.nil_append, List.cons_append]
    have cr := (Bk.new W 49 (rcells r ⟨some ad, c5, a6, c6, a7, c7⟩)).cell
    gi_wp2
    clear cr
    generalize (W.alloc (.cells (rcells r ⟨some ad, c5, a6, c6, a7, c7⟩) 49)) = w1 at *
    gi_loopw [9] (fun s9 wr => ∃ (q s : Int) (pre : List (Day d)), s9 = .int .i64 s ∧ Hid (s = firstD d - wdD d + 7 * q) ∧ firstD d - 6 ≤ s ∧ s ≤ firstD d + 2200 ∧ Hid (q % r.ev = 0) ∧ Hid (pre.map (·.1) = befL d r s) ∧ Hid (J pre wr) ∧ Hid (Kq go gr w1 wr)) (fun s9 _ => (firstD d + 3000 - intOf s9).toNat)
    case atStart => exact ⟨0, firstD d - wdD d, [], rfl, Lib.hid (by omega), by omega, by omega, Lib.hid (by simp), Lib.hid (by rw [HFST.out _ (by omega)]; rfl), HJ1, Lib.hid (Kq.refl _ _ _)⟩
    case round =>
      clear HJ1
      obtain ⟨q, s, pre, rfl, hs, hs0, hs1, hq, hp, HJW, HQ⟩ := hrel
      by_cases hle : s ≤ firstD d + 1500
      · gi_wp2
        obtain ⟨wo, rfl⟩ : ∃ wo : World, wo = wr := ⟨_, rfl⟩
        gi_loopw [34] (fun s34 wr => ∃ (k : Nat) (pre : List (Day d)), k ≤ r.wd.length ∧ s34 = .int .i64 k ∧ Hid (pre.map (·.1) = befL d r (s + loW r.wd k)) ∧ Hid (J pre wr) ∧ Hid (Kq go gr w1 wr)) (fun s34 _ => (r.wd.length - (intOf s34).toNat))
        case atStart => exact ⟨0, pre, by omega, rfl, Lib.hid (by rw [HLO0.out, Int.add_zero]; exact hp.out), HJW, HQ⟩
        case round =>
          clear HJW HQ hp
          obtain ⟨k, pre2, hk, rfl, hp, HJW, HQ⟩ := hrel
          by_cases hlt : k < r.wd.length
          · have i1 : (0 : Int) ≤ (k : Int) := by omega
            have i2 : (k : Int) < ((r.wd.length : Nat) : Int) := by omega
            have hlk : k < (r.wd).length := by simpa using hlt
            have ca := HWK.out.cells wr HQ.out k hlk
            have hxb := HBD.out k hlk
            have hgp := HGAP.out q k hlk
            have hht := HHIT.out q hq.out k hlk
            have hlo1 := HLO.out k hlk
            rw [← hs.out] at hgp hht
            generalize (r.wd)[k] = x at *
            have hx1 := hxb.1
            have hx2 := hxb.2
            have hp2 := hp.out.trans hgp.symm
            have HP2 := Lib.hid hp2
            have HHT := Lib.hid hht
            have HLO1 := Lib.hid hlo1
            clear hxb hgp hht hlo1 hp2 hp
            by_cases hin : firstD d ≤ s + x ∧ s + x ≤ firstD d + 1500
            · obtain ⟨fn, tmps, assign, body, hy, hR⟩ := hY (n - 1) pre2 ⟨s + x, hin⟩ wr HJW.out (HPL.out _ _ HP2.out hin.2)
              dsimp only [dayV] at hy
              have hp3 := HNX.out (s + x) pre2 ⟨s + x, hin⟩ HP2.out rfl (HHT.out hin.1 hin.2)
              have HP3 := Lib.hid hp3
              have hin1 := hin.1
              have hin2 := hin.2
              have HR := Lib.hid hR
              clear hp3 hR
              gi_wp2
              refine ⟨(fun h => by simp [Fence.wide] at h), (roundIn_any HR.out).mono ?_⟩
              rintro e W' (⟨rfl, hJ', hK'⟩ | ⟨rfl, hX⟩)
              · have HJ' := Lib.hid hJ'
                have HK' := Lib.hid (HQ.out.trans hK')
                clear hJ' hK'
                gi_wp2
                exact ⟨⟨k + 1, pre2 ++ [⟨s + x, hin⟩], by omega, by go_num, Lib.hid (by rw [HLO1.out, show s + (x + 1) = s + x + 1 by omega]; exact HP3.out), HJ', HK'⟩, by simp [intOf]; omega⟩
              · gi_wp2
                refine bodyPost_ret (results_none rfl _ _ _) rfl ?_
                exact ⟨⟨_, rfl⟩, .inr ⟨_, HPRE.out _ _ HP3.out, hX⟩⟩
            · have hin' : s + x < firstD d ∨ firstD d + 1500 < s + x := by omega
              have hp3 := HP2.out.trans (HMISS.out _ hin').symm
              have HP3 := Lib.hid hp3
              clear hp3 hin
              rcases hin' with hin | hin
              all_goals
                gi_wp2
                refine ⟨fun _ h => (by cases h), ?_⟩
                gi_wp2
                exact ⟨⟨k + 1, pre2, by omega, by go_num, Lib.hid (by rw [HLO1.out, show s + (x + 1) = s + x + 1 by omega]; exact HP3.out), HJW, HQ⟩, by simp [intOf]; omega⟩
          · have hkl : k = (r.wd).length := by simp at hk hlt ⊢; omega
            have hen := HEND.out q hq.out
            rw [← hs.out, ← hkl] at hen
            have hp3 := hp.out.trans hen.symm
            have HP3 := Lib.hid hp3
            have cr := HWK.out.box wr HQ.out
            clear hen hp3 hkl
            gi_wp2
            exact ⟨⟨q + r.ev, s + 7 * r.ev, pre2, rfl, Lib.hid (by have := hs.out; omega), by omega, by omega, Lib.hid (HMOD.out _ hq.out), Lib.hid (by rw [HP3.out, show firstD d - wdD d + 7 * (q + r.ev) = s + 7 * r.ev by have := hs.out; omega]), HJW, HQ⟩, by simp [intOf]; omega⟩
      · gi_wp2
        go_end0
        exact ⟨⟨_, rfl⟩, .inl ⟨pre, HFULL.out _ _ hp.out (by omega), HJW.out⟩⟩
end Go.Proofs.Ytnjplichhkmmhaa.CalW
