import Derived.Test.YtnjplichhkmmhaaMo
/- Walk: recur.regular. -/
namespace Go
theorem step_append_in_at {F : Fence} {n : Nat} {P : Program} {w : World} {ops : Array Oper} {o : Oper} {a : Act} {K : Act → World → Prop} {Q : Exit → Act → World → Prop} {E : Prop}
    (hg : o.guard = none) (s x : Operand) (t : TypeId) (hop : o.op = Op.call { callee := Callee.builtin Builtin.append, args := #[s, x], argTypes := #[t, t] })
    (base : Nat) (e : TypeId) (i : TypeInfo) (z : Value) (size bytes : Nat) (h1 : P.underlying t = some (.slice e)) (h2 : P.info? e = some i) (h3 : i.zero = some z) (h4 : i.size = size) (h5 : i.bytes = bytes) (h6 : z.cells.size = size) (h7 : 0 < size)
    (v : Value) (k : Nat) (xs : List Value) (hs : a.eval s = v) (hown : w.ownsRow base e size v k xs) (ad : Addr) (m c : Nat) (news : List Value) (hx : a.eval x = .slice (some ad) m c) (hn : news.length = m * size)
    (hc : ∀ j u, news[j]? = some u → w.cell? (ad.add j) = some u) (h1c : ∀ u ∈ news, u.oneCell' = true) (b1 : k + m ≤ maxLen) (b2 : (k + m) * bytes ≤ 140737488355328) (b3 : base ≤ w.heap.size)
    (hK : ∀ v' w', w'.ownsRow base e size v' (k + m) (xs ++ news) → w.grownBy w' v.ownBlock → (v'.ownBlock = v.ownBlock ∨ v'.ownBlock = some w.heap.size) → K (a.put o.dst v') w') :
    if Region.wanted o (yielded ops a.tmps) = true then Oper.wpIn F n P o a w K Q else E := by
  have hw : Region.wanted o (yielded ops a.tmps) = true := by simp [Region.wanted, hg]
  rw [if_pos hw]
  obtain ⟨v', w', hrun, r1, r2, _, r4⟩ := run_append_own_at (P := P) w base t o.type e i z size bytes h1 h2 h3 h4 h5 h6 h7 v k xs hown ad m c news hn hc h1c b1 b2 b3
  unfold Oper.wpIn
  refine ⟨?_, ?_⟩
  · simp [Oper.about, hop, resolve, Target.leads, Sem.run_pure]
  · rw [Oper.semAt_plain F _ _ (by rw [hop]; intro c hc'; cases hc')]
    simp [execOp, hop, resolve, invoke, builtin, hs, hx, hrun, Result.andThen]
    exact hK v' w' r1 r2 r4
end Go
namespace Go.Proofs.Ytnjplichhkmmhaa.CalW
open Go.RowKit Go.Shelf Go.Proofs.Ytnjplichhkmmhaa.Base Go.Proofs.Ytnjplichhkmmhaa.Cal
set_option linter.unusedVariables false
set_option linter.unusedSimpArgs false
attribute [local go_sem] Oper.semAt_some
abbrev zcells (z : Zone) : Array Value := #[.string z.name, .int .i64 z.st, .int .i64 z.su, .int .i64 z.b.mo, .int .i64 z.b.wk, .int .i64 z.b.wd, .int .i64 z.b.mi, .int .i64 z.e.mo, .int .i64 z.e.wk, .int .i64 z.e.wd, .int .i64 z.e.mi]
theorem keeps_up {B B' : Nat} {W W' : World} (h : KeepsFrom B W W') (hB : B ≤ B') : KeepsFrom B' W W' := ⟨h.size, fun k o hk => h.same k o (by omega)⟩
/-- the round's invariant; the result when a round returns. -/
def RegI (z : Zone) (d : Date) (r : Rule) (sr : RS) (w : World) (go gr B : Nat) (pre : List (Day d)) (W : World) : Prop :=
  ∃ acc A c, RI w W (zcells z) (dcells d) (rcells r sr) go gr B (.slice none 0 0) acc (.slice A acc.length c) ∧ Run z d r (pre.map (·.1)) acc ∧ acc.length ≤ pre.length
def RegX (z : Zone) (d : Date) (r : Rule) (sr : RS) (w : World) (go gr B : Nat) (c0 : Code) (pre : List (Day d)) (W : World) : Prop :=
  c0 = .ret ∧ ∃ acc A c, RI w W (zcells z) (dcells d) (rcells r sr) go gr B (.slice A acc.length c) acc (.slice A acc.length c) ∧ RunEnds z d r (pre.map (·.1)) acc
theorem regI_own (z : Zone) (d : Date) (r : Rule) (sr : RS) (w : World) (go gr B B0 : Nat) (h : w.heap.size ≤ B0) : OwnFrom B0 (RegI z d r sr w go gr B) := by
  rintro pre W W' row ⟨acc, A, c, hI, hrest⟩ hg hr
  exact ⟨acc, A, c, hI.abides hg (fun r e => ⟨Nat.le_trans h (hr r e).1, (hr r e).2⟩), hrest⟩
theorem regX_own (z : Zone) (d : Date) (r : Rule) (sr : RS) (w : World) (go gr B B0 : Nat) (c0 : Code) (h : w.heap.size ≤ B0) : OwnFrom B0 (RegX z d r sr w go gr B c0) := by
  rintro pre W W' row ⟨e0, acc, A, c, hI, hrest⟩ hg hr
  exact ⟨e0, acc, A, c, hI.abides hg (fun r e => ⟨Nat.le_trans h (hr r e).1, (hr r e).2⟩), hrest⟩
theorem rule_block {w : World} {r : Rule} {sr : RS} (h : RuleAt w r sr) (hne : r.wd ≠ []) {ad : Addr} (ha : sr.a5 = some ad) : ad.block < w.heap.size := by
  have hl : 0 < r.wd.length := List.length_pos_iff.2 hne
  obtain ⟨ad', e, hc⟩ := rd_all h.h5 hl
  rw [ha] at e
  cases e
  have := hc w (Below.refl _ _) 0 hl
  obtain ⟨o, ho, _⟩ := cells_of_cell this
  exact (Array.getElem?_eq_some_iff.1 ho).1
set_option maxHeartbeats 4000000 in
set_option maxRecDepth 100000 in
theorem regular_calls (z : Zone) (d : Date) (r : Rule) (sr : RS) (w : World) (hk : z.fault = (0, 0)) (hq : locf d = (0, 0)) (hy : d.y ≤ 3980) (hrf : r.fault = (0, 0)) (hR : RuleAt w r sr) :
    Calls Try.prog 57 #[zval z, dval d, rval r sr] w (GivesO w (regL z d r)) := by
  have F := FirstOk.of hq hy
  have bd := F.bd
  have bd1 := bd.1
  have bd2 := bd.2
  have hu25 := Try.underlying25
  have hu34 := Try.underlying34
  have hu49 := Try.underlying49
  have hu35 := Try.underlying35
  refine (callsIn_wide (n := 5)).1 ?_
  refine callsIn_of_wp_marks Try.func57 rfl trivial ?_ rfl
  simp only [Try.ntmps57, List.size_toArray, List.length_cons, List.length_nil, Nat.reduceAdd, Nat.reduceSub, Array.replicate_succ, Array.replicate_zero, List.push_toArray, List.append_toArray, List.nil_append, List.cons_append]
  have S0 : RI w (((((w.alloc (.cells (zcells z) 25)).alloc (.cells (dcells d) 34)).alloc (.cells (rcells r sr) 49)).alloc (.cells #[.slice none 0 0] 35)).alloc (.cells #[.slice none 0 0] 35)) (zcells z) (dcells d) (rcells r sr) (w.heap.size + 1 + 1 + 1 + 1) (w.heap.size + 1 + 1 + 1) (w.heap.size + 1 + 1 + 1 + 1 + 1) (.slice none 0 0) [] (.slice none 0 0) :=
    ⟨⟨((((Bk.new w _ _).al _).al _).al _).al _, (((Bk.new' (w.alloc (.cells (zcells z) 25)) _ _ (by simp)).al _).al _).al _, ((Bk.new' ((w.alloc (.cells (zcells z) 25)).alloc (.cells (dcells d) 34)) _ _ (by simp)).al _).al _, World.ownsRow_nil _ _ _ _, below_al (below_al (below_al (below_al (below_al (Below.refl _ _) _) _) _) _) _, by simp, by omega⟩, (Bk.new' (((w.alloc (.cells (zcells z) 25)).alloc (.cells (dcells d) 34)).alloc (.cells (rcells r sr) 49)) _ _ (by simp)).al _, Bk.new' ((((w.alloc (.cells (zcells z) 25)).alloc (.cells (dcells d) 34)).alloc (.cells (rcells r sr) 49)).alloc (.cells #[.slice none 0 0] 35)) _ _ (by simp), by omega, by omega, by omega⟩
  have hRD : ∀ W, w.heap.size ≤ W.heap.size → Below w.heap.size w W → RuleAt W r sr := fun W _ hb => hR.bel hb
  have hD : Calls Try.prog 72 #[dval d, rval r sr] (((((w.alloc (.cells (zcells z) 25)).alloc (.cells (dcells d) 34)).alloc (.cells (rcells r sr) 49)).alloc (.cells #[.slice none 0 0] 35)).alloc (.cells #[.slice none 0 0] 35)) fun e w' => e = .returned (daysV (w.heap.size + 1 + 1 + 1 + 1 + 1)) ∧ RI w w' (zcells z) (dcells d) (rcells r sr) (w.heap.size + 1 + 1 + 1 + 1) (w.heap.size + 1 + 1 + 1) (w.heap.size + 1 + 1 + 1 + 1 + 1) (.slice none 0 0) [] (.slice none 0 0) ∧ DaysAt w' (w.heap.size + 1 + 1 + 1 + 1) (w.heap.size + 1 + 1 + 1) (w.heap.size + 1 + 1 + 1 + 1 + 1) d r sr := by
    have hs5 : (((((w.alloc (.cells (zcells z) 25)).alloc (.cells (dcells d) 34)).alloc (.cells (rcells r sr) 49)).alloc (.cells #[.slice none 0 0] 35)).alloc (.cells #[.slice none 0 0] 35)).heap.size = w.heap.size + 1 + 1 + 1 + 1 + 1 := by simp
    generalize (((((w.alloc (.cells (zcells z) 25)).alloc (.cells (dcells d) 34)).alloc (.cells (rcells r sr) 49)).alloc (.cells #[.slice none 0 0] 35)).alloc (.cells #[.slice none 0 0] 35)) = w5 at *
    refine (days_calls' d r sr w5 F).mono ?_
    rintro e w' ⟨rfl, rfl⟩
    have hb : Below w5.heap.size w5 (((w5.alloc (.cells (dcells d) 34)).alloc (.cells (rcells r sr) 49)).alloc (.cells #[.int .i64 (firstD d)] 3)) := below_al (below_al (below_al (Below.refl _ _) _) _) _
    have S1 := S0.bel hb
    refine ⟨by rw [hs5], S1, ⟨hRD _ S1.s.b.size S1.s.b, by rw [S1.row]; rfl, S1.out.lt, S1.res.lt, fun hne ad ha => ?_, ((Bk.new' w5 _ _ hs5).al _).al _, (Bk.new' (w5.alloc (.cells (dcells d) 34)) _ _ (by simp [hs5])).al _, Bk.new' ((w5.alloc (.cells (dcells d) 34)).alloc (.cells (rcells r sr) 49)) _ _ (by simp [hs5]), by omega, by omega⟩⟩
    have := rule_block hR hne ha
    exact ⟨by omega, by omega⟩
  have HD := Lib.hid hD
  have S := Lib.hid S0
  clear hD bd hRD S0
  have cd := S.out.s.d.cell
  have cr := S.out.s.u.cell
  gi_wp2_with (refine ⟨trivial, ?_⟩; gi_at_call 72; refine (callsIn_wide.2 HD.out).mono ?_; rintro e wD ⟨rfl, hS, hDA⟩; have SD := Lib.hid hS; have HDA := Lib.hid hDA; clear hS hDA)
  clear cd cr S HD
  generalize hgr : w.heap.size + 1 + 1 + 1 = gr at *
  generalize hgo : gr + 1 = go at *
  have hB0 : w.heap.size ≤ wD.heap.size := SD.out.s.b.size
  have HR := Lib.hid hR
  have hEnd : ∀ acc (pre : List (Day d)), pre.map (·.1) <+: daysL d r → RunEnds z d r (pre.map (·.1)) acc → regL z d r = acc := fun acc pre hp he => by
    obtain ⟨rest, e⟩ := hp
    unfold regL
    rw [← e]
    exact he rest
  have hFin : ∀ acc (ys : List (Day d)), ys.map (·.1) = daysL d r → Run z d r (ys.map (·.1)) acc → regL z d r = acc := fun acc ys he hr => by
    unfold regL
    rw [← he]
    exact hr.fin
  generalize regL z d r = L at *
  clear hR
  refine wpIn_rangeFunc_ownG (n := 5) rfl (by decide) (gf := 82) (lb := #[.pointer (some ⟨go + 1 + 1, 0, none⟩), .pointer (some ⟨go + 1 + 1 + 1, 0, none⟩), .pointer (some ⟨go + 1, 0, none⟩)]) rfl trivial (fun args w => days_enters args w)
    (days_stops d r sr go gr (go + 1) 4 wD HDA.out hrf F) (fun h k => h.trans k) (fun W l o o' hl h1 h2 _ => Kq.put o' (by have := HDA.out.lo; omega) h1 h2) (Below.refl _ _) (fun _ => rfl)
    (RegI z d r sr w go gr (go + 1)) (RegX z d r sr w go gr (go + 1)) (regI_own z d r sr w go gr (go + 1) _ hB0) (fun c => regX_own z d r sr w go gr (go + 1) _ c hB0)
    ⟨[], none, 0, SD.out, Run.nil, Nat.le_refl _⟩ (fun x => { tmps := #[zval z, dval d, rval r sr, .pointer (some ⟨w.heap.size, 0, none⟩), .pointer (some ⟨w.heap.size + 1, 0, none⟩), .pointer (some ⟨w.heap.size + 1 + 1, 0, none⟩), .pointer (some ⟨gr, 0, none⟩), .pointer (some ⟨go, 0, none⟩), .int .i64 x.1, undef, dval d, rval r sr, daysV (go + 1), .int .i64 x.1, undef, undef, undef, undef, undef, undef, undef, undef, undef, undef, undef, undef, undef, undef, undef, undef, undef, undef, undef, undef, undef, undef, undef, undef, undef, undef, undef, undef, undef, undef, undef, undef, undef, undef], defers := [] }) ?assign ?body ?done ?stop
  case assign =>
    intro l x W K hK
    gi_wp2
    exact hK
  case body =>
    rintro l pre x W ⟨acc, A, c, hI, hrun, hlen⟩ hlt
    obtain ⟨n, hn0, hn1⟩ := x
    have hDT := fun W => rdate_calls n d W (by omega) (by omega)
    have hAL := fun W => all_of z (dateN n d) W hk (dateN_ok hq hy hn0 hn1)
    generalize hal : allL z (dateN n d) = al at *
    have hmap : (pre ++ [(⟨n, hn0, hn1⟩ : Day d)]).map (·.1) = pre.map (·.1) ++ [n] := by simp
    have HDT := Lib.hid hDT
    have HAL := Lib.hid hAL
    have HEQ := Lib.hid hal
    have HMAP := Lib.hid hmap
    have HRUN := Lib.hid hrun
    have HLEN := Lib.hid hlen
    have S := Lib.hid hI
    have n1 : pre.length < 1501 := hlt
    obtain ⟨i0, hi0, hz0, hz1, hz2⟩ := info_parts info3
    have HI0 := Lib.hid hi0
    have HZ0 := Lib.hid hz0
    have HZ1 := Lib.hid hz1
    have HZ2 := Lib.hid hz2
    clear hDT hAL hal hmap hrun hlen hI hlt hi0 hz0 hz1 hz2 hEnd hFin HDA SD
    generalize hdt : dateN n d = dt at *
    have HDTE := Lib.hid hdt
    have n2 : go < W.heap.size := S.out.out.lt
    clear hdt
    have sz := S.out.s.z.s
    have sd := S.out.s.d.s
    gi_wp2
    refine wpIn_region_head 4 (open_round l) (by kernel_rfl) (by kernel_rfl) (by kernel_rfl) ?_
    simp only [List.take_succ_cons, List.take_zero, List.drop_succ_cons, List.drop_zero]
    repeat (go_big_quiet_step ((go_at_call 73; exact bel_bel (HDT.out _))))
    refine wpQuiet_nil ?_
    intro s
    clear sz sd
    have HB := Lib.hid s.below
    have T := Lib.hid (S.out.bel s.below)
    clear S
    have S := T
    clear T
    generalize s.w = W1 at *
    clear s
    cases al with
    | nil =>
      gi_wp2_with (refine ⟨trivial, ?_⟩; gi_at_call 46; refine ((open_round l).2.2 _ _ _ _ _ _ (HAL.out W1)).mono ?_; rintro e w1 ⟨A1, k1, rfl, hR1, hF1, hb⟩; have HR1 := Lib.hid hR1; clear hR1 hF1; have T := Lib.hid (S.out.bel hb); have HB1 := Lib.hid (below_go HB.out hb); clear S HB hb; have S := T; have HB := HB1; clear T HB1)
      exact ⟨keeps_bel HB.out, Kq.of_below n2 HB.out, acc, A, c, S.out, by rw [HMAP.out]; exact Run.skip HRUN.out (by rw [HDTE.out]; exact HEQ.out), by have := HLEN.out; simp; omega⟩
    | cons t al =>
      gi_wp2_with (refine ⟨trivial, ?_⟩; gi_at_call 46; refine ((open_round l).2.2 _ _ _ _ _ _ (HAL.out W1)).mono ?_; rintro e w1 ⟨A1, k1, rfl, hR1, hF1, hb⟩; have HR1 := Lib.hid hR1; clear hR1 hF1; have T := Lib.hid (S.out.bel hb); have HB1 := Lib.hid (below_go HB.out hb); clear S HB hb; have S := T; have HB := HB1; clear T HB1)
      obtain ⟨ad1, rfl, hre⟩ := rd_all HR1.out (k := 0) (by simp)
      have hr0 : ∀ W, Below w1.heap.size w1 W → W.cell? ad1 = some (.int .i64 t) := fun W hb => by
        have := hre W hb 0 (by simp)
        rwa [show ad1.add 0 = ad1 by simp [Addr.add]] at this
      have HR0 := Lib.hid hr0
      clear hre hr0 HR1
      try simp only [List.length_cons]
      have sr1 := S.out.s.u.s
      have st1 : ∀ s : Bel w1, s.w.cell? ad1 = some (.int .i64 t) := fun s => HR0.out _ s.below
      rcases tf r.hu with hh | hh
      · have gh := hh
        refine wpIn_region_bel (open_round l) (by kernel_rfl) (by kernel_rfl) (by kernel_rfl) ?_
        repeat (go_big_quiet_step (fail))
        refine wpQuiet_nil ?_
        rintro _ ⟨s0, rfl⟩
        have T := Lib.hid (S.out.bel s0.below)
        have HB1 := Lib.hid (below_go HB.out s0.below)
        have HR2 := Lib.hid (fun W hb => HR0.out W (below_go s0.below hb))
        clear S HB HR0 sr1 st1
        have S := T
        have HB := HB1
        have HR0 := HR2
        clear T HB1 HR2
        generalize s0.w = w2 at *
        clear s0
        clear gh
        gi_wp2
        have HNU := Lib.hid ((by rw [hh]; simp : ¬ (r.hu = true ∧ r.un < t)))
        have hacc : acc.length + 1 ≤ maxLen ∧ (acc.length + 1) * 8 ≤ 140737488355328 := by have := HLEN.out; unfold maxLen; omega
        have HACC := Lib.hid hacc
        have hl1 : ((acc ++ [t]).length : Int) = (acc.length : Int) + 1 := by simp
        have HL1 := Lib.hid hl1
        clear hacc hl1
        by_cases hc : (acc.length : Int) + 1 = r.ct
        · have hends : RunEnds z d r ((pre ++ [(⟨n, hn0, hn1⟩ : Day d)]).map (·.1)) (acc ++ [t]) := by rw [HMAP.out]; exact Run.count HRUN.out (by rw [HDTE.out]; exact HEQ.out) HNU.out (by rw [HL1.out]; exact hc)
          have HENDS := Lib.hid hends
          have g4 : ((acc.length : Int) + 1 == r.ct) = true := by simpa using hc
          clear hends hc
          refine wpIn_region_any (by kernel_rfl) ?_
          change wpAnyIn _ _ _ _ _ _ _ _ _ (World.drew _)
          have T := Lib.hid (S.out.bel (below_drew1 (Below.refl _ _)))
          have HB1 := Lib.hid (below_drew1 HB.out)
          have ct0 : w2.drew.cell? ad1 = some (.int .i64 t) := HR0.out _ (below_drew1 (Below.refl _ _))
          clear S HB HR0
          have S := T
          have HB := HB1
          clear T HB1
          generalize w2.drew = w2 at *
          have cgo := S.out.out.cell
          have cgo2 := fun o => (S.out.al o).out.cell
          refine wpAnyIn_ready (rs := [0, 1]) (by kernel_rfl) (by simp) ?_
          refine AllReadyIn.cons rfl (fun K hK => ?_) (AllReadyIn.cons rfl (fun K hK => ?_) (AllReadyIn.nil))
          · skip
            go_simp
            refine hK _ _ ?_
            clear hK K
            refine wpAnyIn_ready (rs := [1]) (by kernel_rfl) (by simp) ?_
            refine AllReadyIn.cons rfl (fun K hK => ?_) (AllReadyIn.nil)
            go_simp
            refine hK _ _ ?_
            clear hK K
            refine wpAnyIn_ready (rs := [2]) (by kernel_rfl) (by simp) ?_
            refine AllReadyIn.cons rfl (fun K hK => ?_) (AllReadyIn.nil)
            go_simp
            refine hK _ _ ?_
            clear hK K
            refine wpAnyIn_ready (rs := [3]) (by kernel_rfl) (by simp) ?_
            refine AllReadyIn.cons rfl (fun K hK => ?_) (AllReadyIn.nil)
            go_simp
            refine hK _ _ ?_
            clear hK K
            refine wpAnyIn_ready (rs := [4]) (by kernel_rfl) (by simp) ?_
            refine AllReadyIn.cons rfl (fun K hK => ?_) (AllReadyIn.nil)
            go_simp
            refine hK _ _ ?_
            clear hK K
            refine wpAnyIn_ready (rs := [5]) (by kernel_rfl) (by simp) ?_
            refine AllReadyIn.cons rfl (fun K hK => ?_) (AllReadyIn.nil)
            refine step_append_in_at rfl (.tmp 35) (.tmp 39) 35 rfl (go + 1) 3 i0 (.int .i64 0) 1 8 Try.underlying35 HI0.out HZ0.out HZ1.out HZ2.out rfl (by decide) (.slice A acc.length c) _ _ rfl (S.out.al _).s.own ⟨w2.heap.size, 0, none⟩ 1 1 [.int .i64 t] rfl rfl (cell_one_new _ _ _) (by simp [Value.oneCell']) HACC.out.1 HACC.out.2 (by have := S.out.s.hB; simp; omega) ?_
            intro v' w3 hown' hgrow hat
            obtain ⟨g', cap', rfl⟩ := ownsRow_succ hown'
            obtain ⟨ho, hS3, hq3, hf3⟩ := RI.app (l' := acc ++ [t]) S.out hgrow (by simpa [iv] using hown') (by simpa using hat)
            have hm1 := ho.cell
            have hm2 := ho.frozen
            refine hK _ _ ?_
            clear hK K
            refine wpAnyIn_ready (rs := [6]) (by kernel_rfl) (by simp) ?_
            refine AllReadyIn.cons rfl (fun K hK => ?_) (AllReadyIn.nil)
            go_simp
            refine hK _ _ ?_
            clear hK K
            refine wpAnyIn_done (by kernel_rfl) ?_ _
            have S3 := Lib.hid hS3
            have HQ3 := Lib.hid ((Kq.of_below (gr := gr) n2 HB.out).trans hq3)
            have HF3 := Lib.hid ((keeps_bel (B := w.heap.size) HB.out).trans hf3)
            clear hS3 hq3 hf3 ho hm1 hm2 hown' hgrow hat cgo cgo2 ct0
            have cgo3 := S3.out.out.cell
            have cr3 := S3.out.s.u.cell
            have cgr3 := S3.out.res.cell
            have fgr3 := S3.out.res.frozen
            generalize w3.setCell ⟨go, 0, none⟩ _ = w4 at *
            gi_wp2
            exact ⟨keeps_up (HF3.out.trans S3.out.ret.2) hB0, rfl, acc ++ [t], _, _, by simpa using S3.out.ret.1, HENDS.out⟩
          · skip
            go_simp
            refine hK _ _ ?_
            clear hK K
            refine wpAnyIn_ready (rs := [0, 2]) (by kernel_rfl) (by simp) ?_
            refine AllReadyIn.cons rfl (fun K hK => ?_) (AllReadyIn.cons rfl (fun K hK => ?_) (AllReadyIn.nil))
            · skip
              go_simp
              refine hK _ _ ?_
              clear hK K
              refine wpAnyIn_ready (rs := [2]) (by kernel_rfl) (by simp) ?_
              refine AllReadyIn.cons rfl (fun K hK => ?_) (AllReadyIn.nil)
              go_simp
              refine hK _ _ ?_
              clear hK K
              refine wpAnyIn_ready (rs := [3]) (by kernel_rfl) (by simp) ?_
              refine AllReadyIn.cons rfl (fun K hK => ?_) (AllReadyIn.nil)
              go_simp
              refine hK _ _ ?_
              clear hK K
              refine wpAnyIn_ready (rs := [4]) (by kernel_rfl) (by simp) ?_
              refine AllReadyIn.cons rfl (fun K hK => ?_) (AllReadyIn.nil)
              go_simp
              refine hK _ _ ?_
              clear hK K
              refine wpAnyIn_ready (rs := [5]) (by kernel_rfl) (by simp) ?_
              refine AllReadyIn.cons rfl (fun K hK => ?_) (AllReadyIn.nil)
              refine step_append_in_at rfl (.tmp 35) (.tmp 39) 35 rfl (go + 1) 3 i0 (.int .i64 0) 1 8 Try.underlying35 HI0.out HZ0.out HZ1.out HZ2.out rfl (by decide) (.slice A acc.length c) _ _ rfl (S.out.al _).s.own ⟨w2.heap.size, 0, none⟩ 1 1 [.int .i64 t] rfl rfl (cell_one_new _ _ _) (by simp [Value.oneCell']) HACC.out.1 HACC.out.2 (by have := S.out.s.hB; simp; omega) ?_
              intro v' w3 hown' hgrow hat
              obtain ⟨g', cap', rfl⟩ := ownsRow_succ hown'
              obtain ⟨ho, hS3, hq3, hf3⟩ := RI.app (l' := acc ++ [t]) S.out hgrow (by simpa [iv] using hown') (by simpa using hat)
              have hm1 := ho.cell
              have hm2 := ho.frozen
              refine hK _ _ ?_
              clear hK K
              refine wpAnyIn_ready (rs := [6]) (by kernel_rfl) (by simp) ?_
              refine AllReadyIn.cons rfl (fun K hK => ?_) (AllReadyIn.nil)
              go_simp
              refine hK _ _ ?_
              clear hK K
              refine wpAnyIn_done (by kernel_rfl) ?_ _
              have S3 := Lib.hid hS3
              have HQ3 := Lib.hid ((Kq.of_below (gr := gr) n2 HB.out).trans hq3)
              have HF3 := Lib.hid ((keeps_bel (B := w.heap.size) HB.out).trans hf3)
              clear hS3 hq3 hf3 ho hm1 hm2 hown' hgrow hat cgo cgo2 ct0
              have cgo3 := S3.out.out.cell
              have cr3 := S3.out.s.u.cell
              have cgr3 := S3.out.res.cell
              have fgr3 := S3.out.res.frozen
              generalize w3.setCell ⟨go, 0, none⟩ _ = w4 at *
              gi_wp2
              exact ⟨keeps_up (HF3.out.trans S3.out.ret.2) hB0, rfl, acc ++ [t], _, _, by simpa using S3.out.ret.1, HENDS.out⟩
            · skip
              go_simp
              refine hK _ _ ?_
              clear hK K
              refine wpAnyIn_ready (rs := [0, 3]) (by kernel_rfl) (by simp) ?_
              refine AllReadyIn.cons rfl (fun K hK => ?_) (AllReadyIn.cons rfl (fun K hK => ?_) (AllReadyIn.nil))
              · skip
                go_simp
                refine hK _ _ ?_
                clear hK K
                refine wpAnyIn_ready (rs := [3]) (by kernel_rfl) (by simp) ?_
                refine AllReadyIn.cons rfl (fun K hK => ?_) (AllReadyIn.nil)
                go_simp
                refine hK _ _ ?_
                clear hK K
                refine wpAnyIn_ready (rs := [4]) (by kernel_rfl) (by simp) ?_
                refine AllReadyIn.cons rfl (fun K hK => ?_) (AllReadyIn.nil)
                go_simp
                refine hK _ _ ?_
                clear hK K
                refine wpAnyIn_ready (rs := [5]) (by kernel_rfl) (by simp) ?_
                refine AllReadyIn.cons rfl (fun K hK => ?_) (AllReadyIn.nil)
                refine step_append_in_at rfl (.tmp 35) (.tmp 39) 35 rfl (go + 1) 3 i0 (.int .i64 0) 1 8 Try.underlying35 HI0.out HZ0.out HZ1.out HZ2.out rfl (by decide) (.slice A acc.length c) _ _ rfl (S.out.al _).s.own ⟨w2.heap.size, 0, none⟩ 1 1 [.int .i64 t] rfl rfl (cell_one_new _ _ _) (by simp [Value.oneCell']) HACC.out.1 HACC.out.2 (by have := S.out.s.hB; simp; omega) ?_
                intro v' w3 hown' hgrow hat
                obtain ⟨g', cap', rfl⟩ := ownsRow_succ hown'
                obtain ⟨ho, hS3, hq3, hf3⟩ := RI.app (l' := acc ++ [t]) S.out hgrow (by simpa [iv] using hown') (by simpa using hat)
                have hm1 := ho.cell
                have hm2 := ho.frozen
                refine hK _ _ ?_
                clear hK K
                refine wpAnyIn_ready (rs := [6]) (by kernel_rfl) (by simp) ?_
                refine AllReadyIn.cons rfl (fun K hK => ?_) (AllReadyIn.nil)
                go_simp
                refine hK _ _ ?_
                clear hK K
                refine wpAnyIn_done (by kernel_rfl) ?_ _
                have S3 := Lib.hid hS3
                have HQ3 := Lib.hid ((Kq.of_below (gr := gr) n2 HB.out).trans hq3)
                have HF3 := Lib.hid ((keeps_bel (B := w.heap.size) HB.out).trans hf3)
                clear hS3 hq3 hf3 ho hm1 hm2 hown' hgrow hat cgo cgo2 ct0
                have cgo3 := S3.out.out.cell
                have cr3 := S3.out.s.u.cell
                have cgr3 := S3.out.res.cell
                have fgr3 := S3.out.res.frozen
                generalize w3.setCell ⟨go, 0, none⟩ _ = w4 at *
                gi_wp2
                exact ⟨keeps_up (HF3.out.trans S3.out.ret.2) hB0, rfl, acc ++ [t], _, _, by simpa using S3.out.ret.1, HENDS.out⟩
              · skip
                go_simp
                refine hK _ _ ?_
                clear hK K
                refine wpAnyIn_ready (rs := [0, 4]) (by kernel_rfl) (by simp) ?_
                refine AllReadyIn.cons rfl (fun K hK => ?_) (AllReadyIn.cons rfl (fun K hK => ?_) (AllReadyIn.nil))
                · skip
                  go_simp
                  refine hK _ _ ?_
                  clear hK K
                  refine wpAnyIn_ready (rs := [4]) (by kernel_rfl) (by simp) ?_
                  refine AllReadyIn.cons rfl (fun K hK => ?_) (AllReadyIn.nil)
                  go_simp
                  refine hK _ _ ?_
                  clear hK K
                  refine wpAnyIn_ready (rs := [5]) (by kernel_rfl) (by simp) ?_
                  refine AllReadyIn.cons rfl (fun K hK => ?_) (AllReadyIn.nil)
                  refine step_append_in_at rfl (.tmp 35) (.tmp 39) 35 rfl (go + 1) 3 i0 (.int .i64 0) 1 8 Try.underlying35 HI0.out HZ0.out HZ1.out HZ2.out rfl (by decide) (.slice A acc.length c) _ _ rfl (S.out.al _).s.own ⟨w2.heap.size, 0, none⟩ 1 1 [.int .i64 t] rfl rfl (cell_one_new _ _ _) (by simp [Value.oneCell']) HACC.out.1 HACC.out.2 (by have := S.out.s.hB; simp; omega) ?_
                  intro v' w3 hown' hgrow hat
                  obtain ⟨g', cap', rfl⟩ := ownsRow_succ hown'
                  obtain ⟨ho, hS3, hq3, hf3⟩ := RI.app (l' := acc ++ [t]) S.out hgrow (by simpa [iv] using hown') (by simpa using hat)
                  have hm1 := ho.cell
                  have hm2 := ho.frozen
                  refine hK _ _ ?_
                  clear hK K
                  refine wpAnyIn_ready (rs := [6]) (by kernel_rfl) (by simp) ?_
                  refine AllReadyIn.cons rfl (fun K hK => ?_) (AllReadyIn.nil)
                  go_simp
                  refine hK _ _ ?_
                  clear hK K
                  refine wpAnyIn_done (by kernel_rfl) ?_ _
                  have S3 := Lib.hid hS3
                  have HQ3 := Lib.hid ((Kq.of_below (gr := gr) n2 HB.out).trans hq3)
                  have HF3 := Lib.hid ((keeps_bel (B := w.heap.size) HB.out).trans hf3)
                  clear hS3 hq3 hf3 ho hm1 hm2 hown' hgrow hat cgo cgo2 ct0
                  have cgo3 := S3.out.out.cell
                  have cr3 := S3.out.s.u.cell
                  have cgr3 := S3.out.res.cell
                  have fgr3 := S3.out.res.frozen
                  generalize w3.setCell ⟨go, 0, none⟩ _ = w4 at *
                  gi_wp2
                  exact ⟨keeps_up (HF3.out.trans S3.out.ret.2) hB0, rfl, acc ++ [t], _, _, by simpa using S3.out.ret.1, HENDS.out⟩
                · skip
                  go_simp
                  refine hK _ _ ?_
                  clear hK K
                  refine wpAnyIn_ready (rs := [0]) (by kernel_rfl) (by simp) ?_
                  refine AllReadyIn.cons rfl (fun K hK => ?_) (AllReadyIn.nil)
                  go_simp
                  refine hK _ _ ?_
                  clear hK K
                  refine wpAnyIn_ready (rs := [5]) (by kernel_rfl) (by simp) ?_
                  refine AllReadyIn.cons rfl (fun K hK => ?_) (AllReadyIn.nil)
                  refine step_append_in_at rfl (.tmp 35) (.tmp 39) 35 rfl (go + 1) 3 i0 (.int .i64 0) 1 8 Try.underlying35 HI0.out HZ0.out HZ1.out HZ2.out rfl (by decide) (.slice A acc.length c) _ _ rfl (S.out.al _).s.own ⟨w2.heap.size, 0, none⟩ 1 1 [.int .i64 t] rfl rfl (cell_one_new _ _ _) (by simp [Value.oneCell']) HACC.out.1 HACC.out.2 (by have := S.out.s.hB; simp; omega) ?_
                  intro v' w3 hown' hgrow hat
                  obtain ⟨g', cap', rfl⟩ := ownsRow_succ hown'
                  obtain ⟨ho, hS3, hq3, hf3⟩ := RI.app (l' := acc ++ [t]) S.out hgrow (by simpa [iv] using hown') (by simpa using hat)
                  have hm1 := ho.cell
                  have hm2 := ho.frozen
                  refine hK _ _ ?_
                  clear hK K
                  refine wpAnyIn_ready (rs := [6]) (by kernel_rfl) (by simp) ?_
                  refine AllReadyIn.cons rfl (fun K hK => ?_) (AllReadyIn.nil)
                  go_simp
                  refine hK _ _ ?_
                  clear hK K
                  refine wpAnyIn_done (by kernel_rfl) ?_ _
                  have S3 := Lib.hid hS3
                  have HQ3 := Lib.hid ((Kq.of_below (gr := gr) n2 HB.out).trans hq3)
                  have HF3 := Lib.hid ((keeps_bel (B := w.heap.size) HB.out).trans hf3)
                  clear hS3 hq3 hf3 ho hm1 hm2 hown' hgrow hat cgo cgo2 ct0
                  have cgo3 := S3.out.out.cell
                  have cr3 := S3.out.s.u.cell
                  have cgr3 := S3.out.res.cell
                  have fgr3 := S3.out.res.frozen
                  generalize w3.setCell ⟨go, 0, none⟩ _ = w4 at *
                  gi_wp2
                  exact ⟨keeps_up (HF3.out.trans S3.out.ret.2) hB0, rfl, acc ++ [t], _, _, by simpa using S3.out.ret.1, HENDS.out⟩
        · have hrun2 : Run z d r ((pre ++ [(⟨n, hn0, hn1⟩ : Day d)]).map (·.1)) (acc ++ [t]) := by rw [HMAP.out]; exact Run.app HRUN.out (by rw [HDTE.out]; exact HEQ.out) HNU.out (by rw [HL1.out]; exact hc)
          have HRUN2 := Lib.hid hrun2
          have g4 : ((acc.length : Int) + 1 == r.ct) = false := by simpa using hc
          clear hrun2 hc
          refine wpIn_region_any (by kernel_rfl) ?_
          change wpAnyIn _ _ _ _ _ _ _ _ _ (World.drew _)
          have T := Lib.hid (S.out.bel (below_drew1 (Below.refl _ _)))
          have HB1 := Lib.hid (below_drew1 HB.out)
          have ct0 : w2.drew.cell? ad1 = some (.int .i64 t) := HR0.out _ (below_drew1 (Below.refl _ _))
          clear S HB HR0
          have S := T
          have HB := HB1
          clear T HB1
          generalize w2.drew = w2 at *
          have cgo := S.out.out.cell
          have cgo2 := fun o => (S.out.al o).out.cell
          refine wpAnyIn_ready (rs := [0, 1]) (by kernel_rfl) (by simp) ?_
          refine AllReadyIn.cons rfl (fun K hK => ?_) (AllReadyIn.cons rfl (fun K hK => ?_) (AllReadyIn.nil))
          · skip
            go_simp
            refine hK _ _ ?_
            clear hK K
            refine wpAnyIn_ready (rs := [1]) (by kernel_rfl) (by simp) ?_
            refine AllReadyIn.cons rfl (fun K hK => ?_) (AllReadyIn.nil)
            go_simp
            refine hK _ _ ?_
            clear hK K
            refine wpAnyIn_ready (rs := [2]) (by kernel_rfl) (by simp) ?_
            refine AllReadyIn.cons rfl (fun K hK => ?_) (AllReadyIn.nil)
            go_simp
            refine hK _ _ ?_
            clear hK K
            refine wpAnyIn_ready (rs := [3]) (by kernel_rfl) (by simp) ?_
            refine AllReadyIn.cons rfl (fun K hK => ?_) (AllReadyIn.nil)
            go_simp
            refine hK _ _ ?_
            clear hK K
            refine wpAnyIn_ready (rs := [4]) (by kernel_rfl) (by simp) ?_
            refine AllReadyIn.cons rfl (fun K hK => ?_) (AllReadyIn.nil)
            go_simp
            refine hK _ _ ?_
            clear hK K
            refine wpAnyIn_ready (rs := [5]) (by kernel_rfl) (by simp) ?_
            refine AllReadyIn.cons rfl (fun K hK => ?_) (AllReadyIn.nil)
            refine step_append_in_at rfl (.tmp 35) (.tmp 39) 35 rfl (go + 1) 3 i0 (.int .i64 0) 1 8 Try.underlying35 HI0.out HZ0.out HZ1.out HZ2.out rfl (by decide) (.slice A acc.length c) _ _ rfl (S.out.al _).s.own ⟨w2.heap.size, 0, none⟩ 1 1 [.int .i64 t] rfl rfl (cell_one_new _ _ _) (by simp [Value.oneCell']) HACC.out.1 HACC.out.2 (by have := S.out.s.hB; simp; omega) ?_
            intro v' w3 hown' hgrow hat
            obtain ⟨g', cap', rfl⟩ := ownsRow_succ hown'
            obtain ⟨ho, hS3, hq3, hf3⟩ := RI.app (l' := acc ++ [t]) S.out hgrow (by simpa [iv] using hown') (by simpa using hat)
            have hm1 := ho.cell
            have hm2 := ho.frozen
            refine hK _ _ ?_
            clear hK K
            refine wpAnyIn_ready (rs := [6]) (by kernel_rfl) (by simp) ?_
            refine AllReadyIn.cons rfl (fun K hK => ?_) (AllReadyIn.nil)
            go_simp
            refine hK _ _ ?_
            clear hK K
            refine wpAnyIn_done (by kernel_rfl) ?_ _
            have S3 := Lib.hid hS3
            have HQ3 := Lib.hid ((Kq.of_below (gr := gr) n2 HB.out).trans hq3)
            have HF3 := Lib.hid ((keeps_bel (B := w.heap.size) HB.out).trans hf3)
            clear hS3 hq3 hf3 ho hm1 hm2 hown' hgrow hat cgo cgo2 ct0
            have cgo3 := S3.out.out.cell
            have cr3 := S3.out.s.u.cell
            have cgr3 := S3.out.res.cell
            have fgr3 := S3.out.res.frozen
            generalize w3.setCell ⟨go, 0, none⟩ _ = w4 at *
            gi_wp2
            exact ⟨keeps_up HF3.out hB0, HQ3.out, acc ++ [t], _, _, by simpa using S3.out, HRUN2.out, by have := HLEN.out; simp; omega⟩
          · skip
            go_simp
            refine hK _ _ ?_
            clear hK K
            refine wpAnyIn_ready (rs := [0, 2]) (by kernel_rfl) (by simp) ?_
            refine AllReadyIn.cons rfl (fun K hK => ?_) (AllReadyIn.cons rfl (fun K hK => ?_) (AllReadyIn.nil))
            · skip
              go_simp
              refine hK _ _ ?_
              clear hK K
              refine wpAnyIn_ready (rs := [2]) (by kernel_rfl) (by simp) ?_
              refine AllReadyIn.cons rfl (fun K hK => ?_) (AllReadyIn.nil)
              go_simp
              refine hK _ _ ?_
              clear hK K
              refine wpAnyIn_ready (rs := [3]) (by kernel_rfl) (by simp) ?_
              refine AllReadyIn.cons rfl (fun K hK => ?_) (AllReadyIn.nil)
              go_simp
              refine hK _ _ ?_
              clear hK K
              refine wpAnyIn_ready (rs := [4]) (by kernel_rfl) (by simp) ?_
              refine AllReadyIn.cons rfl (fun K hK => ?_) (AllReadyIn.nil)
              go_simp
              refine hK _ _ ?_
              clear hK K
              refine wpAnyIn_ready (rs := [5]) (by kernel_rfl) (by simp) ?_
              refine AllReadyIn.cons rfl (fun K hK => ?_) (AllReadyIn.nil)
              refine step_append_in_at rfl (.tmp 35) (.tmp 39) 35 rfl (go + 1) 3 i0 (.int .i64 0) 1 8 Try.underlying35 HI0.out HZ0.out HZ1.out HZ2.out rfl (by decide) (.slice A acc.length c) _ _ rfl (S.out.al _).s.own ⟨w2.heap.size, 0, none⟩ 1 1 [.int .i64 t] rfl rfl (cell_one_new _ _ _) (by simp [Value.oneCell']) HACC.out.1 HACC.out.2 (by have := S.out.s.hB; simp; omega) ?_
              intro v' w3 hown' hgrow hat
              obtain ⟨g', cap', rfl⟩ := ownsRow_succ hown'
              obtain ⟨ho, hS3, hq3, hf3⟩ := RI.app (l' := acc ++ [t]) S.out hgrow (by simpa [iv] using hown') (by simpa using hat)
              have hm1 := ho.cell
              have hm2 := ho.frozen
              refine hK _ _ ?_
              clear hK K
              refine wpAnyIn_ready (rs := [6]) (by kernel_rfl) (by simp) ?_
              refine AllReadyIn.cons rfl (fun K hK => ?_) (AllReadyIn.nil)
              go_simp
              refine hK _ _ ?_
              clear hK K
              refine wpAnyIn_done (by kernel_rfl) ?_ _
              have S3 := Lib.hid hS3
              have HQ3 := Lib.hid ((Kq.of_below (gr := gr) n2 HB.out).trans hq3)
              have HF3 := Lib.hid ((keeps_bel (B := w.heap.size) HB.out).trans hf3)
              clear hS3 hq3 hf3 ho hm1 hm2 hown' hgrow hat cgo cgo2 ct0
              have cgo3 := S3.out.out.cell
              have cr3 := S3.out.s.u.cell
              have cgr3 := S3.out.res.cell
              have fgr3 := S3.out.res.frozen
              generalize w3.setCell ⟨go, 0, none⟩ _ = w4 at *
              gi_wp2
              exact ⟨keeps_up HF3.out hB0, HQ3.out, acc ++ [t], _, _, by simpa using S3.out, HRUN2.out, by have := HLEN.out; simp; omega⟩
            · skip
              go_simp
              refine hK _ _ ?_
              clear hK K
              refine wpAnyIn_ready (rs := [0, 3]) (by kernel_rfl) (by simp) ?_
              refine AllReadyIn.cons rfl (fun K hK => ?_) (AllReadyIn.cons rfl (fun K hK => ?_) (AllReadyIn.nil))
              · skip
                go_simp
                refine hK _ _ ?_
                clear hK K
                refine wpAnyIn_ready (rs := [3]) (by kernel_rfl) (by simp) ?_
                refine AllReadyIn.cons rfl (fun K hK => ?_) (AllReadyIn.nil)
                go_simp
                refine hK _ _ ?_
                clear hK K
                refine wpAnyIn_ready (rs := [4]) (by kernel_rfl) (by simp) ?_
                refine AllReadyIn.cons rfl (fun K hK => ?_) (AllReadyIn.nil)
                go_simp
                refine hK _ _ ?_
                clear hK K
                refine wpAnyIn_ready (rs := [5]) (by kernel_rfl) (by simp) ?_
                refine AllReadyIn.cons rfl (fun K hK => ?_) (AllReadyIn.nil)
                refine step_append_in_at rfl (.tmp 35) (.tmp 39) 35 rfl (go + 1) 3 i0 (.int .i64 0) 1 8 Try.underlying35 HI0.out HZ0.out HZ1.out HZ2.out rfl (by decide) (.slice A acc.length c) _ _ rfl (S.out.al _).s.own ⟨w2.heap.size, 0, none⟩ 1 1 [.int .i64 t] rfl rfl (cell_one_new _ _ _) (by simp [Value.oneCell']) HACC.out.1 HACC.out.2 (by have := S.out.s.hB; simp; omega) ?_
                intro v' w3 hown' hgrow hat
                obtain ⟨g', cap', rfl⟩ := ownsRow_succ hown'
                obtain ⟨ho, hS3, hq3, hf3⟩ := RI.app (l' := acc ++ [t]) S.out hgrow (by simpa [iv] using hown') (by simpa using hat)
                have hm1 := ho.cell
                have hm2 := ho.frozen
                refine hK _ _ ?_
                clear hK K
                refine wpAnyIn_ready (rs := [6]) (by kernel_rfl) (by simp) ?_
                refine AllReadyIn.cons rfl (fun K hK => ?_) (AllReadyIn.nil)
                go_simp
                refine hK _ _ ?_
                clear hK K
                refine wpAnyIn_done (by kernel_rfl) ?_ _
                have S3 := Lib.hid hS3
                have HQ3 := Lib.hid ((Kq.of_below (gr := gr) n2 HB.out).trans hq3)
                have HF3 := Lib.hid ((keeps_bel (B := w.heap.size) HB.out).trans hf3)
                clear hS3 hq3 hf3 ho hm1 hm2 hown' hgrow hat cgo cgo2 ct0
                have cgo3 := S3.out.out.cell
                have cr3 := S3.out.s.u.cell
                have cgr3 := S3.out.res.cell
                have fgr3 := S3.out.res.frozen
                generalize w3.setCell ⟨go, 0, none⟩ _ = w4 at *
                gi_wp2
                exact ⟨keeps_up HF3.out hB0, HQ3.out, acc ++ [t], _, _, by simpa using S3.out, HRUN2.out, by have := HLEN.out; simp; omega⟩
              · skip
                go_simp
                refine hK _ _ ?_
                clear hK K
                refine wpAnyIn_ready (rs := [0, 4]) (by kernel_rfl) (by simp) ?_
                refine AllReadyIn.cons rfl (fun K hK => ?_) (AllReadyIn.cons rfl (fun K hK => ?_) (AllReadyIn.nil))
                · skip
                  go_simp
                  refine hK _ _ ?_
                  clear hK K
                  refine wpAnyIn_ready (rs := [4]) (by kernel_rfl) (by simp) ?_
                  refine AllReadyIn.cons rfl (fun K hK => ?_) (AllReadyIn.nil)
                  go_simp
                  refine hK _ _ ?_
                  clear hK K
                  refine wpAnyIn_ready (rs := [5]) (by kernel_rfl) (by simp) ?_
                  refine AllReadyIn.cons rfl (fun K hK => ?_) (AllReadyIn.nil)
                  refine step_append_in_at rfl (.tmp 35) (.tmp 39) 35 rfl (go + 1) 3 i0 (.int .i64 0) 1 8 Try.underlying35 HI0.out HZ0.out HZ1.out HZ2.out rfl (by decide) (.slice A acc.length c) _ _ rfl (S.out.al _).s.own ⟨w2.heap.size, 0, none⟩ 1 1 [.int .i64 t] rfl rfl (cell_one_new _ _ _) (by simp [Value.oneCell']) HACC.out.1 HACC.out.2 (by have := S.out.s.hB; simp; omega) ?_
                  intro v' w3 hown' hgrow hat
                  obtain ⟨g', cap', rfl⟩ := ownsRow_succ hown'
                  obtain ⟨ho, hS3, hq3, hf3⟩ := RI.app (l' := acc ++ [t]) S.out hgrow (by simpa [iv] using hown') (by simpa using hat)
                  have hm1 := ho.cell
                  have hm2 := ho.frozen
                  refine hK _ _ ?_
                  clear hK K
                  refine wpAnyIn_ready (rs := [6]) (by kernel_rfl) (by simp) ?_
                  refine AllReadyIn.cons rfl (fun K hK => ?_) (AllReadyIn.nil)
                  go_simp
                  refine hK _ _ ?_
                  clear hK K
                  refine wpAnyIn_done (by kernel_rfl) ?_ _
                  have S3 := Lib.hid hS3
                  have HQ3 := Lib.hid ((Kq.of_below (gr := gr) n2 HB.out).trans hq3)
                  have HF3 := Lib.hid ((keeps_bel (B := w.heap.size) HB.out).trans hf3)
                  clear hS3 hq3 hf3 ho hm1 hm2 hown' hgrow hat cgo cgo2 ct0
                  have cgo3 := S3.out.out.cell
                  have cr3 := S3.out.s.u.cell
                  have cgr3 := S3.out.res.cell
                  have fgr3 := S3.out.res.frozen
                  generalize w3.setCell ⟨go, 0, none⟩ _ = w4 at *
                  gi_wp2
                  exact ⟨keeps_up HF3.out hB0, HQ3.out, acc ++ [t], _, _, by simpa using S3.out, HRUN2.out, by have := HLEN.out; simp; omega⟩
                · skip
                  go_simp
                  refine hK _ _ ?_
                  clear hK K
                  refine wpAnyIn_ready (rs := [0]) (by kernel_rfl) (by simp) ?_
                  refine AllReadyIn.cons rfl (fun K hK => ?_) (AllReadyIn.nil)
                  go_simp
                  refine hK _ _ ?_
                  clear hK K
                  refine wpAnyIn_ready (rs := [5]) (by kernel_rfl) (by simp) ?_
                  refine AllReadyIn.cons rfl (fun K hK => ?_) (AllReadyIn.nil)
                  refine step_append_in_at rfl (.tmp 35) (.tmp 39) 35 rfl (go + 1) 3 i0 (.int .i64 0) 1 8 Try.underlying35 HI0.out HZ0.out HZ1.out HZ2.out rfl (by decide) (.slice A acc.length c) _ _ rfl (S.out.al _).s.own ⟨w2.heap.size, 0, none⟩ 1 1 [.int .i64 t] rfl rfl (cell_one_new _ _ _) (by simp [Value.oneCell']) HACC.out.1 HACC.out.2 (by have := S.out.s.hB; simp; omega) ?_
                  intro v' w3 hown' hgrow hat
                  obtain ⟨g', cap', rfl⟩ := ownsRow_succ hown'
                  obtain ⟨ho, hS3, hq3, hf3⟩ := RI.app (l' := acc ++ [t]) S.out hgrow (by simpa [iv] using hown') (by simpa using hat)
                  have hm1 := ho.cell
                  have hm2 := ho.frozen
                  refine hK _ _ ?_
                  clear hK K
                  refine wpAnyIn_ready (rs := [6]) (by kernel_rfl) (by simp) ?_
                  refine AllReadyIn.cons rfl (fun K hK => ?_) (AllReadyIn.nil)
                  go_simp
                  refine hK _ _ ?_
                  clear hK K
                  refine wpAnyIn_done (by kernel_rfl) ?_ _
                  have S3 := Lib.hid hS3
                  have HQ3 := Lib.hid ((Kq.of_below (gr := gr) n2 HB.out).trans hq3)
                  have HF3 := Lib.hid ((keeps_bel (B := w.heap.size) HB.out).trans hf3)
                  clear hS3 hq3 hf3 ho hm1 hm2 hown' hgrow hat cgo cgo2 ct0
                  have cgo3 := S3.out.out.cell
                  have cr3 := S3.out.s.u.cell
                  have cgr3 := S3.out.res.cell
                  have fgr3 := S3.out.res.frozen
                  generalize w3.setCell ⟨go, 0, none⟩ _ = w4 at *
                  gi_wp2
                  exact ⟨keeps_up HF3.out hB0, HQ3.out, acc ++ [t], _, _, by simpa using S3.out, HRUN2.out, by have := HLEN.out; simp; omega⟩
      · by_cases hut : r.un < t
        · have g1 : decide (r.un < t) = true := by simpa using hut
          have hends : RunEnds z d r ((pre ++ [(⟨n, hn0, hn1⟩ : Day d)]).map (·.1)) acc := by rw [HMAP.out]; exact Run.until HRUN.out (by rw [HDTE.out]; exact HEQ.out) ⟨hh, hut⟩
          have HENDS := Lib.hid hends
          clear hends hut
          refine wpIn_region_bel (open_round l) (by kernel_rfl) (by kernel_rfl) (by kernel_rfl) ?_
          repeat (go_big_quiet_step (fail))
          refine wpQuiet_nil ?_
          rintro _ ⟨s0, rfl⟩
          have T := Lib.hid (S.out.bel s0.below)
          have HB1 := Lib.hid (below_go HB.out s0.below)
          have HR2 := Lib.hid (fun W hb => HR0.out W (below_go s0.below hb))
          clear S HB HR0 sr1 st1
          have S := T
          have HB := HB1
          have HR0 := HR2
          clear T HB1 HR2
          generalize s0.w = w2 at *
          clear s0
          have cgo := S.out.out.cell
          have cgr := S.out.res.cell
          have fgr := S.out.res.frozen
          gi_wp2
          exact ⟨keeps_up ((keeps_bel (B := w.heap.size) HB.out).trans S.out.ret.2) hB0, rfl, acc, A, c, S.out.ret.1, HENDS.out⟩
        · have g1 : decide (r.un < t) = false := by simpa using hut
          refine wpIn_region_bel (open_round l) (by kernel_rfl) (by kernel_rfl) (by kernel_rfl) ?_
          repeat (go_big_quiet_step (fail))
          refine wpQuiet_nil ?_
          rintro _ ⟨s0, rfl⟩
          have T := Lib.hid (S.out.bel s0.below)
          have HB1 := Lib.hid (below_go HB.out s0.below)
          have HR2 := Lib.hid (fun W hb => HR0.out W (below_go s0.below hb))
          clear S HB HR0 sr1 st1
          have S := T
          have HB := HB1
          have HR0 := HR2
          clear T HB1 HR2
          generalize s0.w = w2 at *
          clear s0
          gi_wp2
          have HNU := Lib.hid ((by intro hh; have := hh.2; omega : ¬ (r.hu = true ∧ r.un < t)))
          have hacc : acc.length + 1 ≤ maxLen ∧ (acc.length + 1) * 8 ≤ 140737488355328 := by have := HLEN.out; unfold maxLen; omega
          have HACC := Lib.hid hacc
          have hl1 : ((acc ++ [t]).length : Int) = (acc.length : Int) + 1 := by simp
          have HL1 := Lib.hid hl1
          clear hacc hl1
          by_cases hc : (acc.length : Int) + 1 = r.ct
          · have hends : RunEnds z d r ((pre ++ [(⟨n, hn0, hn1⟩ : Day d)]).map (·.1)) (acc ++ [t]) := by rw [HMAP.out]; exact Run.count HRUN.out (by rw [HDTE.out]; exact HEQ.out) HNU.out (by rw [HL1.out]; exact hc)
            have HENDS := Lib.hid hends
            have g4 : ((acc.length : Int) + 1 == r.ct) = true := by simpa using hc
            clear hends hc
            refine wpIn_region_any (by kernel_rfl) ?_
            change wpAnyIn _ _ _ _ _ _ _ _ _ (World.drew _)
            have T := Lib.hid (S.out.bel (below_drew1 (Below.refl _ _)))
            have HB1 := Lib.hid (below_drew1 HB.out)
            have ct0 : w2.drew.cell? ad1 = some (.int .i64 t) := HR0.out _ (below_drew1 (Below.refl _ _))
            clear S HB HR0
            have S := T
            have HB := HB1
            clear T HB1
            generalize w2.drew = w2 at *
            have cgo := S.out.out.cell
            have cgo2 := fun o => (S.out.al o).out.cell
            refine wpAnyIn_ready (rs := [0, 1]) (by kernel_rfl) (by simp) ?_
            refine AllReadyIn.cons rfl (fun K hK => ?_) (AllReadyIn.cons rfl (fun K hK => ?_) (AllReadyIn.nil))
            · skip
              go_simp
              refine hK _ _ ?_
              clear hK K
              refine wpAnyIn_ready (rs := [1]) (by kernel_rfl) (by simp) ?_
              refine AllReadyIn.cons rfl (fun K hK => ?_) (AllReadyIn.nil)
              go_simp
              refine hK _ _ ?_
              clear hK K
              refine wpAnyIn_ready (rs := [2]) (by kernel_rfl) (by simp) ?_
              refine AllReadyIn.cons rfl (fun K hK => ?_) (AllReadyIn.nil)
              go_simp
              refine hK _ _ ?_
              clear hK K
              refine wpAnyIn_ready (rs := [3]) (by kernel_rfl) (by simp) ?_
              refine AllReadyIn.cons rfl (fun K hK => ?_) (AllReadyIn.nil)
              go_simp
              refine hK _ _ ?_
              clear hK K
              refine wpAnyIn_ready (rs := [4]) (by kernel_rfl) (by simp) ?_
              refine AllReadyIn.cons rfl (fun K hK => ?_) (AllReadyIn.nil)
              go_simp
              refine hK _ _ ?_
              clear hK K
              refine wpAnyIn_ready (rs := [5]) (by kernel_rfl) (by simp) ?_
              refine AllReadyIn.cons rfl (fun K hK => ?_) (AllReadyIn.nil)
              refine step_append_in_at rfl (.tmp 35) (.tmp 39) 35 rfl (go + 1) 3 i0 (.int .i64 0) 1 8 Try.underlying35 HI0.out HZ0.out HZ1.out HZ2.out rfl (by decide) (.slice A acc.length c) _ _ rfl (S.out.al _).s.own ⟨w2.heap.size, 0, none⟩ 1 1 [.int .i64 t] rfl rfl (cell_one_new _ _ _) (by simp [Value.oneCell']) HACC.out.1 HACC.out.2 (by have := S.out.s.hB; simp; omega) ?_
              intro v' w3 hown' hgrow hat
              obtain ⟨g', cap', rfl⟩ := ownsRow_succ hown'
              obtain ⟨ho, hS3, hq3, hf3⟩ := RI.app (l' := acc ++ [t]) S.out hgrow (by simpa [iv] using hown') (by simpa using hat)
              have hm1 := ho.cell
              have hm2 := ho.frozen
              refine hK _ _ ?_
              clear hK K
              refine wpAnyIn_ready (rs := [6]) (by kernel_rfl) (by simp) ?_
              refine AllReadyIn.cons rfl (fun K hK => ?_) (AllReadyIn.nil)
              go_simp
              refine hK _ _ ?_
              clear hK K
              refine wpAnyIn_done (by kernel_rfl) ?_ _
              have S3 := Lib.hid hS3
              have HQ3 := Lib.hid ((Kq.of_below (gr := gr) n2 HB.out).trans hq3)
              have HF3 := Lib.hid ((keeps_bel (B := w.heap.size) HB.out).trans hf3)
              clear hS3 hq3 hf3 ho hm1 hm2 hown' hgrow hat cgo cgo2 ct0
              have cgo3 := S3.out.out.cell
              have cr3 := S3.out.s.u.cell
              have cgr3 := S3.out.res.cell
              have fgr3 := S3.out.res.frozen
              generalize w3.setCell ⟨go, 0, none⟩ _ = w4 at *
              gi_wp2
              exact ⟨keeps_up (HF3.out.trans S3.out.ret.2) hB0, rfl, acc ++ [t], _, _, by simpa using S3.out.ret.1, HENDS.out⟩
            · skip
              go_simp
              refine hK _ _ ?_
              clear hK K
              refine wpAnyIn_ready (rs := [0, 2]) (by kernel_rfl) (by simp) ?_
              refine AllReadyIn.cons rfl (fun K hK => ?_) (AllReadyIn.cons rfl (fun K hK => ?_) (AllReadyIn.nil))
              · skip
                go_simp
                refine hK _ _ ?_
                clear hK K
                refine wpAnyIn_ready (rs := [2]) (by kernel_rfl) (by simp) ?_
                refine AllReadyIn.cons rfl (fun K hK => ?_) (AllReadyIn.nil)
                go_simp
                refine hK _ _ ?_
                clear hK K
                refine wpAnyIn_ready (rs := [3]) (by kernel_rfl) (by simp) ?_
                refine AllReadyIn.cons rfl (fun K hK => ?_) (AllReadyIn.nil)
                go_simp
                refine hK _ _ ?_
                clear hK K
                refine wpAnyIn_ready (rs := [4]) (by kernel_rfl) (by simp) ?_
                refine AllReadyIn.cons rfl (fun K hK => ?_) (AllReadyIn.nil)
                go_simp
                refine hK _ _ ?_
                clear hK K
                refine wpAnyIn_ready (rs := [5]) (by kernel_rfl) (by simp) ?_
                refine AllReadyIn.cons rfl (fun K hK => ?_) (AllReadyIn.nil)
                refine step_append_in_at rfl (.tmp 35) (.tmp 39) 35 rfl (go + 1) 3 i0 (.int .i64 0) 1 8 Try.underlying35 HI0.out HZ0.out HZ1.out HZ2.out rfl (by decide) (.slice A acc.length c) _ _ rfl (S.out.al _).s.own ⟨w2.heap.size, 0, none⟩ 1 1 [.int .i64 t] rfl rfl (cell_one_new _ _ _) (by simp [Value.oneCell']) HACC.out.1 HACC.out.2 (by have := S.out.s.hB; simp; omega) ?_
                intro v' w3 hown' hgrow hat
                obtain ⟨g', cap', rfl⟩ := ownsRow_succ hown'
                obtain ⟨ho, hS3, hq3, hf3⟩ := RI.app (l' := acc ++ [t]) S.out hgrow (by simpa [iv] using hown') (by simpa using hat)
                have hm1 := ho.cell
                have hm2 := ho.frozen
                refine hK _ _ ?_
                clear hK K
                refine wpAnyIn_ready (rs := [6]) (by kernel_rfl) (by simp) ?_
                refine AllReadyIn.cons rfl (fun K hK => ?_) (AllReadyIn.nil)
                go_simp
                refine hK _ _ ?_
                clear hK K
                refine wpAnyIn_done (by kernel_rfl) ?_ _
                have S3 := Lib.hid hS3
                have HQ3 := Lib.hid ((Kq.of_below (gr := gr) n2 HB.out).trans hq3)
                have HF3 := Lib.hid ((keeps_bel (B := w.heap.size) HB.out).trans hf3)
                clear hS3 hq3 hf3 ho hm1 hm2 hown' hgrow hat cgo cgo2 ct0
                have cgo3 := S3.out.out.cell
                have cr3 := S3.out.s.u.cell
                have cgr3 := S3.out.res.cell
                have fgr3 := S3.out.res.frozen
                generalize w3.setCell ⟨go, 0, none⟩ _ = w4 at *
                gi_wp2
                exact ⟨keeps_up (HF3.out.trans S3.out.ret.2) hB0, rfl, acc ++ [t], _, _, by simpa using S3.out.ret.1, HENDS.out⟩
              · skip
                go_simp
                refine hK _ _ ?_
                clear hK K
                refine wpAnyIn_ready (rs := [0, 3]) (by kernel_rfl) (by simp) ?_
                refine AllReadyIn.cons rfl (fun K hK => ?_) (AllReadyIn.cons rfl (fun K hK => ?_) (AllReadyIn.nil))
                · skip
                  go_simp
                  refine hK _ _ ?_
                  clear hK K
                  refine wpAnyIn_ready (rs := [3]) (by kernel_rfl) (by simp) ?_
                  refine AllReadyIn.cons rfl (fun K hK => ?_) (AllReadyIn.nil)
                  go_simp
                  refine hK _ _ ?_
                  clear hK K
                  refine wpAnyIn_ready (rs := [4]) (by kernel_rfl) (by simp) ?_
                  refine AllReadyIn.cons rfl (fun K hK => ?_) (AllReadyIn.nil)
                  go_simp
                  refine hK _ _ ?_
                  clear hK K
                  refine wpAnyIn_ready (rs := [5]) (by kernel_rfl) (by simp) ?_
                  refine AllReadyIn.cons rfl (fun K hK => ?_) (AllReadyIn.nil)
                  refine step_append_in_at rfl (.tmp 35) (.tmp 39) 35 rfl (go + 1) 3 i0 (.int .i64 0) 1 8 Try.underlying35 HI0.out HZ0.out HZ1.out HZ2.out rfl (by decide) (.slice A acc.length c) _ _ rfl (S.out.al _).s.own ⟨w2.heap.size, 0, none⟩ 1 1 [.int .i64 t] rfl rfl (cell_one_new _ _ _) (by simp [Value.oneCell']) HACC.out.1 HACC.out.2 (by have := S.out.s.hB; simp; omega) ?_
                  intro v' w3 hown' hgrow hat
                  obtain ⟨g', cap', rfl⟩ := ownsRow_succ hown'
                  obtain ⟨ho, hS3, hq3, hf3⟩ := RI.app (l' := acc ++ [t]) S.out hgrow (by simpa [iv] using hown') (by simpa using hat)
                  have hm1 := ho.cell
                  have hm2 := ho.frozen
                  refine hK _ _ ?_
                  clear hK K
                  refine wpAnyIn_ready (rs := [6]) (by kernel_rfl) (by simp) ?_
                  refine AllReadyIn.cons rfl (fun K hK => ?_) (AllReadyIn.nil)
                  go_simp
                  refine hK _ _ ?_
                  clear hK K
                  refine wpAnyIn_done (by kernel_rfl) ?_ _
                  have S3 := Lib.hid hS3
                  have HQ3 := Lib.hid ((Kq.of_below (gr := gr) n2 HB.out).trans hq3)
                  have HF3 := Lib.hid ((keeps_bel (B := w.heap.size) HB.out).trans hf3)
                  clear hS3 hq3 hf3 ho hm1 hm2 hown' hgrow hat cgo cgo2 ct0
                  have cgo3 := S3.out.out.cell
                  have cr3 := S3.out.s.u.cell
                  have cgr3 := S3.out.res.cell
                  have fgr3 := S3.out.res.frozen
                  generalize w3.setCell ⟨go, 0, none⟩ _ = w4 at *
                  gi_wp2
                  exact ⟨keeps_up (HF3.out.trans S3.out.ret.2) hB0, rfl, acc ++ [t], _, _, by simpa using S3.out.ret.1, HENDS.out⟩
                · skip
                  go_simp
                  refine hK _ _ ?_
                  clear hK K
                  refine wpAnyIn_ready (rs := [0, 4]) (by kernel_rfl) (by simp) ?_
                  refine AllReadyIn.cons rfl (fun K hK => ?_) (AllReadyIn.cons rfl (fun K hK => ?_) (AllReadyIn.nil))
                  · skip
                    go_simp
                    refine hK _ _ ?_
                    clear hK K
                    refine wpAnyIn_ready (rs := [4]) (by kernel_rfl) (by simp) ?_
                    refine AllReadyIn.cons rfl (fun K hK => ?_) (AllReadyIn.nil)
                    go_simp
                    refine hK _ _ ?_
                    clear hK K
                    refine wpAnyIn_ready (rs := [5]) (by kernel_rfl) (by simp) ?_
                    refine AllReadyIn.cons rfl (fun K hK => ?_) (AllReadyIn.nil)
                    refine step_append_in_at rfl (.tmp 35) (.tmp 39) 35 rfl (go + 1) 3 i0 (.int .i64 0) 1 8 Try.underlying35 HI0.out HZ0.out HZ1.out HZ2.out rfl (by decide) (.slice A acc.length c) _ _ rfl (S.out.al _).s.own ⟨w2.heap.size, 0, none⟩ 1 1 [.int .i64 t] rfl rfl (cell_one_new _ _ _) (by simp [Value.oneCell']) HACC.out.1 HACC.out.2 (by have := S.out.s.hB; simp; omega) ?_
                    intro v' w3 hown' hgrow hat
                    obtain ⟨g', cap', rfl⟩ := ownsRow_succ hown'
                    obtain ⟨ho, hS3, hq3, hf3⟩ := RI.app (l' := acc ++ [t]) S.out hgrow (by simpa [iv] using hown') (by simpa using hat)
                    have hm1 := ho.cell
                    have hm2 := ho.frozen
                    refine hK _ _ ?_
                    clear hK K
                    refine wpAnyIn_ready (rs := [6]) (by kernel_rfl) (by simp) ?_
                    refine AllReadyIn.cons rfl (fun K hK => ?_) (AllReadyIn.nil)
                    go_simp
                    refine hK _ _ ?_
                    clear hK K
                    refine wpAnyIn_done (by kernel_rfl) ?_ _
                    have S3 := Lib.hid hS3
                    have HQ3 := Lib.hid ((Kq.of_below (gr := gr) n2 HB.out).trans hq3)
                    have HF3 := Lib.hid ((keeps_bel (B := w.heap.size) HB.out).trans hf3)
                    clear hS3 hq3 hf3 ho hm1 hm2 hown' hgrow hat cgo cgo2 ct0
                    have cgo3 := S3.out.out.cell
                    have cr3 := S3.out.s.u.cell
                    have cgr3 := S3.out.res.cell
                    have fgr3 := S3.out.res.frozen
                    generalize w3.setCell ⟨go, 0, none⟩ _ = w4 at *
                    gi_wp2
                    exact ⟨keeps_up (HF3.out.trans S3.out.ret.2) hB0, rfl, acc ++ [t], _, _, by simpa using S3.out.ret.1, HENDS.out⟩
                  · skip
                    go_simp
                    refine hK _ _ ?_
                    clear hK K
                    refine wpAnyIn_ready (rs := [0]) (by kernel_rfl) (by simp) ?_
                    refine AllReadyIn.cons rfl (fun K hK => ?_) (AllReadyIn.nil)
                    go_simp
                    refine hK _ _ ?_
                    clear hK K
                    refine wpAnyIn_ready (rs := [5]) (by kernel_rfl) (by simp) ?_
                    refine AllReadyIn.cons rfl (fun K hK => ?_) (AllReadyIn.nil)
                    refine step_append_in_at rfl (.tmp 35) (.tmp 39) 35 rfl (go + 1) 3 i0 (.int .i64 0) 1 8 Try.underlying35 HI0.out HZ0.out HZ1.out HZ2.out rfl (by decide) (.slice A acc.length c) _ _ rfl (S.out.al _).s.own ⟨w2.heap.size, 0, none⟩ 1 1 [.int .i64 t] rfl rfl (cell_one_new _ _ _) (by simp [Value.oneCell']) HACC.out.1 HACC.out.2 (by have := S.out.s.hB; simp; omega) ?_
                    intro v' w3 hown' hgrow hat
                    obtain ⟨g', cap', rfl⟩ := ownsRow_succ hown'
                    obtain ⟨ho, hS3, hq3, hf3⟩ := RI.app (l' := acc ++ [t]) S.out hgrow (by simpa [iv] using hown') (by simpa using hat)
                    have hm1 := ho.cell
                    have hm2 := ho.frozen
                    refine hK _ _ ?_
                    clear hK K
                    refine wpAnyIn_ready (rs := [6]) (by kernel_rfl) (by simp) ?_
                    refine AllReadyIn.cons rfl (fun K hK => ?_) (AllReadyIn.nil)
                    go_simp
                    refine hK _ _ ?_
                    clear hK K
                    refine wpAnyIn_done (by kernel_rfl) ?_ _
                    have S3 := Lib.hid hS3
                    have HQ3 := Lib.hid ((Kq.of_below (gr := gr) n2 HB.out).trans hq3)
                    have HF3 := Lib.hid ((keeps_bel (B := w.heap.size) HB.out).trans hf3)
                    clear hS3 hq3 hf3 ho hm1 hm2 hown' hgrow hat cgo cgo2 ct0
                    have cgo3 := S3.out.out.cell
                    have cr3 := S3.out.s.u.cell
                    have cgr3 := S3.out.res.cell
                    have fgr3 := S3.out.res.frozen
                    generalize w3.setCell ⟨go, 0, none⟩ _ = w4 at *
                    gi_wp2
                    exact ⟨keeps_up (HF3.out.trans S3.out.ret.2) hB0, rfl, acc ++ [t], _, _, by simpa using S3.out.ret.1, HENDS.out⟩
          · have hrun2 : Run z d r ((pre ++ [(⟨n, hn0, hn1⟩ : Day d)]).map (·.1)) (acc ++ [t]) := by rw [HMAP.out]; exact Run.app HRUN.out (by rw [HDTE.out]; exact HEQ.out) HNU.out (by rw [HL1.out]; exact hc)
            have HRUN2 := Lib.hid hrun2
            have g4 : ((acc.length : Int) + 1 == r.ct) = false := by simpa using hc
            clear hrun2 hc
            refine wpIn_region_any (by kernel_rfl) ?_
            change wpAnyIn _ _ _ _ _ _ _ _ _ (World.drew _)
            have T := Lib.hid (S.out.bel (below_drew1 (Below.refl _ _)))
            have HB1 := Lib.hid (below_drew1 HB.out)
            have ct0 : w2.drew.cell? ad1 = some (.int .i64 t) := HR0.out _ (below_drew1 (Below.refl _ _))
            clear S HB HR0
            have S := T
            have HB := HB1
            clear T HB1
            generalize w2.drew = w2 at *
            have cgo := S.out.out.cell
            have cgo2 := fun o => (S.out.al o).out.cell
            refine wpAnyIn_ready (rs := [0, 1]) (by kernel_rfl) (by simp) ?_
            refine AllReadyIn.cons rfl (fun K hK => ?_) (AllReadyIn.cons rfl (fun K hK => ?_) (AllReadyIn.nil))
            · skip
              go_simp
              refine hK _ _ ?_
              clear hK K
              refine wpAnyIn_ready (rs := [1]) (by kernel_rfl) (by simp) ?_
              refine AllReadyIn.cons rfl (fun K hK => ?_) (AllReadyIn.nil)
              go_simp
              refine hK _ _ ?_
              clear hK K
              refine wpAnyIn_ready (rs := [2]) (by kernel_rfl) (by simp) ?_
              refine AllReadyIn.cons rfl (fun K hK => ?_) (AllReadyIn.nil)
              go_simp
              refine hK _ _ ?_
              clear hK K
              refine wpAnyIn_ready (rs := [3]) (by kernel_rfl) (by simp) ?_
              refine AllReadyIn.cons rfl (fun K hK => ?_) (AllReadyIn.nil)
              go_simp
              refine hK _ _ ?_
              clear hK K
              refine wpAnyIn_ready (rs := [4]) (by kernel_rfl) (by simp) ?_
              refine AllReadyIn.cons rfl (fun K hK => ?_) (AllReadyIn.nil)
              go_simp
              refine hK _ _ ?_
              clear hK K
              refine wpAnyIn_ready (rs := [5]) (by kernel_rfl) (by simp) ?_
              refine AllReadyIn.cons rfl (fun K hK => ?_) (AllReadyIn.nil)
              refine step_append_in_at rfl (.tmp 35) (.tmp 39) 35 rfl (go + 1) 3 i0 (.int .i64 0) 1 8 Try.underlying35 HI0.out HZ0.out HZ1.out HZ2.out rfl (by decide) (.slice A acc.length c) _ _ rfl (S.out.al _).s.own ⟨w2.heap.size, 0, none⟩ 1 1 [.int .i64 t] rfl rfl (cell_one_new _ _ _) (by simp [Value.oneCell']) HACC.out.1 HACC.out.2 (by have := S.out.s.hB; simp; omega) ?_
              intro v' w3 hown' hgrow hat
              obtain ⟨g', cap', rfl⟩ := ownsRow_succ hown'
              obtain ⟨ho, hS3, hq3, hf3⟩ := RI.app (l' := acc ++ [t]) S.out hgrow (by simpa [iv] using hown') (by simpa using hat)
              have hm1 := ho.cell
              have hm2 := ho.frozen
              refine hK _ _ ?_
              clear hK K
              refine wpAnyIn_ready (rs := [6]) (by kernel_rfl) (by simp) ?_
              refine AllReadyIn.cons rfl (fun K hK => ?_) (AllReadyIn.nil)
              go_simp
              refine hK _ _ ?_
              clear hK K
              refine wpAnyIn_done (by kernel_rfl) ?_ _
              have S3 := Lib.hid hS3
              have HQ3 := Lib.hid ((Kq.of_below (gr := gr) n2 HB.out).trans hq3)
              have HF3 := Lib.hid ((keeps_bel (B := w.heap.size) HB.out).trans hf3)
              clear hS3 hq3 hf3 ho hm1 hm2 hown' hgrow hat cgo cgo2 ct0
              have cgo3 := S3.out.out.cell
              have cr3 := S3.out.s.u.cell
              have cgr3 := S3.out.res.cell
              have fgr3 := S3.out.res.frozen
              generalize w3.setCell ⟨go, 0, none⟩ _ = w4 at *
              gi_wp2
              exact ⟨keeps_up HF3.out hB0, HQ3.out, acc ++ [t], _, _, by simpa using S3.out, HRUN2.out, by have := HLEN.out; simp; omega⟩
            · skip
              go_simp
              refine hK _ _ ?_
              clear hK K
              refine wpAnyIn_ready (rs := [0, 2]) (by kernel_rfl) (by simp) ?_
              refine AllReadyIn.cons rfl (fun K hK => ?_) (AllReadyIn.cons rfl (fun K hK => ?_) (AllReadyIn.nil))
              · skip
                go_simp
                refine hK _ _ ?_
                clear hK K
                refine wpAnyIn_ready (rs := [2]) (by kernel_rfl) (by simp) ?_
                refine AllReadyIn.cons rfl (fun K hK => ?_) (AllReadyIn.nil)
                go_simp
                refine hK _ _ ?_
                clear hK K
                refine wpAnyIn_ready (rs := [3]) (by kernel_rfl) (by simp) ?_
                refine AllReadyIn.cons rfl (fun K hK => ?_) (AllReadyIn.nil)
                go_simp
                refine hK _ _ ?_
                clear hK K
                refine wpAnyIn_ready (rs := [4]) (by kernel_rfl) (by simp) ?_
                refine AllReadyIn.cons rfl (fun K hK => ?_) (AllReadyIn.nil)
                go_simp
                refine hK _ _ ?_
                clear hK K
                refine wpAnyIn_ready (rs := [5]) (by kernel_rfl) (by simp) ?_
                refine AllReadyIn.cons rfl (fun K hK => ?_) (AllReadyIn.nil)
                refine step_append_in_at rfl (.tmp 35) (.tmp 39) 35 rfl (go + 1) 3 i0 (.int .i64 0) 1 8 Try.underlying35 HI0.out HZ0.out HZ1.out HZ2.out rfl (by decide) (.slice A acc.length c) _ _ rfl (S.out.al _).s.own ⟨w2.heap.size, 0, none⟩ 1 1 [.int .i64 t] rfl rfl (cell_one_new _ _ _) (by simp [Value.oneCell']) HACC.out.1 HACC.out.2 (by have := S.out.s.hB; simp; omega) ?_
                intro v' w3 hown' hgrow hat
                obtain ⟨g', cap', rfl⟩ := ownsRow_succ hown'
                obtain ⟨ho, hS3, hq3, hf3⟩ := RI.app (l' := acc ++ [t]) S.out hgrow (by simpa [iv] using hown') (by simpa using hat)
                have hm1 := ho.cell
                have hm2 := ho.frozen
                refine hK _ _ ?_
                clear hK K
                refine wpAnyIn_ready (rs := [6]) (by kernel_rfl) (by simp) ?_
                refine AllReadyIn.cons rfl (fun K hK => ?_) (AllReadyIn.nil)
                go_simp
                refine hK _ _ ?_
                clear hK K
                refine wpAnyIn_done (by kernel_rfl) ?_ _
                have S3 := Lib.hid hS3
                have HQ3 := Lib.hid ((Kq.of_below (gr := gr) n2 HB.out).trans hq3)
                have HF3 := Lib.hid ((keeps_bel (B := w.heap.size) HB.out).trans hf3)
                clear hS3 hq3 hf3 ho hm1 hm2 hown' hgrow hat cgo cgo2 ct0
                have cgo3 := S3.out.out.cell
                have cr3 := S3.out.s.u.cell
                have cgr3 := S3.out.res.cell
                have fgr3 := S3.out.res.frozen
                generalize w3.setCell ⟨go, 0, none⟩ _ = w4 at *
                gi_wp2
                exact ⟨keeps_up HF3.out hB0, HQ3.out, acc ++ [t], _, _, by simpa using S3.out, HRUN2.out, by have := HLEN.out; simp; omega⟩
              · skip
                go_simp
                refine hK _ _ ?_
                clear hK K
                refine wpAnyIn_ready (rs := [0, 3]) (by kernel_rfl) (by simp) ?_
                refine AllReadyIn.cons rfl (fun K hK => ?_) (AllReadyIn.cons rfl (fun K hK => ?_) (AllReadyIn.nil))
                · skip
                  go_simp
                  refine hK _ _ ?_
                  clear hK K
                  refine wpAnyIn_ready (rs := [3]) (by kernel_rfl) (by simp) ?_
                  refine AllReadyIn.cons rfl (fun K hK => ?_) (AllReadyIn.nil)
                  go_simp
                  refine hK _ _ ?_
                  clear hK K
                  refine wpAnyIn_ready (rs := [4]) (by kernel_rfl) (by simp) ?_
                  refine AllReadyIn.cons rfl (fun K hK => ?_) (AllReadyIn.nil)
                  go_simp
                  refine hK _ _ ?_
                  clear hK K
                  refine wpAnyIn_ready (rs := [5]) (by kernel_rfl) (by simp) ?_
                  refine AllReadyIn.cons rfl (fun K hK => ?_) (AllReadyIn.nil)
                  refine step_append_in_at rfl (.tmp 35) (.tmp 39) 35 rfl (go + 1) 3 i0 (.int .i64 0) 1 8 Try.underlying35 HI0.out HZ0.out HZ1.out HZ2.out rfl (by decide) (.slice A acc.length c) _ _ rfl (S.out.al _).s.own ⟨w2.heap.size, 0, none⟩ 1 1 [.int .i64 t] rfl rfl (cell_one_new _ _ _) (by simp [Value.oneCell']) HACC.out.1 HACC.out.2 (by have := S.out.s.hB; simp; omega) ?_
                  intro v' w3 hown' hgrow hat
                  obtain ⟨g', cap', rfl⟩ := ownsRow_succ hown'
                  obtain ⟨ho, hS3, hq3, hf3⟩ := RI.app (l' := acc ++ [t]) S.out hgrow (by simpa [iv] using hown') (by simpa using hat)
                  have hm1 := ho.cell
                  have hm2 := ho.frozen
                  refine hK _ _ ?_
                  clear hK K
                  refine wpAnyIn_ready (rs := [6]) (by kernel_rfl) (by simp) ?_
                  refine AllReadyIn.cons rfl (fun K hK => ?_) (AllReadyIn.nil)
                  go_simp
                  refine hK _ _ ?_
                  clear hK K
                  refine wpAnyIn_done (by kernel_rfl) ?_ _
                  have S3 := Lib.hid hS3
                  have HQ3 := Lib.hid ((Kq.of_below (gr := gr) n2 HB.out).trans hq3)
                  have HF3 := Lib.hid ((keeps_bel (B := w.heap.size) HB.out).trans hf3)
                  clear hS3 hq3 hf3 ho hm1 hm2 hown' hgrow hat cgo cgo2 ct0
                  have cgo3 := S3.out.out.cell
                  have cr3 := S3.out.s.u.cell
                  have cgr3 := S3.out.res.cell
                  have fgr3 := S3.out.res.frozen
                  generalize w3.setCell ⟨go, 0, none⟩ _ = w4 at *
                  gi_wp2
                  exact ⟨keeps_up HF3.out hB0, HQ3.out, acc ++ [t], _, _, by simpa using S3.out, HRUN2.out, by have := HLEN.out; simp; omega⟩
                · skip
                  go_simp
                  refine hK _ _ ?_
                  clear hK K
                  refine wpAnyIn_ready (rs := [0, 4]) (by kernel_rfl) (by simp) ?_
                  refine AllReadyIn.cons rfl (fun K hK => ?_) (AllReadyIn.cons rfl (fun K hK => ?_) (AllReadyIn.nil))
                  · skip
                    go_simp
                    refine hK _ _ ?_
                    clear hK K
                    refine wpAnyIn_ready (rs := [4]) (by kernel_rfl) (by simp) ?_
                    refine AllReadyIn.cons rfl (fun K hK => ?_) (AllReadyIn.nil)
                    go_simp
                    refine hK _ _ ?_
                    clear hK K
                    refine wpAnyIn_ready (rs := [5]) (by kernel_rfl) (by simp) ?_
                    refine AllReadyIn.cons rfl (fun K hK => ?_) (AllReadyIn.nil)
                    refine step_append_in_at rfl (.tmp 35) (.tmp 39) 35 rfl (go + 1) 3 i0 (.int .i64 0) 1 8 Try.underlying35 HI0.out HZ0.out HZ1.out HZ2.out rfl (by decide) (.slice A acc.length c) _ _ rfl (S.out.al _).s.own ⟨w2.heap.size, 0, none⟩ 1 1 [.int .i64 t] rfl rfl (cell_one_new _ _ _) (by simp [Value.oneCell']) HACC.out.1 HACC.out.2 (by have := S.out.s.hB; simp; omega) ?_
                    intro v' w3 hown' hgrow hat
                    obtain ⟨g', cap', rfl⟩ := ownsRow_succ hown'
                    obtain ⟨ho, hS3, hq3, hf3⟩ := RI.app (l' := acc ++ [t]) S.out hgrow (by simpa [iv] using hown') (by simpa using hat)
                    have hm1 := ho.cell
                    have hm2 := ho.frozen
                    refine hK _ _ ?_
                    clear hK K
                    refine wpAnyIn_ready (rs := [6]) (by kernel_rfl) (by simp) ?_
                    refine AllReadyIn.cons rfl (fun K hK => ?_) (AllReadyIn.nil)
                    go_simp
                    refine hK _ _ ?_
                    clear hK K
                    refine wpAnyIn_done (by kernel_rfl) ?_ _
                    have S3 := Lib.hid hS3
                    have HQ3 := Lib.hid ((Kq.of_below (gr := gr) n2 HB.out).trans hq3)
                    have HF3 := Lib.hid ((keeps_bel (B := w.heap.size) HB.out).trans hf3)
                    clear hS3 hq3 hf3 ho hm1 hm2 hown' hgrow hat cgo cgo2 ct0
                    have cgo3 := S3.out.out.cell
                    have cr3 := S3.out.s.u.cell
                    have cgr3 := S3.out.res.cell
                    have fgr3 := S3.out.res.frozen
                    generalize w3.setCell ⟨go, 0, none⟩ _ = w4 at *
                    gi_wp2
                    exact ⟨keeps_up HF3.out hB0, HQ3.out, acc ++ [t], _, _, by simpa using S3.out, HRUN2.out, by have := HLEN.out; simp; omega⟩
                  · skip
                    go_simp
                    refine hK _ _ ?_
                    clear hK K
                    refine wpAnyIn_ready (rs := [0]) (by kernel_rfl) (by simp) ?_
                    refine AllReadyIn.cons rfl (fun K hK => ?_) (AllReadyIn.nil)
                    go_simp
                    refine hK _ _ ?_
                    clear hK K
                    refine wpAnyIn_ready (rs := [5]) (by kernel_rfl) (by simp) ?_
                    refine AllReadyIn.cons rfl (fun K hK => ?_) (AllReadyIn.nil)
                    refine step_append_in_at rfl (.tmp 35) (.tmp 39) 35 rfl (go + 1) 3 i0 (.int .i64 0) 1 8 Try.underlying35 HI0.out HZ0.out HZ1.out HZ2.out rfl (by decide) (.slice A acc.length c) _ _ rfl (S.out.al _).s.own ⟨w2.heap.size, 0, none⟩ 1 1 [.int .i64 t] rfl rfl (cell_one_new _ _ _) (by simp [Value.oneCell']) HACC.out.1 HACC.out.2 (by have := S.out.s.hB; simp; omega) ?_
                    intro v' w3 hown' hgrow hat
                    obtain ⟨g', cap', rfl⟩ := ownsRow_succ hown'
                    obtain ⟨ho, hS3, hq3, hf3⟩ := RI.app (l' := acc ++ [t]) S.out hgrow (by simpa [iv] using hown') (by simpa using hat)
                    have hm1 := ho.cell
                    have hm2 := ho.frozen
                    refine hK _ _ ?_
                    clear hK K
                    refine wpAnyIn_ready (rs := [6]) (by kernel_rfl) (by simp) ?_
                    refine AllReadyIn.cons rfl (fun K hK => ?_) (AllReadyIn.nil)
                    go_simp
                    refine hK _ _ ?_
                    clear hK K
                    refine wpAnyIn_done (by kernel_rfl) ?_ _
                    have S3 := Lib.hid hS3
                    have HQ3 := Lib.hid ((Kq.of_below (gr := gr) n2 HB.out).trans hq3)
                    have HF3 := Lib.hid ((keeps_bel (B := w.heap.size) HB.out).trans hf3)
                    clear hS3 hq3 hf3 ho hm1 hm2 hown' hgrow hat cgo cgo2 ct0
                    have cgo3 := S3.out.out.cell
                    have cr3 := S3.out.s.u.cell
                    have cgr3 := S3.out.res.cell
                    have fgr3 := S3.out.res.frozen
                    generalize w3.setCell ⟨go, 0, none⟩ _ = w4 at *
                    gi_wp2
                    exact ⟨keeps_up HF3.out hB0, HQ3.out, acc ++ [t], _, _, by simpa using S3.out, HRUN2.out, by have := HLEN.out; simp; omega⟩
  case done =>
    rintro D ys W hD hys ⟨acc, A, c, hI, hrun, hlen⟩ hK
    have hL := hFin acc ys hys hrun
    subst hL
    have cgo := hI.out.cell
    have fgr := hI.res.frozen
    have cgr := hI.res.cell
    gi_wp2
    have hI2 := hI.ret.1
    have hK2 := hI.ret.2.same D _ (Nat.le_trans hB0 hD) hK rfl
    refine ⟨by simp, .inl ⟨_, _, rfl, run_takeDeferred hK2, ?_⟩⟩
    have S2 := hI2.abides (grownBy_putObj' _ D (.deferred none)) (fun r e => by cases e; exact ⟨Nat.le_trans hB0 hD, _, hK2, rfl⟩)
    have hc5 := S2.res.cell 0
    refine ⟨.slice A L.length c, ?_, A, c, rfl, own_mono S2.s.own (by omega), S2.s.b⟩
    simp [results, Try.f57, go_sem, hc5]
  case stop =>
    rintro D c0 pre W hD hpre ⟨rfl, acc, A, c, hI, hends⟩ hK
    have hL := hEnd acc pre hpre hends
    subst hL
    gi_wp2
    have hI2 := hI
    have hK2 := hK
    refine ⟨by simp, .inl ⟨_, _, rfl, run_takeDeferred hK2, ?_⟩⟩
    have S2 := hI2.abides (grownBy_putObj' _ D (.deferred none)) (fun r e => by cases e; exact ⟨Nat.le_trans hB0 hD, _, hK2, rfl⟩)
    have hc5 := S2.res.cell 0
    refine ⟨.slice A L.length c, ?_, A, c, rfl, own_mono S2.s.own (by omega), S2.s.b⟩
    simp [results, Try.f57, go_sem, hc5]
end Go.Proofs.Ytnjplichhkmmhaa.CalW
