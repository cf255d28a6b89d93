import Derived.Test.YtnjplichhkmmhaaMn
import Derived.StillTail
import Derived.Test.YtnjplichhkmmhaaRecW14
/- A region that draws its order: operations that read or whose callees make memory come first, in whatever order; what is left has one order. -/
namespace Go.Proofs.Ytnjplichhkmmhaa.Base
open Go.RowKit Go.Shelf
set_option linter.unusedVariables false
set_option linter.unusedSimpArgs false
section
variable {P : Program} {ops : Array Oper} {md : Region.Mode} {C : World → Prop} {n : Nat} {L : Act → Prop}
/-- f operations below n are still to come, each quiet; behind them the rest has one order, and L holds. -/
def HeadQ (P : Program) (md : Region.Mode) (ops : Array Oper) (C : World → Prop) (n : Nat) (L : Act → Prop) : Nat → Array Bool → Act → Prop
  | 0, ls, a => Region.seqB md ops (ops.size - n) n ls = true ∧ L a
  | f + 1, ls, a => Region.ready md ops ls ≠ [] ∧ ∀ i ∈ Region.ready md ops ls, i < n ∧ qOp P ops C i (HeadQ P md ops C n L f (ls.setIfInBounds i true)) a
/-- nothing that still may come up is entangled with operation i. -/
def FreeOf (md : Region.Mode) (ops : Array Oper) (ls : Array Bool) (i : Nat) (oi : Oper) : Prop :=
  ∀ j oj, ops[j]? = some oj → j ≠ i → ls.getD j true = false → (∀ e ∈ oj.after, Region.binds md e = true → e.on ≠ i) → oi.apart ops oj = true
theorem FreeOf.less {ls : Array Bool} {i j : Nat} {oi : Oper} (h : FreeOf md ops ls i oi) (hj : ls.getD j true = false) : FreeOf md ops (ls.setIfInBounds j true) i oi := fun k ok hk hki hun hno => by
  refine h k ok hk hki ?_ hno
  by_cases hjk : j = k
  · subst hjk; exact hj
  · rwa [getD_set_ne true hjk] at hun
/-- what may come up is not listed, and waits for nothing that is not. -/
theorem ready_waits {ls : Array Bool} {i j : Nat} (hi : i ∈ Region.ready md ops ls) (hj : j ∈ Region.ready md ops ls) {oj : Oper} (ho : ops[j]? = some oj) : ls.getD j true = false ∧ ∀ e ∈ oj.after, Region.binds md e = true → e.on ≠ i := by
  obtain ⟨hun, oj', ho', hall⟩ := mem_ready.1 hj
  have : oj' = oj := Option.some.inj (ho'.symm.trans ho)
  subst this
  refine ⟨hun, fun e he hb heq => ?_⟩
  have h1 := hall e he hb
  rw [heq, getD_both (mem_ready.1 hi).1] at h1
  cases h1
theorem HeadQ.first {i : Nat} {oi : Oper} {v : Value} (hi : ops[i]? = some oi) (hsel : ∀ (j : Nat) (o : Oper) cs b, ops[j]? = some o → o.op ≠ .select cs b)
    (hs : Region.sinkB md ops n = true) (hc : Region.chainB md ops n = true) (hn : n < ops.size) (hin : i < n) : ∀ (f : Nat) (ls : Array Bool) (a : Act), HeadInv md ops n ls → FreeOf md ops ls i oi → i ∈ Region.ready md ops ls → YieldsIn P ops C oi v a →
      HeadQ P md ops C n L f (ls.setIfInBounds i true) (a.put oi.dst v) → HeadQ P md ops C n L (f + 1) ls a
  | f, ls, a, inv, hf, hr, hy, H => by
    have hlow : ∀ j ∈ Region.ready md ops ls, j < n := fun j hj => Nat.lt_of_not_ge fun hge => tail_waits hs hc hn inv _ i rfl hin (mem_ready.1 hr).1 j hge hj
    refine ⟨fun h => (by rw [h] at hr; cases hr), fun j hj => ⟨hlow j hj, ?_⟩⟩
    by_cases hji : j = i
    · subst hji
      exact hy.qOp hi H
    · obtain ⟨_, oj, hoj, _⟩ := mem_ready.1 hj
      obtain ⟨hun, hno⟩ := ready_waits hr hj hoj
      cases f with
      | zero => exact absurd (seqB_ready H.1 j (ready_mono hj hji)) (Nat.not_le_of_lt (hlow j hj))
      | succ f =>
        have h2 := qOp_put hoj (hf j oj hoj hji hun hno) (fun cs b => hsel i oi cs b hi) (fun cs b => hsel j oj cs b hoj) hy (H.2 j (ready_mono hj hji)).2
        refine qOp_mono (fun a' h3 => ?_) h2
        refine HeadQ.first hi hsel hs hc hn hin f (ls.setIfInBounds j true) a' (inv.set hj (hlow j hj)) (hf.less hun) (ready_mono hr (Ne.symm hji)) h3.1 ?_
        rw [Array.setIfInBounds_comm _ _ hji]
        exact h3.2
theorem HeadQ.lex (hsel : Region.noSelect ops = true) (hs : Region.sinkB md ops n = true) (hc : Region.chainB md ops n = true) (hn : n < ops.size) : ∀ (l : List Oper) (k : Nat) (ls : Array Bool) (a : Act), (∀ j, j < l.length → l[j]? = ops[k + j]?) → k + l.length = n → HeadInv md ops n ls →
    Region.lexHead md ops (ops.size - n) l.length k ls = true → wpQuiet P ops C L l a → HeadQ P md ops C n L l.length ls a
  | [], k, ls, a, _, hk, _, hB, h => by
    have : k = n := by simpa using hk
    subst this
    exact ⟨by simpa [Region.lexHead] using hB, h⟩
  | o :: l, k, ls, a, hl, hk, inv, hB, h => by
    have h0 : ops[k]? = some o := by simpa using (hl 0 (by simp)).symm
    simp only [List.length_cons, Region.lexHead, Bool.and_eq_true] at hB
    obtain ⟨⟨hr, hf⟩, hB'⟩ := hB
    have hr' : k ∈ Region.ready md ops ls := by simpa using hr
    have hkn : k < n := by simp only [List.length_cons] at hk; omega
    have hq : qOp P ops C k (wpQuiet P ops C L l) a := by
      unfold qOp
      simp only [h0]
      exact h
    obtain ⟨v, hy, hK⟩ := yieldsIn_of_qOp h0 hq
    refine HeadQ.first h0 (Region.noSelect_spec hsel) hs hc hn hkn l.length ls a inv (Region.free_spec h0 hf) hr' hy ?_
    exact HeadQ.lex hsel hs hc hn l (k + 1) _ _ (fun j hj => by have := hl (j + 1) (by simp; omega); simpa [Nat.add_assoc, Nat.add_comm 1 j] using this) (by simp only [List.length_cons] at hk; omega) (inv.set hr' hkn) hB' hK
variable {F : Fence} {m : Nat} {Q : Exit → Act → World → Prop}
theorem wpAnyIn_of_head (hF : Open F) (hd : noDefer ops = true) {g : Nat} (hL : ∀ ls a w, C w → Region.seqB md ops (ops.size - n) n ls = true → L a → wpAnyIn F m P md ops Q g ls a w) : ∀ (f : Nat) (ls : Array Bool) (a : Act) (w : World), C w → HeadQ P md ops C n L f ls a → wpAnyIn F m P md ops Q (f + g) ls a w
  | 0, ls, a, w, hw, h => by rw [Nat.zero_add]; exact hL _ _ _ hw h.1 h.2
  | f + 1, ls, a, w, hw, h => by
    rw [show f + 1 + g = (f + g) + 1 by omega]
    exact ⟨fun h0 => absurd h0 h.1, fun i hi => wpOpIn_of_qOp hF hd hw (fun a' w' hw' h' => wpAnyIn_of_head hF hd hL f _ a' w' hw' h') (h.2 i hi).2⟩
theorem wpAnyIn_of_seq : ∀ (l : List Oper) (k : Nat) (ls : Array Bool) (a : Act) (w : World), (∀ j, l[j]? = ops[k + j]?) → Region.seqB md ops l.length k ls = true → wpListIn F m P ops Q l a w → wpAnyIn F m P md ops Q l.length ls a w
  | [], _, _, _, _, _, hB, h => ⟨by simpa [Region.seqB] using hB, h⟩
  | o :: l, k, ls, a, w, hl, hB, h => by
    have h0 : ops[k]? = some o := by simpa using (hl 0).symm
    simp only [List.length_cons, Region.seqB, Bool.and_eq_true, decide_eq_true_eq] at hB
    refine ⟨fun h1 => (by rw [hB.1] at h1; cases h1), fun i hi => ?_⟩
    rw [hB.1] at hi
    have hik : i = k := by simpa using hi
    subst hik
    have IH := fun a' w' (h' : wpListIn F m P ops Q l a' w') => wpAnyIn_of_seq l (i + 1) (ls.setIfInBounds i true) a' w' (fun j => by have := hl (j + 1); simpa [Nat.add_assoc, Nat.add_comm 1 j] using this) hB.2 h'
    unfold wpOpIn
    simp only [h0]
    unfold wpListIn at h
    split
    · rename_i hw
      rw [if_pos hw] at h
      exact Oper.wpIn_mono IH h
    · rename_i hw
      rw [if_neg hw] at h
      exact ⟨h.1, IH _ _ h.2⟩
/-- the first k operations read, or call functions that make memory; the rest comes in one order. -/
theorem wpIn_region_head {id : Nat} {a : Act} {w : World} {l : List Oper} (k : Nat) (hF : Open F) (hm : P.follows .mixedOrders = true) (hd : noDefer l.toArray = true) (hB : Region.lexTailB .any l.toArray k = true)
    (h : wpQuiet P l.toArray (fun w' => ∃ s : Bel w, w' = s.w) (fun a' => ∀ s : Bel w, wpListIn F m P l.toArray Q (l.drop k) a' s.w) (l.take k) a) : (Code.region id l.toArray true).wpIn F m P Q a w := by
  simp only [Region.lexTailB, Bool.and_eq_true, decide_eq_true_eq] at hB
  obtain ⟨⟨⟨⟨hsel, hn⟩, hs⟩, hc⟩, hlex⟩ := hB
  have hk : k < l.length := by simpa using hn
  have htl : (l.take k).length = k := by simp; omega
  have hdl : (l.drop k).length = l.toArray.size - k := by simp
  have inv0 : HeadInv .any l.toArray k (Array.replicate l.toArray.size false) :=
    ⟨by simp, fun j oj _ hl => (by rw [getD_replicate_false] at hl; cases hl), fun t _ ht => getD_in (by simpa using ht) (getD_replicate_false _ _)⟩
  have H := HeadQ.lex (md := .any) hsel hs hc hn (l.take k) 0 _ a (fun j hj => by
    have hj' : j < k := by rw [htl] at hj; exact hj
    simp [hj']) (by simpa using htl) inv0 (by rw [htl]; exact hlex) h
  refine wpIn_region_any hm ?_
  have key := wpAnyIn_of_head (Q := Q) (m := m) (g := l.toArray.size - k) hF hd (fun ls a' w' hw hq hL => by
    obtain ⟨s, rfl⟩ := hw
    have := wpAnyIn_of_seq (md := .any) (Q := Q) (F := F) (m := m) (P := P) (ops := l.toArray) (l.drop k) k ls a' s.w (fun j => by simp [List.getElem?_drop]) (by rw [hdl]; exact hq) (hL s)
    rwa [hdl] at this) _ _ a { w with drawn := w.drawn + 1 } ⟨Bel.mk' w.drew (below_drew1 (Below.refl _ _)), rfl⟩ H
  rw [htl, show k + (l.toArray.size - k) = l.toArray.size by omega] at key
  exact key
end
end Go.Proofs.Ytnjplichhkmmhaa.Base
/- Walks: recur.days and the iterator that it hands back. -/
namespace Go.Proofs.Ytnjplichhkmmhaa.CalW
open Go.RowKit Go.Shelf Go.Proofs.Ytnjplichhkmmhaa.Base Go.Proofs.Ytnjplichhkmmhaa.Cal
set_option linter.unusedVariables false
set_option linter.unusedSimpArgs false
/-- the iterator's value: it has captured the recurrence, the first day and the start. -/
abbrev daysV (g : Nat) : Value := .func (.func 82) #[] #[.pointer (some ⟨g + 1, 0, none⟩), .pointer (some ⟨g + 1 + 1, 0, none⟩), .pointer (some ⟨g, 0, none⟩)]
set_option maxHeartbeats 1000000 in
set_option maxRecDepth 20000 in
theorem days_calls' (d : Date) (r : Rule) (sr : RS) (w : World) (F : FirstOk d) :
    Calls Try.prog 72 #[dval d, rval r sr] w fun e w' => e = .returned (daysV w.heap.size) ∧ w' = ((w.alloc (.cells (dcells d) 34)).alloc (.cells (rcells r sr) 49)).alloc (.cells #[.int .i64 (firstD d)] 3) := by
  have hD : ∀ W, Calls Try.prog 78 #[.int .i64 d.y, .int .i64 d.mo, .int .i64 d.d] W fun e w' => e = .returned (.int .i64 (firstD d)) ∧ W = w' := fun W => days_calls d.y d.mo d.d W (by have := F.y0; omega) (by have := F.y1; omega) F.m0 F.m1 (by have := F.d0; omega) (by have := F.d1; have := mlen_bd d.y d.mo; omega)
  have HD := Lib.hid hD
  clear hD F
  have hu34 := Try.underlying34
  go_enter Try.func72, Try.ntmps72
  have cd := ((Bk.new w 34 (dcells d)).al (.cells (rcells r sr) 49)).cell
  go_wp2_with (go_at_call 78; ((with_reducible refine (HD.out _).mono ?_); rintro e w1 ⟨rfl, rfl⟩))
  go_ret
  exact ⟨by first | rfl | simp, by first | rfl | simp⟩
/-- what the iterator asks of memory. -/
structure DaysAt (W : World) (go gr g : Nat) (d : Date) (r : Rule) (sr : RS) : Prop where
  a : RuleAt W r sr
  row : rowOf W go = none
  lo : go < W.heap.size
  lr : gr < W.heap.size
  ne : r.wd ≠ [] → ∀ ad, sr.a5 = some ad → ad.block ≠ go ∧ ad.block ≠ gr
  bd : Bk W g 34 (dcells d)
  br : Bk W (g + 1) 49 (rcells r sr)
  bf : Bk W (g + 1 + 1) 3 #[.int .i64 (firstD d)]
  n1 : go < g
  n2 : gr < g
theorem DaysAt.bel {W W' : World} {go gr g : Nat} {d : Date} {r : Rule} {sr : RS} (h : DaysAt W go gr g d r sr) (hb : Below W.heap.size W W') : DaysAt W' go gr g d r sr :=
  ⟨h.a.bel hb, by rw [rowOf_same (hb.block go h.lo)]; exact h.row, Nat.lt_of_lt_of_le h.lo hb.size, Nat.lt_of_lt_of_le h.lr hb.size, h.ne, h.bd.bel hb, h.br.bel hb, h.bf.bel hb, h.n1, h.n2⟩
set_option maxHeartbeats 2000000 in
set_option maxRecDepth 100000 in
theorem days1_in (d : Date) (r : Rule) (sr : RS) (l go gr g n : Nat) (J Jx : List (Day d) → World → Prop) (W : World) (B : Nat) (hJ : AbidesFrom B J) (hY : YieldsQ Try.prog l go gr 1501 dayV J Jx) (hW : DaysAt W go gr g d r sr) (hrf : r.fault = (0, 0)) (F : FirstOk d) (h0 : J [] W) :
    CallsIn Fence.wide n Try.prog 82 #[.func (.yield l) #[] #[], .pointer (some ⟨g + 1, 0, none⟩), .pointer (some ⟨g + 1 + 1, 0, none⟩), .pointer (some ⟨g, 0, none⟩)] W (IterEnd d r J Jx) := by
  have ro := Rule.ok_of hrf
  have hfr := inR_t ro.1
  have he0 := ro.2.1
  have he1 := ro.2.2.1
  have bd := F.bd
  have bd1 := bd.1
  have bd2 := bd.2
  have hu49 := Try.underlying49
  have hu34 := Try.underlying34
  have cd := hW.bd.cell
  have cr := hW.br.cell
  have cf := hW.bf.cell
  have h5 : r.fr = 0 ∨ r.fr = 1 ∨ r.fr = 2 ∨ (r.fr = 3 ∨ r.fr = 4) := by omega
  clear bd hfr ro
  refine callsIn_of_wp Try.func82 rfl trivial ?_ rfl
  simp only [Try.ntmps82, List.size_toArray, List.length_cons, List.length_nil, Nat.reduceAdd, Nat.reduceSub, Array.replicate_succ, Array.replicate_zero, List.push_toArray, List.append_toArray, List.nil_append, List.cons_append]
  rcases h5 with hf | hf | hf | hf
  · -- once
    have g1 : (r.fr == 0) = true := by simp; exact hf
    have hfull := once_full (d := d) hf
    have hpre : ([firstD d] : List Int) <+: daysL d r := by rw [hfull]; exact List.prefix_refl _
    have HFULL := Lib.hid hfull
    have HPRE := Lib.hid hpre
    obtain ⟨fn, tmps, assign, body, hy, hR⟩ := hY (n - 1) [] ⟨firstD d, by omega, by omega⟩ W h0 (by simp)
    dsimp only [dayV] at hy
    have HR := Lib.hid hR
    clear hR hfull hpre hf
    gi_wp2
    refine ⟨nodepth, (roundIn_any HR.out).mono ?_⟩
    rintro e W' (⟨rfl, hJ', hK'⟩ | ⟨rfl, hX⟩)
    · gi_wp2
      go_end0
      exact ⟨⟨_, rfl⟩, .inl ⟨_, by rw [HFULL.out]; rfl, hJ'⟩⟩
    · gi_wp2
      go_end0
      exact ⟨⟨_, rfl⟩, .inr ⟨[⟨firstD d, by omega, by omega⟩], HPRE.out, hX⟩⟩
  · -- daily
    have g1 : (r.fr == 0) = false := by simp; omega
    have g2 : (r.fr == 1) = true := by simp; exact hf
    have hhit := fun (m : Int) (hq : (m - firstD d) % r.ev = 0) h1 h2 => daily_hit (d := d) (r := r) hf hq h1 h2 he0
    have hyes := fun (m : Int) (hq : (m - firstD d) % r.ev = 0) h1 h2 => befL_hit (d := d) (r := r) (n := m) h1 h2 (by rw [daily_on hf, hq]; rfl)
    have hnext := fun (m : Int) (hq : (m - firstD d) % r.ev = 0) => daily_next (d := d) (r := r) hq
    have hfull := fun (s : Int) (pre : List (Day d)) (h : pre.map (·.1) = befL d r s) (hs : firstD d + 1500 < s) => h.trans (befL_full hs)
    have hpre := fun (s : Int) (pre : List (Day d)) (h : pre.map (·.1) = befL d r s) => (h ▸ befL_pre s : pre.map (·.1) <+: daysL d r)
    have hplen := fun (s : Int) (pre : List (Day d)) (h : pre.map (·.1) = befL d r s) hs => pre_len h hs
    have hnx := fun (m : Int) (pre : List (Day d)) (x : Day d) h hx hn => pre_next (d := d) (r := r) (pre := pre) (n := m) (x := x) h hx hn
    have hst0 : befL d r (firstD d) = [] := befL_first (Int.le_refl _)
    have hbx : ∀ wr, Kq go gr W wr → Bk wr (g + 1) 49 (rcells r sr) ∧ Bk wr (g + 1 + 1) 3 #[.int .i64 (firstD d)] := fun wr hq =>
      ⟨hq.bk hW.row hW.br (by have := hW.n1; omega) (by have := hW.n2; omega), hq.bk hW.row hW.bf (by have := hW.n1; omega) (by have := hW.n2; omega)⟩
    have HHIT := Lib.hid hhit
    have HYES := Lib.hid hyes
    have HNEXT := Lib.hid hnext
    have HFULL := Lib.hid hfull
    have HPRE := Lib.hid hpre
    have HPL := Lib.hid hplen
    have HNX := Lib.hid hnx
    have HST0 := Lib.hid hst0
    have HBX := Lib.hid hbx
    have HJ0 := Lib.hid h0
    clear hhit hyes hnext hfull hpre hplen hnx hst0 hbx h0 hf
    gi_wp2
    clear cd cr cf
    gi_loopw [5] (fun s5 wr => ∃ (m : Int) (pre : List (Day d)), s5 = .int .i64 m ∧ firstD d ≤ m ∧ m ≤ firstD d + 1600 ∧ Hid ((m - firstD d) % r.ev = 0) ∧ Hid (pre.map (·.1) = befL d r m) ∧ Hid (J pre wr) ∧ Hid (Kq go gr W wr)) (fun s5 _ => (firstD d + 3000 - intOf s5).toNat)
    case atStart => exact ⟨firstD d, [], rfl, by omega, by omega, Lib.hid (by simp), Lib.hid (by rw [HST0.out]; rfl), HJ0, Lib.hid (Kq.refl _ _ _)⟩
    case round =>
      clear HJ0
      obtain ⟨m, pre, rfl, k0, k1, hm, hp, HJW, HQ⟩ := hrel
      have cf := (HBX.out wr HQ.out).2.cell
      by_cases hle : m ≤ firstD d + 1500
      · obtain ⟨fn, tmps, assign, body, hy, hR⟩ := hY (n - 1) pre ⟨m, k0, hle⟩ wr HJW.out (HPL.out _ _ hp.out hle)
        dsimp only [dayV] at hy
        have hp3 := HNX.out m pre ⟨m, k0, hle⟩ hp.out rfl (HYES.out _ hm.out k0 hle)
        have hp4 := (HHIT.out m hm.out k0 hle).trans (HYES.out _ hm.out k0 hle).symm
        have HP3 := Lib.hid hp3
        have HP4 := Lib.hid hp4
        have HR := Lib.hid hR
        clear hp3 hp4 hR
        gi_wp2
        refine ⟨nodepth, (roundIn_any HR.out).mono ?_⟩
        rintro e W' (⟨rfl, hJ', hK'⟩ | ⟨rfl, hX⟩)
        · have HJ' := Lib.hid hJ'
          have HK' := Lib.hid (HQ.out.trans hK')
          clear hJ' hK' cf
          have cr := (HBX.out W' HK'.out).1.cell
          gi_wp2
          exact ⟨⟨m + r.ev, _, rfl, by omega, by omega, Lib.hid (HNEXT.out _ hm.out), Lib.hid (HP3.out.trans HP4.out.symm), HJ', HK'⟩, by simp [intOf]; omega⟩
        · gi_wp2
          refine bodyPost_ret (results_none rfl _ _ _) rfl ?_
          exact ⟨⟨_, rfl⟩, .inr ⟨_, HPRE.out _ _ HP3.out, hX⟩⟩
      · have hle' : firstD d + 1500 < m := by omega
        clear hle
        gi_wp2
        go_end0
        exact ⟨⟨_, rfl⟩, .inl ⟨pre, HFULL.out _ _ hp.out hle', HJW.out⟩⟩
  · -- weekly
    have g1 : (r.fr == 0) = false := by simp; omega
    have g2 : (r.fr == 1) = false := by simp; omega
    have g3 : (r.fr == 2) = true := by simp; exact hf
    have hWk := fun (s : Bel W) => weekly_in d r sr l go gr (n - 1) J Jx s.w B hJ hY ⟨(hW.bel s.below).a, (hW.bel s.below).row, (hW.bel s.below).lo, (hW.bel s.below).lr, hW.ne⟩ hf hrf F (jbel hJ h0 s.below)
    have hDw : ∀ W, Calls Try.prog 84 #[.int .i64 d.y, .int .i64 d.mo, .int .i64 d.d] W fun e w' => e = .returned (.int .i64 (wdD d)) ∧ W = w' := fun W => dow_calls d.y d.mo d.d W (by have := F.y0; omega) (by have := F.y1; omega) F.m0 F.m1 (by have := F.d0; omega) (by have := F.d1; have := mlen_bd d.y d.mo; omega)
    have HWK := Lib.hid hWk
    have HDW := Lib.hid hDw
    have sd := hW.bd.s
    have sr1 := hW.br.s
    have sf := hW.bf.s
    clear hWk hDw hf
    gi_wp2
    refine wpIn_region_head 10 open_wide (by kernel_rfl) (by kernel_rfl) (by kernel_rfl) ?_
    simp only [List.take_succ_cons, List.take_zero, List.drop_succ_cons, List.drop_zero]
    clear cd cr cf
    repeat (go_big_quiet_step ((go_at_call 84; exact bel_eq (HDW.out _))))
    refine wpQuiet_nil ?_
    intro s
    clear sd sr1 sf
    gi_wp2_with (refine ⟨trivial, nodepth, ?_⟩; gi_at_call 83; refine (HWK.out s).mono ?_; rintro e W' ⟨⟨v, rfl⟩, hend⟩; have HE := Lib.hid hend; clear hend)
    go_end0
    exact ⟨⟨_, rfl⟩, HE.out⟩
  · -- monthly
    have g1 : (r.fr == 0) = false := by simp; omega
    have g2 : (r.fr == 1) = false := by simp; omega
    have g3 : (r.fr == 2) = false := by simp; omega
    have hMo := monthly_in d r sr l go gr (n - 1) J Jx W B hJ hY hW.row hW.lo hW.lr hf hrf F h0
    have HMO := Lib.hid hMo
    clear hMo hf
    gi_wp2_with (refine ⟨trivial, nodepth, ?_⟩; gi_at_call 85; refine HMO.out.mono ?_; rintro e W' ⟨⟨v, rfl⟩, hend⟩; have HE := Lib.hid hend; clear hend)
    go_end0
    exact ⟨⟨_, rfl⟩, HE.out⟩
end Go.Proofs.Ytnjplichhkmmhaa.CalW
/- Behind the walk of recur.regular: memory in a round of its loop; the iterator's contract. -/
namespace Go
theorem wpListIn_append_own_at {F : Fence} {n : Nat} {P : Program} (w : World) {ops : Array Oper} {rest : List Oper} {o : Oper} {a : Act} {Q : Exit → Act → World → Prop}
    (hg : o.guard = none) (s x : Operand) (t : TypeId) (hop : o.op = Op.call { callee := Callee.builtin Builtin.append, args := #[s, x], argTypes := #[t, t] })
    (base : Nat) (e : TypeId) (i : TypeInfo) (z : Value) (size bytes : Nat) (h1 : P.underlying t = some (.slice e)) (h2 : P.info? e = some i) (h3 : i.zero = some z) (h4 : i.size = size) (h5 : i.bytes = bytes) (h6 : z.cells.size = size) (h7 : 0 < size)
    (v : Value) (k : Nat) (xs : List Value) (hs : a.eval s = v) (hown : w.ownsRow base e size v k xs) (ad : Addr) (m c : Nat) (news : List Value) (hx : a.eval x = .slice (some ad) m c) (hn : news.length = m * size)
    (hc : ∀ j u, news[j]? = some u → w.cell? (ad.add j) = some u) (h1c : ∀ u ∈ news, u.oneCell' = true) (b1 : k + m ≤ maxLen) (b2 : (k + m) * bytes ≤ 140737488355328) (b3 : base ≤ w.heap.size)
    (hK : ∀ v' w', w'.ownsRow base e size v' (k + m) (xs ++ news) → w.grownBy w' v.ownBlock → (v'.ownBlock = v.ownBlock ∨ v'.ownBlock = some w.heap.size) → wpListIn F n P ops Q rest (a.put o.dst v') w') :
    wpListIn F n P ops Q (o :: rest) a w := by
  refine wpListIn_plain hg fun K hK' => ?_
  obtain ⟨v', w', hrun, r1, r2, _, r4⟩ := run_append_own_at (P := P) w base t o.type e i z size bytes h1 h2 h3 h4 h5 h6 h7 v k xs hown ad m c news hn hc h1c b1 b2 b3
  unfold Oper.wpIn
  refine ⟨?_, ?_⟩
  · simp [Oper.about, hop, resolve, Target.leads, Sem.run_pure]
  · rw [Oper.semAt_plain F _ _ (by rw [hop]; intro c hc'; cases hc')]
    simp [execOp, hop, resolve, invoke, builtin, hs, hx, hrun, Result.andThen]
    exact hK' _ _ (hK v' w' r1 r2 r4)
end Go
namespace Go.Proofs.Ytnjplichhkmmhaa.CalW
open Go.RowKit Go.Shelf Go.Proofs.Ytnjplichhkmmhaa.Base Go.Proofs.Ytnjplichhkmmhaa.Cal
set_option linter.unusedVariables false
set_option linter.unusedSimpArgs false
/-- memory in a round: the arguments' boxes, the result's box, the list's box and its row. -/
structure RI (w W : World) (zc dc rc : Array Value) (go gr B : Nat) (u : Value) (l : List Int) (v : Value) : Prop where
  s : RgSt w W zc dc rc B l v
  res : Bk W gr 35 #[u]
  out : Bk W go 35 #[v]
  no : w.heap.size + 1 + 1 < gr
  ng : gr < go
  nB : go < B
section
variable {w W W' w2 : World} {zc dc rc : Array Value} {go gr B : Nat} {u v v' : Value} {l l' : List Int}
theorem RI.bel (h : RI w W zc dc rc go gr B u l v) (hb : Below W.heap.size W W') : RI w W' zc dc rc go gr B u l v := ⟨h.s.bel hb, h.res.bel hb, h.out.bel hb, h.no, h.ng, h.nB⟩
theorem RI.al (h : RI w W zc dc rc go gr B u l v) (o : Obj) : RI w (W.alloc o) zc dc rc go gr B u l v := h.bel (below_al (Below.refl _ _) _)
theorem RI.row (h : RI w W zc dc rc go gr B u l v) : rowOf W go = v.ownBlock := by
  unfold rowOf
  rw [show W.cell? ⟨go, 0, none⟩ = some v from h.out.cell 0]
theorem RI.kq (h : RI w W zc dc rc go gr B u l v) (hb : Below W.heap.size W W') : Kq go gr W W' := Kq.of_below h.out.lt hb
theorem keeps_bel {B : Nat} (hb : Below W.heap.size W W') : KeepsFrom B W W' := ⟨hb.size, fun k o _ hk _ => (hb.block k (Array.getElem?_eq_some_iff.1 hk).1).trans hk⟩
theorem own_cells {e : TypeId} {size n : Nat} {xs : List Value} (h : W.ownsRow B e size v n xs) {g : Nat} (hv : v.ownBlock = some g) {o : Obj} (ho : W.heap[g]? = some o) : o.isCells = true := by
  rcases h.2 with ⟨rfl, _⟩ | ⟨g', cap, cur, rfl, _, hg, _⟩
  · simp [Value.ownBlock] at hv
  · have : g' = g := by simpa [Value.ownBlock] using hv
    subst this
    rw [hg] at ho
    cases ho
    rfl
theorem RI.abides {row : Option Nat} (h : RI w W zc dc rc go gr B u l v) (hg : W.grownBy W' row) (hr : ∀ r, row = some r → w.heap.size ≤ r ∧ ∃ o : Obj, W.heap[r]? = some o ∧ o.isCells = false) : RI w W' zc dc rc go gr B u l v := by
  have hk : ∀ {g : Nat} {t : TypeId} {cs : Array Value}, Bk W g t cs → Bk W' g t cs := fun hB => (hg.block _ hB.lt (fun e => by
    obtain ⟨_, o, ho, hc⟩ := hr _ e.symm
    rw [hB] at ho
    cases ho
    cases hc)).trans hB
  have hs := h.s
  refine ⟨⟨hk hs.z, hk hs.d, hk hs.u, hs.own.kept hg ?_, hs.b.grown hg hs.b.size (fun k e => (hr k e).1), Nat.le_trans hs.hB hg.size, hs.lB⟩, hk h.res, hk h.out, h.no, h.ng, h.nB⟩
  cases hv : v.ownBlock with
  | none => exact .inl rfl
  | some g =>
    refine .inr (fun e => ?_)
    obtain ⟨_, o, ho, hc⟩ := hr g e.symm
    rw [own_cells hs.own hv ho] at hc
    cases hc
/-- what the round's append has left; then the store into the list's box. -/
theorem RI.app {tmp : Obj} (h : RI w W zc dc rc go gr B u l v) (hg : (W.alloc tmp).grownBy w2 v.ownBlock) (hown : w2.ownsRow B 3 1 v' l'.length (l'.map iv)) (hat : v'.ownBlock = v.ownBlock ∨ v'.ownBlock = some (W.heap.size + 1)) :
    Bk w2 go 35 #[v] ∧ RI w (w2.setCell ⟨go, 0, none⟩ v') zc dc rc go gr B u l' v' ∧ Kq go gr W (w2.setCell ⟨go, 0, none⟩ v') ∧ KeepsFrom w.heap.size W (w2.setCell ⟨go, 0, none⟩ v') := by
  have h1 := h.al tmp
  have hs := h1.s.app hg hown
  have ho : Bk w2 go 35 #[v] := h1.out.grown hg h1.s.own h.nB
  have hr : Bk w2 gr 35 #[u] := h1.res.grown hg h1.s.own (by have := h.ng; have := h.nB; omega)
  have hrow := h.row
  have n1 := h.no
  have n2 := h.ng
  have n3 := h.nB
  have n4 := h.out.lt
  have hsz : W.heap.size + 1 ≤ w2.heap.size := by have := hg.size; simpa using this
  have ho3 : Bk (w2.setCell ⟨go, 0, none⟩ v') go 35 #[v'] := ho.put' 0 v' rfl
  have hsz3 : w2.heap.size = (w2.setCell ⟨go, 0, none⟩ v').heap.size := by simp [World.setCell]
  have hall : ∀ k, k < W.heap.size → k ≠ go → v.ownBlock ≠ some k → (w2.setCell ⟨go, 0, none⟩ v').heap[k]? = W.heap[k]? := fun k h1 h2 h3 =>
    (Below.heap_setCell w2 ⟨go, 0, none⟩ v' k h2).trans ((hg.block k (by simp; omega) (fun e => h3 e.symm)).trans (Below.heap_alloc W tmp k h1))
  refine ⟨ho, ⟨⟨hs.z.far (by simp; omega) v', hs.d.far (by simp; omega) v', hs.u.far (by simp; omega) v', ?_, below_set hs.b (by simp; omega) v', by rw [← hsz3]; exact hs.hB, hs.lB⟩, hr.far (by simp; omega) v', ho3, n1, n2, n3⟩, ⟨by omega, fun k o hk hc h1 h2 h3 => ?_, fun g hgr => ?_⟩, ⟨by omega, fun k o _ hk hc => ?_⟩⟩
  · refine hown.kept (grownBy_setCell' w2 go v') ?_
    cases hv : v'.ownBlock with
    | none => exact .inl rfl
    | some g => exact .inr (fun e => by have := (hown.lt g hv).1; have e' : g = go := Option.some.inj e; omega)
  · rw [hrow] at h3
    exact (hall k (Array.getElem?_eq_some_iff.1 hk).1 h1 h3).trans hk
  · have e : rowOf (w2.setCell ⟨go, 0, none⟩ v') go = v'.ownBlock := by
      unfold rowOf
      rw [show (w2.setCell ⟨go, 0, none⟩ v').cell? ⟨go, 0, none⟩ = some v' from ho3.cell 0]
    rw [e] at hgr
    rcases hat with h4 | h4
    · exact .inl (by rw [hrow, ← h4]; exact hgr)
    · rw [h4] at hgr
      exact .inr (by have : W.heap.size + 1 = g := Option.some.inj hgr; omega)
  · refine (hall k (Array.getElem?_eq_some_iff.1 hk).1 (fun e => ?_) (fun e => ?_)).trans hk
    · subst e
      rw [h.out] at hk
      cases hk
      cases hc
    · rw [own_cells h.s.own e hk] at hc
      cases hc
/-- the result's box is written. -/
theorem RI.ret (h : RI w W zc dc rc go gr B u l v) : RI w (W.setCell ⟨gr, 0, none⟩ v) zc dc rc go gr B v l v ∧ KeepsFrom w.heap.size W (W.setCell ⟨gr, 0, none⟩ v) := by
  have hs := h.s
  have n1 := h.no
  have n2 := h.ng
  have n3 := h.nB
  refine ⟨⟨⟨hs.z.far (by simp; omega) v, hs.d.far (by simp; omega) v, hs.u.far (by simp; omega) v, ?_, below_set hs.b (by simp; omega) v, by simpa [World.setCell] using hs.hB, hs.lB⟩, h.res.put' 0 v rfl, h.out.far (by simp; omega) v, n1, n2, n3⟩, ⟨by simp [World.setCell], fun k o _ hk hc => ?_⟩⟩
  · refine hs.own.kept (grownBy_setCell' W gr v) ?_
    cases hv : v.ownBlock with
    | none => exact .inl rfl
    | some g => exact .inr (fun e => by have := (hs.own.lt g hv).1; have e' : g = gr := Option.some.inj e; omega)
  · refine (Below.heap_setCell W ⟨gr, 0, none⟩ v k (fun e => ?_)).trans hk
    simp only at e
    subst e
    rw [h.res] at hk
    cases hk
    cases hc
end
theorem all_of (z : Zone) (d : Date) (W : World) (k0 : z.fault = (0, 0)) (q0 : locf d = (0, 0)) : Calls Try.prog 46 #[zval z, dval d] W (GivesI W (allL z d)) := by
  have b := Date.ok_bd (locf_ok q0).1
  have m := mlen_bd d.y d.mo
  exact all_calls z d W (Zone.good_of k0) (Zone.st_of k0).1 (Zone.st_of k0).2 (Zone.su_of k0).1 (Zone.su_of k0).2 ⟨by dsimp only; omega, by dsimp only; omega, by dsimp only; omega, by dsimp only; omega, by dsimp only; omega, by dsimp only; omega, by dsimp only; omega, by dsimp only; omega, by dsimp only; omega, by dsimp only; omega, by dsimp only; omega, by dsimp only; omega, by dsimp only; omega, by dsimp only; omega⟩ (by have := (locf_ok q0).2; omega) (by have := (locf_ok q0).2; omega)
/-- the iterator's contract. -/
theorem days_stops (d : Date) (r : Rule) (sr : RS) (go gr g n : Nat) (w : World) (hW : DaysAt w go gr g d r sr) (hrf : r.fault = (0, 0)) (F : FirstOk d) :
    SeqStopsK Fence.wide n Try.prog 82 #[.pointer (some ⟨g + 1, 0, none⟩), .pointer (some ⟨g + 1 + 1, 0, none⟩), .pointer (some ⟨g, 0, none⟩)] (dayV (d := d)) (Kq go gr) (fun xs => xs.map (·.1) = daysL d r) (fun pre => pre.map (·.1) <+: daysL d r) 1501 w := fun l J Jx W hb hJ _ hY h0 =>
  days1_in d r sr l go gr g n J Jx W W.heap.size hJ (fun m pre x W1 h1 h2 => yieldAt_any m (hY pre x W1 h1 h2)) (hW.bel hb) hrf F h0
theorem days_enters : ∀ args w, (callFunc 82 args).run Try.prog w = .ok (.enter 82 args) w := enters_of Try.func82 (by kernel_rfl) rfl
end Go.Proofs.Ytnjplichhkmmhaa.CalW
