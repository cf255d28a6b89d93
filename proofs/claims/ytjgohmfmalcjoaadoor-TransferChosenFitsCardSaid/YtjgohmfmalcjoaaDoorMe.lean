import Derived.Test.YtjgohmfmalcjoaaDoorMa
import Derived.RangeFuncNested
import Derived.RangeFuncBox
import Derived.RangeFuncBound
import Derived.RangeFuncCalls
import Derived.RangeFuncLeaves
import Derived.Shelf.Abstract
import Derived.Shelf.RegionOpen
import Derived.OwnWalkIn
import Derived.TacticsInMore
import Derived.LoopNIn
import Derived.LoopIn
import Derived.Maps.AppendAt
import Derived.StillTail
/- Loops over iterators: what a round keeps; a region that draws its order within a round. -/
namespace Go.Proofs.YtjgohmfmalcjoaaDoor.Base
open Go.RowKit Go.Shelf
set_option linter.unusedVariables false
set_option linter.unusedSimpArgs false
/-- the row of the slice that the variable in block go holds. -/
def rowOf (W : World) (go : Nat) : Option Nat := match W.cell? ⟨go, 0, none⟩ with | some v => v.ownBlock | none => none
/-- what a round keeps: all cells but the caller's two variables and the row of its list. -/
structure Kq (go gr : Nat) (W W' : World) : Prop where
  size : W.heap.size ≤ W'.heap.size
  same : ∀ k o, W.heap[k]? = some o → o.isCells = true → k ≠ go → k ≠ gr → rowOf W go ≠ some k → W'.heap[k]? = some o
  row : ∀ g, rowOf W' go = some g → rowOf W go = some g ∨ W.heap.size ≤ g
section
variable {go gr : Nat} {A B C W W' : World}
theorem Kq.refl (go gr : Nat) (W : World) : Kq go gr W W := ⟨Nat.le_refl _, fun _ _ h _ _ _ _ => h, fun _ h => .inl h⟩
theorem Kq.trans (h : Kq go gr A B) (k : Kq go gr B C) : Kq go gr A C := by
  refine ⟨Nat.le_trans h.size k.size, fun x o hx ho h1 h2 h3 => ?_, fun g hg => ?_⟩
  · refine k.same x o (h.same x o hx ho h1 h2 h3) ho h1 h2 (fun hr => ?_)
    rcases h.row x hr with h4 | h4
    · exact h3 h4
    · have := (Array.getElem?_eq_some_iff.1 hx).1
      omega
  · rcases k.row g hg with h1 | h1
    · exact h.row g h1
    · exact .inr (Nat.le_trans h.size h1)
theorem rowOf_same (h : W'.heap[go]? = W.heap[go]?) : rowOf W' go = rowOf W go := by
  unfold rowOf
  rw [World.cell?_of_block (a := ⟨go, 0, none⟩) h]
theorem Kq.put {l : Nat} {o : Obj} (o' : Obj) (hg : go < l) (hl : W.heap[l]? = some o) (ho : o.isCells = false) : Kq go gr W (W.putObj l o') := by
  refine ⟨by simp, fun k x hk hx h1 h2 h3 => ?_, fun g hr => .inl ?_⟩
  · rw [World.putObj_heap_other (fun e => by subst e; rw [hl] at hk; cases hk; rw [ho] at hx; cases hx)]
    exact hk
  · rw [rowOf_same (World.putObj_heap_other (by omega))] at hr
    exact hr
theorem Kq.of_below (hg : go < W.heap.size) (hb : Below W.heap.size W W') : Kq go gr W W' :=
  ⟨hb.size, fun k o hk _ _ _ _ => (hb.block k (Array.getElem?_eq_some_iff.1 hk).1).trans hk, fun g hr => .inl (by rw [rowOf_same (hb.block go hg)] at hr; exact hr)⟩
theorem Kq.bk {g : Nat} {t : TypeId} {cs : Array Value} (h : Kq go gr W W') (hr : rowOf W go = none) (hB : Bk W g t cs) (h1 : g ≠ go) (h2 : g ≠ gr) : Bk W' g t cs :=
  h.same g _ hB rfl h1 h2 (by rw [hr]; simp)
theorem Kq.cell {a : Addr} {v : Value} (h : Kq go gr W W') (hr : rowOf W go = none) (hc : W.cell? a = some v) (h1 : a.block ≠ go) (h2 : a.block ≠ gr) : W'.cell? a = some v := by
  obtain ⟨o, ho, hi⟩ := cells_of_cell hc
  rw [World.cell?_of_block (a := a) ((h.same a.block o ho hi h1 h2 (by rw [hr]; simp)).trans ho.symm)]
  exact hc
end
/-- the rounds of a loop in which no depth is asked. -/
def YieldsQ {α : Type} (P : Program) (l : Nat) (go gr N : Nat) (encs : α → Array Value) (J Jx : List α → World → Prop) : Prop :=
  ∀ (m : Nat) (pre : List α) (x : α) (W : World), J pre W → pre.length < N → YieldAt Fence.wide m P l (encs x) W fun e W' =>
    (e = .returned (.bool true) ∧ J (pre ++ [x]) W' ∧ Kq go gr W W') ∨ (e = .returned (.bool false) ∧ Jx (pre ++ [x]) W')
theorem roundIn_any {m m' : Nat} {P : Program} {l : Nat} {f : FuncId} {tmps : Array Value} {assign body : Code} {w : World} {R : Ending → World → Prop}
    (h : RoundIn Fence.wide m P l f tmps assign body w R) : RoundIn Fence.wide m' P l f tmps assign body w R := ⟨h.1, fun c cs _ => h.2 c cs (room_wide _)⟩
theorem yieldAt_any {m : Nat} (m' : Nat) {P : Program} {l : Nat} {args : Array Value} {W : World} {R : Ending → World → Prop} (h : YieldAt Fence.wide m P l args W R) : YieldAt Fence.wide m' P l args W R := by
  obtain ⟨fn, tmps, assign, body, hy, hR⟩ := h
  exact ⟨fn, tmps, assign, body, hy, roundIn_any hR⟩
/-- a fence that asks nothing, within a round or not. -/
def Open (F : Fence) : Prop := (∀ f, F.fn f) ∧ F.depth = none ∧ ∀ n P f args w R, Calls P f args w R → CallsIn F n P f args w R
theorem open_wide : Open Fence.wide := ⟨fun _ => trivial, rfl, fun _ _ _ _ _ _ h => callsIn_wide.2 h⟩
theorem open_round (l : Nat) : Open (Fence.wide.inRound l) := ⟨fun _ => trivial, rfl, fun _ _ _ _ _ _ h => CallsIn.inRound l (callsIn_wide.2 h)⟩
section
variable {F : Fence} {n : Nat} {P : Program} {ops : Array Oper} {md : Region.Mode} {C : World → Prop}
def noDefer (ops : Array Oper) : Bool := ops.all fun o => match o.op with | .defer _ => false | _ => true
theorem noDefer_at (h : noDefer ops = true) {i : Nat} {o : Oper} (hi : ops[i]? = some o) : ∀ c, o.op ≠ .defer c := fun c hc => by
  unfold noDefer at h
  rw [Array.all_eq_true] at h
  obtain ⟨hlt, he⟩ := Array.getElem?_eq_some_iff.1 hi
  have := h i hlt
  rw [he, hc] at this
  cases this
theorem semAt_any (r : Option Nat) (ρ : Operand → Value) (o : Oper) (h : ∀ c, o.op ≠ .defer c) : Oper.semAt r ρ o = execOp ρ o := by
  cases r with
  | none => exact Oper.semAt_none _ _
  | some l => exact Oper.semAt_some l ρ o h
theorem wpIn_of_quiet {o : Oper} {a : Act} {K : Act → Prop} {K' : Act → World → Prop} {Q' : Exit → Act → World → Prop} {w : World} (hF : Open F) (hd : ∀ c, o.op ≠ .defer c) (hw : C w) (h : ∀ a w', C w' → K a → K' a w') (hh : o.quiet P a C K) : o.wpIn F n P a w K' Q' := by
  obtain ⟨v, h1, h2⟩ := hh
  have h3 := h1 w hw
  unfold Oper.quietAt at h3
  refine ⟨fun f _ => hF.1 f, ?_⟩
  rw [semAt_any _ _ _ hd]
  generalize (execOp a.eval o).run P w = r at *
  cases r with
  | ok nx w' =>
    cases nx <;> simp only [Oper.quietUpon] at h3
    case value u =>
      obtain ⟨e1, e2⟩ := h3
      rw [e1, e2, Oper.uponIn_value]
      exact h _ _ hw h2
    case skip =>
      obtain ⟨e1, e2⟩ := h3
      rw [e1, Oper.uponIn_skip]
      rw [e2] at h2
      exact h _ _ hw h2
    case enter f args =>
      obtain ⟨e1, hc⟩ := h3
      rw [e1, Oper.uponIn_enter]
      refine ⟨(fun hs => by rw [hF.2.1] at hs; cases hs), hF.2.2 _ _ _ _ _ _ (hc.mono ?_)⟩
      intro e w'' hw''
      obtain ⟨he, hc2⟩ := hw''
      subst he
      exact h _ _ hc2 h2
  | halt x w' => simp only [Oper.quietUpon] at h3
theorem wpOpIn_of_qOp {i : Nat} {a : Act} {K : Act → Prop} {K' : Act → World → Prop} {Q' : Exit → Act → World → Prop} {w : World} (hF : Open F) (hd : noDefer ops = true) (hC : C w) (h : ∀ a w', C w' → K a → K' a w') (hh : qOp P ops C i K a) : wpOpIn F n P ops Q' i K' a w := by
  unfold qOp at hh
  unfold wpOpIn
  split
  · rename_i ho
    simp only [ho] at hh
    exact h _ _ hC hh
  · rename_i o ho
    simp only [ho] at hh
    split
    · rename_i hw
      simp only [hw, if_true] at hh
      exact wpIn_of_quiet hF (noDefer_at hd ho) hC h hh
    · rename_i hw
      simp only [hw] at hh
      exact ⟨fun f _ => hF.1 f, h _ _ hC hh⟩
theorem wpAnyIn_of_quiet {Q : Act → Prop} {Q' : Exit → Act → World → Prop} (hF : Open F) (hd : noDefer ops = true) (hQ : ∀ a w, C w → Q a → Q' .normal a w) : ∀ (fuel : Nat) (listed : Array Bool) (a : Act) (w : World), C w →
    wpAnyQ P md ops C Q fuel listed a → wpAnyIn F n P md ops Q' fuel listed a w
  | 0, _, _, _, hw, h => ⟨h.1, hQ _ _ hw h.2⟩
  | fuel + 1, _, _, _, hw, h => ⟨fun h0 => hQ _ _ hw (h.1 h0), fun i hi => wpOpIn_of_qOp hF hd hw (fun a' w' hw' => wpAnyIn_of_quiet hF hd hQ fuel _ a' w' hw') (h.2 i hi)⟩
theorem wpIn_region_quiet {id : Nat} {Q : Exit → Act → World → Prop} {a : Act} {w : World} (hF : Open F) (hm : P.follows .mixedOrders = true) (hd : noDefer ops = true) (hB : Region.lexB .any ops = true) (hC : C { w with drawn := w.drawn + 1 })
    (h : wpQuiet P ops C (fun a' => ∀ w', C w' → Q .normal a' w') ops.toList a) : (Code.region id ops true).wpIn F n P Q a w := by
  simp only [Region.lexB, Bool.and_eq_true] at hB
  refine wpIn_region_any hm (wpAnyIn_of_quiet hF hd (Q := fun a' => ∀ w', C w' → Q .normal a' w') (fun _ w' hw' h => h w' hw') _ _ _ _ hC ?_)
  have := wpAnyQ_lex (C := C) (md := .any) hB.1 ops.toList 0 (Array.replicate ops.size false) a (by simp) (by simpa using hB.2) h
  simpa using this
/-- a region that draws its order, whose operations read and whose callees may make memory, in a fence that asks nothing. -/
theorem wpIn_region_bel {id : Nat} {Q : Exit → Act → World → Prop} {a : Act} {w : World} {l : List Oper} (hF : Open F) (hm : P.follows .mixedOrders = true) (hd : noDefer l.toArray = true) (hB : Region.lexB .any l.toArray = true)
    (h : wpQuiet P l.toArray (fun w' => ∃ s : Bel w, w' = s.w) (fun a' => ∀ w', (∃ s : Bel w, w' = s.w) → Q .normal a' w') l a) : (Code.region id l.toArray true).wpIn F n P Q a w :=
  wpIn_region_quiet (C := fun w' => ∃ s : Bel w, w' = s.w) hF hm hd hB ⟨Bel.mk' w.drew (below_drew1 (Below.refl _ _)), rfl⟩ (by simpa using h)
end
end Go.Proofs.YtjgohmfmalcjoaaDoor.Base
/- A region that draws its order: operations that read or whose callees make memory come first, in whatever order; what is left has one order. -/
namespace Go.Proofs.YtjgohmfmalcjoaaDoor.Base
open Go.RowKit Go.Shelf
set_option linter.unusedVariables false
set_option linter.unusedSimpArgs false
section
variable {P : Program} {ops : Array Oper} {md : Region.Mode} {C : World → Prop} {n : Nat} {L : Act → Prop}
/-- f operations below n are still to come, each quiet; behind them the rest has one order, and L holds. -/
def HeadQ (P : Program) (md : Region.Mode) (ops : Array Oper) (C : World → Prop) (n : Nat) (L : Act → Prop) : Nat → Array Bool → Act → Prop
  | 0, ls, a => Region.seqB md ops (ops.size - n) n ls = true ∧ L a
  | f + 1, ls, a => Region.ready md ops ls ≠ [] ∧ ∀ i ∈ Region.ready md ops ls, i < n ∧ qOp P ops C i (HeadQ P md ops C n L f (ls.setIfInBounds i true)) a
/-- nothing that still may come up is entangled with operation i. -/
def FreeOf (md : Region.Mode) (ops : Array Oper) (ls : Array Bool) (i : Nat) (oi : Oper) : Prop :=
  ∀ j oj, ops[j]? = some oj → j ≠ i → ls.getD j true = false → (∀ e ∈ oj.after, Region.binds md e = true → e.on ≠ i) → oi.apart ops oj = true
theorem FreeOf.less {ls : Array Bool} {i j : Nat} {oi : Oper} (h : FreeOf md ops ls i oi) (hj : ls.getD j true = false) : FreeOf md ops (ls.setIfInBounds j true) i oi := fun k ok hk hki hun hno => by
  refine h k ok hk hki ?_ hno
  by_cases hjk : j = k
  · subst hjk; exact hj
  · rwa [getD_set_ne true hjk] at hun
/-- what may come up is not listed, and waits for nothing that is not. -/
theorem ready_waits {ls : Array Bool} {i j : Nat} (hi : i ∈ Region.ready md ops ls) (hj : j ∈ Region.ready md ops ls) {oj : Oper} (ho : ops[j]? = some oj) : ls.getD j true = false ∧ ∀ e ∈ oj.after, Region.binds md e = true → e.on ≠ i := by
  obtain ⟨hun, oj', ho', hall⟩ := mem_ready.1 hj
  have : oj' = oj := Option.some.inj (ho'.symm.trans ho)
  subst this
  refine ⟨hun, fun e he hb heq => ?_⟩
  have h1 := hall e he hb
  rw [heq, getD_both (mem_ready.1 hi).1] at h1
  cases h1
theorem HeadQ.first {i : Nat} {oi : Oper} {v : Value} (hi : ops[i]? = some oi) (hsel : ∀ (j : Nat) (o : Oper) cs b, ops[j]? = some o → o.op ≠ .select cs b)
    (hs : Region.sinkB md ops n = true) (hc : Region.chainB md ops n = true) (hn : n < ops.size) (hin : i < n) : ∀ (f : Nat) (ls : Array Bool) (a : Act), HeadInv md ops n ls → FreeOf md ops ls i oi → i ∈ Region.ready md ops ls → YieldsIn P ops C oi v a →
      HeadQ P md ops C n L f (ls.setIfInBounds i true) (a.put oi.dst v) → HeadQ P md ops C n L (f + 1) ls a
  | f, ls, a, inv, hf, hr, hy, H => by
    have hlow : ∀ j ∈ Region.ready md ops ls, j < n := fun j hj => Nat.lt_of_not_ge fun hge => tail_waits hs hc hn inv _ i rfl hin (mem_ready.1 hr).1 j hge hj
    refine ⟨fun h => (by rw [h] at hr; cases hr), fun j hj => ⟨hlow j hj, ?_⟩⟩
    by_cases hji : j = i
    · subst hji
      exact hy.qOp hi H
    · obtain ⟨_, oj, hoj, _⟩ := mem_ready.1 hj
      obtain ⟨hun, hno⟩ := ready_waits hr hj hoj
      cases f with
      | zero => exact absurd (seqB_ready H.1 j (ready_mono hj hji)) (Nat.not_le_of_lt (hlow j hj))
      | succ f =>
        have h2 := qOp_put hoj (hf j oj hoj hji hun hno) (fun cs b => hsel i oi cs b hi) (fun cs b => hsel j oj cs b hoj) hy (H.2 j (ready_mono hj hji)).2
        refine qOp_mono (fun a' h3 => ?_) h2
        refine HeadQ.first hi hsel hs hc hn hin f (ls.setIfInBounds j true) a' (inv.set hj (hlow j hj)) (hf.less hun) (ready_mono hr (Ne.symm hji)) h3.1 ?_
        rw [Array.setIfInBounds_comm _ _ hji]
        exact h3.2
theorem HeadQ.lex (hsel : Region.noSelect ops = true) (hs : Region.sinkB md ops n = true) (hc : Region.chainB md ops n = true) (hn : n < ops.size) : ∀ (l : List Oper) (k : Nat) (ls : Array Bool) (a : Act), (∀ j, j < l.length → l[j]? = ops[k + j]?) → k + l.length = n → HeadInv md ops n ls →
    Region.lexHead md ops (ops.size - n) l.length k ls = true → wpQuiet P ops C L l a → HeadQ P md ops C n L l.length ls a
  | [], k, ls, a, _, hk, _, hB, h => by
    have : k = n := by simpa using hk
    subst this
    exact ⟨by simpa [Region.lexHead] using hB, h⟩
  | o :: l, k, ls, a, hl, hk, inv, hB, h => by
    have h0 : ops[k]? = some o := by simpa using (hl 0 (by simp)).symm
    simp only [List.length_cons, Region.lexHead, Bool.and_eq_true] at hB
    obtain ⟨⟨hr, hf⟩, hB'⟩ := hB
    have hr' : k ∈ Region.ready md ops ls := by simpa using hr
    have hkn : k < n := by simp only [List.length_cons] at hk; omega
    have hq : qOp P ops C k (wpQuiet P ops C L l) a := by
      unfold qOp
      simp only [h0]
      exact h
    obtain ⟨v, hy, hK⟩ := yieldsIn_of_qOp h0 hq
    refine HeadQ.first h0 (Region.noSelect_spec hsel) hs hc hn hkn l.length ls a inv (Region.free_spec h0 hf) hr' hy ?_
    exact HeadQ.lex hsel hs hc hn l (k + 1) _ _ (fun j hj => by have := hl (j + 1) (by simp; omega); simpa [Nat.add_assoc, Nat.add_comm 1 j] using this) (by simp only [List.length_cons] at hk; omega) (inv.set hr' hkn) hB' hK
variable {F : Fence} {m : Nat} {Q : Exit → Act → World → Prop}
theorem wpAnyIn_of_head (hF : Open F) (hd : noDefer ops = true) {g : Nat} (hL : ∀ ls a w, C w → Region.seqB md ops (ops.size - n) n ls = true → L a → wpAnyIn F m P md ops Q g ls a w) : ∀ (f : Nat) (ls : Array Bool) (a : Act) (w : World), C w → HeadQ P md ops C n L f ls a → wpAnyIn F m P md ops Q (f + g) ls a w
  | 0, ls, a, w, hw, h => by rw [Nat.zero_add]; exact hL _ _ _ hw h.1 h.2
  | f + 1, ls, a, w, hw, h => by
    rw [show f + 1 + g = (f + g) + 1 by omega]
    exact ⟨fun h0 => absurd h0 h.1, fun i hi => wpOpIn_of_qOp hF hd hw (fun a' w' hw' h' => wpAnyIn_of_head hF hd hL f _ a' w' hw' h') (h.2 i hi).2⟩
theorem wpAnyIn_of_seq : ∀ (l : List Oper) (k : Nat) (ls : Array Bool) (a : Act) (w : World), (∀ j, l[j]? = ops[k + j]?) → Region.seqB md ops l.length k ls = true → wpListIn F m P ops Q l a w → wpAnyIn F m P md ops Q l.length ls a w
  | [], _, _, _, _, _, hB, h => ⟨by simpa [Region.seqB] using hB, h⟩
  | o :: l, k, ls, a, w, hl, hB, h => by
    have h0 : ops[k]? = some o := by simpa using (hl 0).symm
    simp only [List.length_cons, Region.seqB, Bool.and_eq_true, decide_eq_true_eq] at hB
    refine ⟨fun h1 => (by rw [hB.1] at h1; cases h1), fun i hi => ?_⟩
    rw [hB.1] at hi
    have hik : i = k := by simpa using hi
    subst hik
    have IH := fun a' w' (h' : wpListIn F m P ops Q l a' w') => wpAnyIn_of_seq l (i + 1) (ls.setIfInBounds i true) a' w' (fun j => by have := hl (j + 1); simpa [Nat.add_assoc, Nat.add_comm 1 j] using this) hB.2 h'
    unfold wpOpIn
    simp only [h0]
    unfold wpListIn at h
    split
    · rename_i hw
      rw [if_pos hw] at h
      exact Oper.wpIn_mono IH h
    · rename_i hw
      rw [if_neg hw] at h
      exact ⟨h.1, IH _ _ h.2⟩
/-- the first k operations read, or call functions that make memory; the rest comes in one order. -/
theorem wpIn_region_head {id : Nat} {a : Act} {w : World} {l : List Oper} (k : Nat) (hF : Open F) (hm : P.follows .mixedOrders = true) (hd : noDefer l.toArray = true) (hB : Region.lexTailB .any l.toArray k = true)
    (h : wpQuiet P l.toArray (fun w' => ∃ s : Bel w, w' = s.w) (fun a' => ∀ s : Bel w, wpListIn F m P l.toArray Q (l.drop k) a' s.w) (l.take k) a) : (Code.region id l.toArray true).wpIn F m P Q a w := by
  simp only [Region.lexTailB, Bool.and_eq_true, decide_eq_true_eq] at hB
  obtain ⟨⟨⟨⟨hsel, hn⟩, hs⟩, hc⟩, hlex⟩ := hB
  have hk : k < l.length := by simpa using hn
  have htl : (l.take k).length = k := by simp; omega
  have hdl : (l.drop k).length = l.toArray.size - k := by simp
  have inv0 : HeadInv .any l.toArray k (Array.replicate l.toArray.size false) :=
    ⟨by simp, fun j oj _ hl => (by rw [getD_replicate_false] at hl; cases hl), fun t _ ht => getD_in (by simpa using ht) (getD_replicate_false _ _)⟩
  have H := HeadQ.lex (md := .any) hsel hs hc hn (l.take k) 0 _ a (fun j hj => by
    have hj' : j < k := by rw [htl] at hj; exact hj
    simp [hj']) (by simpa using htl) inv0 (by rw [htl]; exact hlex) h
  refine wpIn_region_any hm ?_
  have key := wpAnyIn_of_head (Q := Q) (m := m) (g := l.toArray.size - k) hF hd (fun ls a' w' hw hq hL => by
    obtain ⟨s, rfl⟩ := hw
    have := wpAnyIn_of_seq (md := .any) (Q := Q) (F := F) (m := m) (P := P) (ops := l.toArray) (l.drop k) k ls a' s.w (fun j => by simp [List.getElem?_drop]) (by rw [hdl]; exact hq) (hL s)
    rwa [hdl] at this) _ _ a { w with drawn := w.drawn + 1 } ⟨Bel.mk' w.drew (below_drew1 (Below.refl _ _)), rfl⟩ H
  rw [htl, show k + (l.toArray.size - k) = l.toArray.size by omega] at key
  exact key
end
end Go.Proofs.YtjgohmfmalcjoaaDoor.Base
/- A region that draws its order, outside fences: a head of operations that read or whose callees make memory, in whatever order; a tail of one order. -/
namespace Go.Proofs.YtjgohmfmalcjoaaDoor.Base
open Go.RowKit Go.Shelf
set_option linter.unusedVariables false
set_option linter.unusedSimpArgs false
section
variable {P : Program} {ops : Array Oper} {md : Region.Mode} {C : World → Prop} {n : Nat} {L : Act → Prop} {Q : Exit → Act → World → Prop}
theorem wpAny_of_headC {g : Nat} (hL : ∀ ls a w, C w → Region.seqB md ops (ops.size - n) n ls = true → L a → wpAny P md ops Q g ls a w) : ∀ (f : Nat) (ls : Array Bool) (a : Act) (w : World), C w → HeadQ P md ops C n L f ls a → wpAny P md ops Q (f + g) ls a w
  | 0, ls, a, w, hw, h => by rw [Nat.zero_add]; exact hL _ _ _ hw h.1 h.2
  | f + 1, ls, a, w, hw, h => by
    rw [show f + 1 + g = (f + g) + 1 by omega]
    exact ⟨fun h0 => absurd h0 h.1, fun i hi => wpOp_of_qOp hw (fun a' w' hw' h' => wpAny_of_headC hL f _ a' w' hw' h') (h.2 i hi).2⟩
theorem wp_region_head {id : Nat} {a : Act} {w : World} {l : List Oper} (k : Nat) (hm : P.follows .mixedOrders = true) (hB : Region.lexTailB .any l.toArray k = true)
    (h : wpQuiet P l.toArray (fun w' => ∃ s : Bel w, w' = s.w) (fun a' => ∀ s : Bel w, wpList P l.toArray Q (l.drop k) a' s.w) (l.take k) a) : (Code.region id l.toArray true).wp P Q a w := by
  simp only [Region.lexTailB, Bool.and_eq_true, decide_eq_true_eq] at hB
  obtain ⟨⟨⟨⟨hsel, hn⟩, hs⟩, hc⟩, hlex⟩ := hB
  have hk : k < l.length := by simpa using hn
  have htl : (l.take k).length = k := by simp; omega
  have hdl : (l.drop k).length = l.toArray.size - k := by simp
  have inv0 : HeadInv .any l.toArray k (Array.replicate l.toArray.size false) :=
    ⟨by simp, fun j oj _ hl => (by rw [getD_replicate_false] at hl; cases hl), fun t _ ht => getD_in (by simpa using ht) (getD_replicate_false _ _)⟩
  have H := HeadQ.lex (md := .any) hsel hs hc hn (l.take k) 0 _ a (fun j hj => by
    have hj' : j < k := by rw [htl] at hj; exact hj
    simp [hj']) (by simpa using htl) inv0 (by rw [htl]; exact hlex) h
  refine wp_region_any hm ?_
  have key := wpAny_of_headC (Q := Q) (g := l.toArray.size - k) (fun ls a' w' hw hq hL => by
    obtain ⟨s, rfl⟩ := hw
    have := wpAny_of_seq (md := .any) (Q' := Q) (P := P) (ops := l.toArray) (w := s.w) (l.drop k) k ls a' (fun j => by simp [List.getElem?_drop]) (by rw [hdl]; exact hq) (hL s)
    rwa [hdl] at this) _ _ a { w with drawn := w.drawn + 1 } ⟨Bel.mk' w.drew (below_drew1 (Below.refl _ _)), rfl⟩ H
  rw [htl, show k + (l.toArray.size - k) = l.toArray.size by omega] at key
  exact key
end
end Go.Proofs.YtjgohmfmalcjoaaDoor.Base
