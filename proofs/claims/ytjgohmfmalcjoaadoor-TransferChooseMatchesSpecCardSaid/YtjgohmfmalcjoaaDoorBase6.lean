/- A region that draws its order: operations that read or whose callees make memory come first, in whatever order; what is left has one order. -/
import Derived.Test.YtjgohmfmalcjoaaDoorBase5
import Derived.StillTail
namespace Go.Proofs.YtjgohmfmalcjoaaDoor.Base
open Go.RowKit Go.Shelf
set_option linter.unusedVariables false
set_option linter.unusedSimpArgs false
section
variable {P : Program} {ops : Array Oper} {md : Region.Mode} {C : World → Prop} {n : Nat} {L : Act → Prop}
/-- f operations below n are still to come, each quiet; behind them the rest has one order, and L holds. -/
def HeadQ (P : Program) (md : Region.Mode) (ops : Array Oper) (C : World → Prop) (n : Nat) (L : Act → Prop) : Nat → Array Bool → Act → Prop
  | 0, ls, a => Region.seqB md ops (ops.size - n) n ls = true ∧ L a
  | f + 1, ls, a => Region.ready md ops ls ≠ [] ∧ ∀ i ∈ Region.ready md ops ls, i < n ∧ qOp P ops C i (HeadQ P md ops C n L f (ls.setIfInBounds i true)) a
/-- nothing that still may come up is entangled with operation i. -/
def FreeOf (md : Region.Mode) (ops : Array Oper) (ls : Array Bool) (i : Nat) (oi : Oper) : Prop :=
  ∀ j oj, ops[j]? = some oj → j ≠ i → ls.getD j true = false → (∀ e ∈ oj.after, Region.binds md e = true → e.on ≠ i) → oi.apart ops oj = true
theorem FreeOf.less {ls : Array Bool} {i j : Nat} {oi : Oper} (h : FreeOf md ops ls i oi) (hj : ls.getD j true = false) : FreeOf md ops (ls.setIfInBounds j true) i oi := fun k ok hk hki hun hno => by
  refine h k ok hk hki ?_ hno
  by_cases hjk : j = k
  · subst hjk; exact hj
  · rwa [getD_set_ne true hjk] at hun
/-- what may come up is not listed, and waits for nothing that is not. -/
theorem ready_waits {ls : Array Bool} {i j : Nat} (hi : i ∈ Region.ready md ops ls) (hj : j ∈ Region.ready md ops ls) {oj : Oper} (ho : ops[j]? = some oj) : ls.getD j true = false ∧ ∀ e ∈ oj.after, Region.binds md e = true → e.on ≠ i := by
  obtain ⟨hun, oj', ho', hall⟩ := mem_ready.1 hj
  have : oj' = oj := Option.some.inj (ho'.symm.trans ho)
  subst this
  refine ⟨hun, fun e he hb heq => ?_⟩
  have h1 := hall e he hb
  rw [heq, getD_both (mem_ready.1 hi).1] at h1
  cases h1
theorem HeadQ.first {i : Nat} {oi : Oper} {v : Value} (hi : ops[i]? = some oi) (hsel : ∀ (j : Nat) (o : Oper) cs b, ops[j]? = some o → o.op ≠ .select cs b)
    (hs : Region.sinkB md ops n = true) (hc : Region.chainB md ops n = true) (hn : n < ops.size) (hin : i < n) : ∀ (f : Nat) (ls : Array Bool) (a : Act), HeadInv md ops n ls → FreeOf md ops ls i oi → i ∈ Region.ready md ops ls → YieldsIn P ops C oi v a →
      HeadQ P md ops C n L f (ls.setIfInBounds i true) (a.put oi.dst v) → HeadQ P md ops C n L (f + 1) ls a
  | f, ls, a, inv, hf, hr, hy, H => by
    have hlow : ∀ j ∈ Region.ready md ops ls, j < n := fun j hj => Nat.lt_of_not_ge fun hge => tail_waits hs hc hn inv _ i rfl hin (mem_ready.1 hr).1 j hge hj
    refine ⟨fun h => (by rw [h] at hr; cases hr), fun j hj => ⟨hlow j hj, ?_⟩⟩
    by_cases hji : j = i
    · subst hji
      exact hy.qOp hi H
    · obtain ⟨_, oj, hoj, _⟩ := mem_ready.1 hj
      obtain ⟨hun, hno⟩ := ready_waits hr hj hoj
      cases f with
      | zero => exact absurd (seqB_ready H.1 j (ready_mono hj hji)) (Nat.not_le_of_lt (hlow j hj))
      | succ f =>
        have h2 := qOp_put hoj (hf j oj hoj hji hun hno) (fun cs b => hsel i oi cs b hi) (fun cs b => hsel j oj cs b hoj) hy (H.2 j (ready_mono hj hji)).2
        refine qOp_mono (fun a' h3 => ?_) h2
        refine HeadQ.first hi hsel hs hc hn hin f (ls.setIfInBounds j true) a' (inv.set hj (hlow j hj)) (hf.less hun) (ready_mono hr (Ne.symm hji)) h3.1 ?_
        rw [Array.setIfInBounds_comm _ _ hji]
        exact h3.2
theorem HeadQ.lex (hsel : Region.noSelect ops = true) (hs : Region.sinkB md ops n = true) (hc : Region.chainB md ops n = true) (hn : n < ops.size) : ∀ (l : List Oper) (k : Nat) (ls : Array Bool) (a : Act), (∀ j, j < l.length → l[j]? = ops[k + j]?) → k + l.length = n → HeadInv md ops n ls →
    Region.lexHead md ops (ops.size - n) l.length k ls = true → wpQuiet P ops C L l a → HeadQ P md ops C n L l.length ls a
  | [], k, ls, a, _, hk, _, hB, h => by
    have : k = n := by simpa using hk
    subst this
    exact ⟨by simpa [Region.lexHead] using hB, h⟩
  | o :: l, k, ls, a, hl, hk, inv, hB, h => by
    have h0 : ops[k]? = some o := by simpa using (hl 0 (by simp)).symm
    simp only [List.length_cons, Region.lexHead, Bool.and_eq_true] at hB
    obtain ⟨⟨hr, hf⟩, hB'⟩ := hB
    have hr' : k ∈ Region.ready md ops ls := by simpa using hr
    have hkn : k < n := by simp only [List.length_cons] at hk; omega
    have hq : qOp P ops C k (wpQuiet P ops C L l) a := by
      unfold qOp
      simp only [h0]
      exact h
    obtain ⟨v, hy, hK⟩ := yieldsIn_of_qOp h0 hq
    refine HeadQ.first h0 (Region.noSelect_spec hsel) hs hc hn hkn l.length ls a inv (Region.free_spec h0 hf) hr' hy ?_
    exact HeadQ.lex hsel hs hc hn l (k + 1) _ _ (fun j hj => by have := hl (j + 1) (by simp; omega); simpa [Nat.add_assoc, Nat.add_comm 1 j] using this) (by simp only [List.length_cons] at hk; omega) (inv.set hr' hkn) hB' hK
variable {F : Fence} {m : Nat} {Q : Exit → Act → World → Prop}
theorem wpAnyIn_of_head (hF : Open F) (hd : noDefer ops = true) {g : Nat} (hL : ∀ ls a w, C w → Region.seqB md ops (ops.size - n) n ls = true → L a → wpAnyIn F m P md ops Q g ls a w) : ∀ (f : Nat) (ls : Array Bool) (a : Act) (w : World), C w → HeadQ P md ops C n L f ls a → wpAnyIn F m P md ops Q (f + g) ls a w
  | 0, ls, a, w, hw, h => by rw [Nat.zero_add]; exact hL _ _ _ hw h.1 h.2
  | f + 1, ls, a, w, hw, h => by
    rw [show f + 1 + g = (f + g) + 1 by omega]
    exact ⟨fun h0 => absurd h0 h.1, fun i hi => wpOpIn_of_qOp hF hd hw (fun a' w' hw' h' => wpAnyIn_of_head hF hd hL f _ a' w' hw' h') (h.2 i hi).2⟩
theorem wpAnyIn_of_seq : ∀ (l : List Oper) (k : Nat) (ls : Array Bool) (a : Act) (w : World), (∀ j, l[j]? = ops[k + j]?) → Region.seqB md ops l.length k ls = true → wpListIn F m P ops Q l a w → wpAnyIn F m P md ops Q l.length ls a w
  | [], _, _, _, _, _, hB, h => ⟨by simpa [Region.seqB] using hB, h⟩
  | o :: l, k, ls, a, w, hl, hB, h => by
    have h0 : ops[k]? = some o := by simpa using (hl 0).symm
    simp only [List.length_cons, Region.seqB, Bool.and_eq_true, decide_eq_true_eq] at hB
    refine ⟨fun h1 => (by rw [hB.1] at h1; cases h1), fun i hi => ?_⟩
    rw [hB.1] at hi
    have hik : i = k := by simpa using hi
    subst hik
    have IH := fun a' w' (h' : wpListIn F m P ops Q l a' w') => wpAnyIn_of_seq l (i + 1) (ls.setIfInBounds i true) a' w' (fun j => by have := hl (j + 1); simpa [Nat.add_assoc, Nat.add_comm 1 j] using this) hB.2 h'
    unfold wpOpIn
    simp only [h0]
    unfold wpListIn at h
    split
    · rename_i hw
      rw [if_pos hw] at h
      exact Oper.wpIn_mono IH h
    · rename_i hw
      rw [if_neg hw] at h
      exact ⟨h.1, IH _ _ h.2⟩
/-- the first k operations read, or call functions that make memory; the rest comes in one order. -/
theorem wpIn_region_head {id : Nat} {a : Act} {w : World} {l : List Oper} (k : Nat) (hF : Open F) (hm : P.follows .mixedOrders = true) (hd : noDefer l.toArray = true) (hB : Region.lexTailB .any l.toArray k = true)
    (h : wpQuiet P l.toArray (fun w' => ∃ s : Bel w, w' = s.w) (fun a' => ∀ s : Bel w, wpListIn F m P l.toArray Q (l.drop k) a' s.w) (l.take k) a) : (Code.region id l.toArray true).wpIn F m P Q a w := by
  simp only [Region.lexTailB, Bool.and_eq_true, decide_eq_true_eq] at hB
  obtain ⟨⟨⟨⟨hsel, hn⟩, hs⟩, hc⟩, hlex⟩ := hB
  have hk : k < l.length := by simpa using hn
  have htl : (l.take k).length = k := by simp; omega
  have hdl : (l.drop k).length = l.toArray.size - k := by simp
  have inv0 : HeadInv .any l.toArray k (Array.replicate l.toArray.size false) :=
    ⟨by simp, fun j oj _ hl => (by rw [getD_replicate_false] at hl; cases hl), fun t _ ht => getD_in (by simpa using ht) (getD_replicate_false _ _)⟩
  have H := HeadQ.lex (md := .any) hsel hs hc hn (l.take k) 0 _ a (fun j hj => by
    have hj' : j < k := by rw [htl] at hj; exact hj
    simp [hj']) (by simpa using htl) inv0 (by rw [htl]; exact hlex) h
  refine wpIn_region_any hm ?_
  have key := wpAnyIn_of_head (Q := Q) (m := m) (g := l.toArray.size - k) hF hd (fun ls a' w' hw hq hL => by
    obtain ⟨s, rfl⟩ := hw
    have := wpAnyIn_of_seq (md := .any) (Q := Q) (F := F) (m := m) (P := P) (ops := l.toArray) (l.drop k) k ls a' s.w (fun j => by simp [List.getElem?_drop]) (by rw [hdl]; exact hq) (hL s)
    rwa [hdl] at this) _ _ a { w with drawn := w.drawn + 1 } ⟨Bel.mk' w.drew (below_drew1 (Below.refl _ _)), rfl⟩ H
  rw [htl, show k + (l.toArray.size - k) = l.toArray.size by omega] at key
  exact key
end
end Go.Proofs.YtjgohmfmalcjoaaDoor.Base
