/- A region that draws its order, outside fences: a head of operations that read or whose callees make memory, in whatever order; a tail of one order. -/
import Derived.Test.YtjgohmfmalcjoaaDoorBase6
namespace Go.Proofs.YtjgohmfmalcjoaaDoor.Base
open Go.RowKit Go.Shelf
set_option linter.unusedVariables false
set_option linter.unusedSimpArgs false
section
variable {P : Program} {ops : Array Oper} {md : Region.Mode} {C : World → Prop} {n : Nat} {L : Act → Prop} {Q : Exit → Act → World → Prop}
theorem wpAny_of_headC {g : Nat} (hL : ∀ ls a w, C w → Region.seqB md ops (ops.size - n) n ls = true → L a → wpAny P md ops Q g ls a w) : ∀ (f : Nat) (ls : Array Bool) (a : Act) (w : World), C w → HeadQ P md ops C n L f ls a → wpAny P md ops Q (f + g) ls a w
  | 0, ls, a, w, hw, h => by rw [Nat.zero_add]; exact hL _ _ _ hw h.1 h.2
  | f + 1, ls, a, w, hw, h => by
    rw [show f + 1 + g = (f + g) + 1 by omega]
    exact ⟨fun h0 => absurd h0 h.1, fun i hi => wpOp_of_qOp hw (fun a' w' hw' h' => wpAny_of_headC hL f _ a' w' hw' h') (h.2 i hi).2⟩
theorem wp_region_head {id : Nat} {a : Act} {w : World} {l : List Oper} (k : Nat) (hm : P.follows .mixedOrders = true) (hB : Region.lexTailB .any l.toArray k = true)
    (h : wpQuiet P l.toArray (fun w' => ∃ s : Bel w, w' = s.w) (fun a' => ∀ s : Bel w, wpList P l.toArray Q (l.drop k) a' s.w) (l.take k) a) : (Code.region id l.toArray true).wp P Q a w := by
  simp only [Region.lexTailB, Bool.and_eq_true, decide_eq_true_eq] at hB
  obtain ⟨⟨⟨⟨hsel, hn⟩, hs⟩, hc⟩, hlex⟩ := hB
  have hk : k < l.length := by simpa using hn
  have htl : (l.take k).length = k := by simp; omega
  have hdl : (l.drop k).length = l.toArray.size - k := by simp
  have inv0 : HeadInv .any l.toArray k (Array.replicate l.toArray.size false) :=
    ⟨by simp, fun j oj _ hl => (by rw [getD_replicate_false] at hl; cases hl), fun t _ ht => getD_in (by simpa using ht) (getD_replicate_false _ _)⟩
  have H := HeadQ.lex (md := .any) hsel hs hc hn (l.take k) 0 _ a (fun j hj => by
    have hj' : j < k := by rw [htl] at hj; exact hj
    simp [hj']) (by simpa using htl) inv0 (by rw [htl]; exact hlex) h
  refine wp_region_any hm ?_
  have key := wpAny_of_headC (Q := Q) (g := l.toArray.size - k) (fun ls a' w' hw hq hL => by
    obtain ⟨s, rfl⟩ := hw
    have := wpAny_of_seq (md := .any) (Q' := Q) (P := P) (ops := l.toArray) (w := s.w) (l.drop k) k ls a' (fun j => by simp [List.getElem?_drop]) (by rw [hdl]; exact hq) (hL s)
    rwa [hdl] at this) _ _ a { w with drawn := w.drawn + 1 } ⟨Bel.mk' w.drew (below_drew1 (Below.refl _ _)), rfl⟩ H
  rw [htl, show k + (l.toArray.size - k) = l.toArray.size by omega] at key
  exact key
end
end Go.Proofs.YtjgohmfmalcjoaaDoor.Base
