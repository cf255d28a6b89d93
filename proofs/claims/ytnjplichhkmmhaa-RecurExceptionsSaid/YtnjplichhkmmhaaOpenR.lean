import Derived.Test.YtnjplichhkmmhaaOpen
import Derived.Test.YtnjplichhkmmhaaMi
import Derived.ChangeSlices
import Derived.SizedLaws
/- An argument of type api.Recurrence, opened to a plain rule. -/
namespace Go.Proofs.Ytnjplichhkmmhaa.CalW
open Go.RowKit Go.ChangeShapes Go.WideShapes Go.Proofs.Ytnjplichhkmmhaa.Base Go.Proofs.Ytnjplichhkmmhaa.Cal
set_option linter.unusedVariables false
set_option linter.unusedSimpArgs false
section
variable {H : Type} {enc : TypeId × Value → H} {W : World} {base b0 : Nat} {sp : Nat → Bool} {held : Bool} {r : Reach}
theorem cells_ints : Try.prog.cellsOf 35 = 1 := by kernel_rfl
theorem cells_bool : Try.prog.cellsOf 4 = 1 := by kernel_rfl
theorem cells_rec : Try.prog.cellsOf 49 = 8 := by kernel_rfl
theorem bytes_int : Try.prog.bytesOf 3 = 8 := by kernel_rfl
theorem fldx {P : Program} {n : Nat} {t : TypeId} {cs ds : List Value} {o k : Nat} {xs : List (DataW H × List MemPlace)} {i m : Nat} (h : DataW.trod enc P W base sp held n t ((cs.drop o).take k) = xs[i]?) (hk : k = m) (hd : (cs.drop o).take m = ds) (hi : i < xs.length) : ∃ x, xs[i]? = some x ∧ DataW.trod enc P W base sp held n t ds = some x := by
  subst hk; subst hd
  exact ⟨xs[i], List.getElem?_eq_getElem hi, h.trans (List.getElem?_eq_getElem hi)⟩
theorem trod_ints1 {n : Nat} {c : Value} {x : DataW H × List MemPlace} (h : DataW.trod enc Try.prog W base sp held n 35 [c] = some x) (hw : ∀ m ∈ x.1.weights Try.prog 35, m ≤ reachBytes) :
    ∃ (A : Option Addr) (l : List Int) (k : Nat), c = .slice A l.length k ∧ Rd W iv A l ∧ l.length ≤ 17592186044032 ∧ I64 l := by
  rcases open_ints Try.underlying35 Try.underlying3 cells_int h with ⟨e, _⟩ | ⟨a, len, cap, zs, e, _, hlc, _, hzl, hx, hcell, hwf⟩
  · exact ⟨none, [], 0, by simpa using e, Rd.nil, by simp, by simp [I64]⟩
  · have hl : len ≤ zs.length := by rw [hzl]; split <;> omega
    have ht : (zs.take len).length = len := by rw [List.length_take]; omega
    have hs := hw (((lits (H := H) .i64 (zs.take len)).length + (lits (H := H) .i64 (zs.drop len)).length) * Try.prog.bytesOf 3) (by rw [hx]; simp [DataW.weights, Try.underlying35])
    rw [bytes_int] at hs
    simp only [lits, List.length_map, List.length_take, List.length_drop] at hs
    have hr : reachBytes = 140737488351232 := rfl
    refine ⟨some a, zs.take len, cap, by rw [ht]; simpa using e, fun hn => ⟨a, rfl, ?_, fun j y hy => ?_⟩, by rw [ht]; omega, fun y hy => bounds_i64 (hwf y (List.mem_of_mem_take hy))⟩
    · have h0 := hcell 0 (by omega)
      refine Decidable.byContradiction fun hnb => ?_
      have hnone : W.heap[(a.add 0).block]? = none := by rw [blk_add]; exact Array.getElem?_eq_none (by omega)
      unfold World.cell? at h0
      rw [hnone] at h0
      cases h0
    · have hj : j < len := by
        have := (List.getElem?_eq_some_iff.1 hy).1
        omega
      rw [List.getElem?_take_of_lt hj] at hy
      rw [hcell j (by omega), List.getD, hy]
      rfl
set_option maxRecDepth 20000 in
theorem open_rec {v : Value} {d : DataW H} {p : List MemPlace} (hv : Value.okWide Try.prog W r b0 49 v) (h : DataW.Trod enc Try.prog W base sp held 49 v d p) (hw : ∀ m ∈ d.weights Try.prog 49, m ≤ reachBytes) : ∃ (r : Rule) (sr : RS), v = rval r sr ∧ RuleAt W r sr := by
  obtain ⟨cs, rfl, hsz⟩ := okWide_struct Try.underlying49 hv
  obtain ⟨l⟩ := cs
  have hsl : l.length = 8 := by rw [cells_rec] at hsz; exact hsz
  clear hsz
  match l, hsl with
  | [c0, c1, c2, c3, c4, c5, c6, c7], _ =>
    obtain ⟨fuel, hf⟩ := h
    obtain ⟨xs, m, _, hx, _, hlen, hg⟩ := DataW.trod_struct Try.underlying49 hf
    have hl : xs.length = 8 := hlen
    simp only [Prod.mk.injEq] at hx
    have hd := hx.1
    subst hd
    obtain ⟨_, _, g0⟩ := fldx (hg 0 _ rfl) cells_int rfl (by omega)
    obtain ⟨_, _, g1⟩ := fldx (hg 1 _ rfl) cells_int rfl (by omega)
    obtain ⟨_, _, g2⟩ := fldx (hg 2 _ rfl) cells_int rfl (by omega)
    obtain ⟨_, _, g3⟩ := fldx (ds := [c3]) (hg 3 _ rfl) cells_int rfl (by omega)
    obtain ⟨_, _, g4⟩ := fldx (ds := [c4]) (hg 4 _ rfl) cells_bool rfl (by omega)
    obtain ⟨x5, e5, g5⟩ := fldx (hg 5 _ rfl) cells_ints rfl (by omega)
    obtain ⟨x6, e6, g6⟩ := fldx (hg 6 _ rfl) cells_ints rfl (by omega)
    obtain ⟨x7, e7, g7⟩ := fldx (hg 7 _ rfl) cells_ints rfl (by omega)
    have hws : ∀ (j : Nat) (x : DataW H × List MemPlace), xs[j]? = some x → ∀ t, ([3, 3, 3, 3, 4, 35, 35, 35] : List TypeId)[j]? = some t → ∀ n ∈ x.1.weights Try.prog t, n ≤ reachBytes := fun j x hj t ht n hn => by
      refine hw n ?_
      have := DataW.weights_mem_each (P := Try.prog) (ts := [3, 3, 3, 3, 4, 35, 35, 35]) (ds := xs.map (·.1)) (j := j) (t := t) (d := x.1) ht (by rw [List.getElem?_map, hj]; rfl) n hn
      rw [DataW.weights, Try.underlying49]
      exact this
    obtain ⟨a0, rfl⟩ := trod_int1 Try.underlying3 g0
    obtain ⟨a1, rfl⟩ := trod_int1 Try.underlying3 g1
    obtain ⟨a2, rfl⟩ := trod_int1 Try.underlying3 g2
    obtain ⟨a3, ea3, _, hw3⟩ := DataW.trod_int Try.underlying3 g3
    obtain rfl : c3 = .int .i64 a3 := by simpa using ea3
    obtain ⟨b4, eb4, _⟩ := DataW.trod_bool Try.underlying4 g4
    obtain rfl : c4 = .bool b4 := by simpa using eb4
    obtain ⟨A5, l5, k5, rfl, r5, n5, i5⟩ := trod_ints1 g5 (hws 5 x5 e5 _ rfl)
    obtain ⟨A6, l6, k6, rfl, r6, n6, i6⟩ := trod_ints1 g6 (hws 6 x6 e6 _ rfl)
    obtain ⟨A7, l7, k7, rfl, r7, n7, i7⟩ := trod_ints1 g7 (hws 7 x7 e7 _ rfl)
    exact ⟨⟨a0, a1, a2, a3, b4, l5, l6, l7⟩, ⟨A5, k5, A6, k6, A7, k7⟩, rfl, r5, r6, r7, n5, n6, n7, i5, i6, i7, (bounds_i64 hw3).1, (bounds_i64 hw3).2⟩
end
end Go.Proofs.Ytnjplichhkmmhaa.CalW
