import Derived.Test.YtnjplichhkmmhaaMc
import Derived.Test.YtnjplichhkmmhaaMf
import Derived.Lib.SmallJoins
import Derived.ChangeArms
/- Arguments that are structs, opened to plain values. -/
namespace Go.Proofs.Ytnjplichhkmmhaa.CalW
open Go.RowKit Go.ChangeShapes Go.WideShapes Go.Proofs.Ytnjplichhkmmhaa.Base Go.Proofs.Ytnjplichhkmmhaa.Cal
set_option linter.unusedVariables false
set_option linter.unusedSimpArgs false

section
variable {H : Type} {enc : TypeId × Value → H} {W : World} {base b0 : Nat} {sp : Nat → Bool} {held : Bool} {r : Reach}
theorem cells_int : Try.prog.cellsOf 3 = 1 := by kernel_rfl
theorem cells_string : Try.prog.cellsOf 9 = 1 := by kernel_rfl
theorem cells_turn : Try.prog.cellsOf 23 = 4 := by kernel_rfl
theorem cells_zone : Try.prog.cellsOf 25 = 11 := by kernel_rfl
theorem cells_date : Try.prog.cellsOf 34 = 7 := by kernel_rfl
theorem trod_int1 {n : Nat} {c : Value} {x : DataW H × List MemPlace} {t : TypeId} (ht : Try.prog.underlying t = some (.int .i64)) (h : DataW.trod enc Try.prog W base sp held n t [c] = some x) : ∃ i, c = .int .i64 i := by
  obtain ⟨i, e, _, _⟩ := DataW.trod_int ht h
  exact ⟨i, by simpa using e⟩
theorem trod_str1 {n : Nat} {c : Value} {x : DataW H × List MemPlace} {t : TypeId} (ht : Try.prog.underlying t = some .string) (h : DataW.trod enc Try.prog W base sp held n t [c] = some x) : ∃ s : ByteArray, c = .string s ∧ s.size ≤ maxLen := by
  obtain ⟨s, e, _, hs⟩ := DataW.trod_string ht h
  exact ⟨s, by simpa using e, hs⟩
/-- a field's reading, made plain. -/
theorem fld {P : Program} {n : Nat} {t : TypeId} {cs ds : List Value} {o k : Nat} {xs : List (DataW H × List MemPlace)} {i m : Nat} (h : DataW.trod enc P W base sp held n t ((cs.drop o).take k) = xs[i]?) (hk : k = m) (hd : (cs.drop o).take m = ds) (hi : i < xs.length) : ∃ x, DataW.trod enc P W base sp held n t ds = some x := by
  subst hk; subst hd
  exact ⟨xs[i], h.trans (List.getElem?_eq_getElem hi)⟩
theorem trod_turn {n : Nat} {c0 c1 c2 c3 : Value} {x : DataW H × List MemPlace} (h : DataW.trod enc Try.prog W base sp held n 23 [c0, c1, c2, c3] = some x) : ∃ a b c d, c0 = .int .i64 a ∧ c1 = .int .i64 b ∧ c2 = .int .i64 c ∧ c3 = .int .i64 d := by
  obtain ⟨xs, m, _, _, _, hlen, hg⟩ := DataW.trod_struct Try.underlying23 h
  have hl : xs.length = 4 := hlen
  obtain ⟨_, g0⟩ := fld (hg 0 _ rfl) cells_int rfl (by omega)
  obtain ⟨_, g1⟩ := fld (hg 1 _ rfl) cells_int rfl (by omega)
  obtain ⟨_, g2⟩ := fld (hg 2 _ rfl) cells_int rfl (by omega)
  obtain ⟨_, g3⟩ := fld (hg 3 _ rfl) cells_int rfl (by omega)
  obtain ⟨a, ha⟩ := trod_int1 Try.underlying3 g0
  obtain ⟨b, hb⟩ := trod_int1 Try.underlying3 g1
  obtain ⟨c, hc⟩ := trod_int1 Try.underlying3 g2
  obtain ⟨d, hd⟩ := trod_int1 Try.underlying3 g3
  exact ⟨a, b, c, d, ha, hb, hc, hd⟩
set_option maxRecDepth 20000 in
theorem open_zone {v : Value} {d : DataW H} {p : List MemPlace} (hv : Value.okWide Try.prog W r b0 25 v) (h : DataW.Trod enc Try.prog W base sp held 25 v d p) : ∃ z : Zone, v = zval z ∧ z.name.size ≤ maxLen := by
  obtain ⟨cs, rfl, hsz⟩ := okWide_struct Try.underlying25 hv
  obtain ⟨l⟩ := cs
  have hsl : l.length = 11 := by rw [cells_zone] at hsz; exact hsz
  clear hsz
  match l, hsl with
  | [c0, c1, c2, c3, c4, c5, c6, c7, c8, c9, c10], _ =>
    obtain ⟨fuel, hf⟩ := h
    obtain ⟨xs, m, _, _, _, hlen, hg⟩ := DataW.trod_struct Try.underlying25 hf
    have hl : xs.length = 5 := hlen
    obtain ⟨_, g0⟩ := fld (hg 0 _ rfl) cells_string rfl (by omega)
    obtain ⟨_, g1⟩ := fld (hg 1 _ rfl) cells_int rfl (by omega)
    obtain ⟨_, g2⟩ := fld (hg 2 _ rfl) cells_int rfl (by omega)
    obtain ⟨_, g3⟩ := fld (hg 3 _ rfl) cells_turn rfl (by omega)
    obtain ⟨_, g4⟩ := fld (hg 4 _ rfl) cells_turn rfl (by omega)
    obtain ⟨s, rfl, hs⟩ := trod_str1 Try.underlying9 g0
    obtain ⟨a, rfl⟩ := trod_int1 Try.underlying3 g1
    obtain ⟨b, rfl⟩ := trod_int1 Try.underlying3 g2
    obtain ⟨b0, b1, b2, b3, rfl, rfl, rfl, rfl⟩ := trod_turn g3
    obtain ⟨e0, e1, e2, e3, rfl, rfl, rfl, rfl⟩ := trod_turn g4
    exact ⟨⟨s, a, b, ⟨b0, b1, b2, b3⟩, ⟨e0, e1, e2, e3⟩⟩, rfl, hs⟩
set_option maxRecDepth 20000 in
theorem open_date {v : Value} {d : DataW H} {p : List MemPlace} (hv : Value.okWide Try.prog W r b0 34 v) (h : DataW.Trod enc Try.prog W base sp held 34 v d p) : ∃ z : Date, v = dval z ∧ True := by
  obtain ⟨cs, rfl, hsz⟩ := okWide_struct Try.underlying34 hv
  obtain ⟨l⟩ := cs
  have hsl : l.length = 7 := by rw [cells_date] at hsz; exact hsz
  clear hsz
  match l, hsl with
  | [c0, c1, c2, c3, c4, c5, c6], _ =>
    obtain ⟨fuel, hf⟩ := h
    obtain ⟨xs, m, _, _, _, hlen, hg⟩ := DataW.trod_struct Try.underlying34 hf
    have hl : xs.length = 7 := hlen
    obtain ⟨_, g0⟩ := fld (hg 0 _ rfl) cells_int rfl (by omega)
    obtain ⟨_, g1⟩ := fld (hg 1 _ rfl) cells_int rfl (by omega)
    obtain ⟨_, g2⟩ := fld (hg 2 _ rfl) cells_int rfl (by omega)
    obtain ⟨_, g3⟩ := fld (hg 3 _ rfl) cells_int rfl (by omega)
    obtain ⟨_, g4⟩ := fld (hg 4 _ rfl) cells_int rfl (by omega)
    obtain ⟨_, g5⟩ := fld (hg 5 _ rfl) cells_int rfl (by omega)
    obtain ⟨_, g6⟩ := fld (hg 6 _ rfl) cells_int rfl (by omega)
    obtain ⟨a0, rfl⟩ := trod_int1 Try.underlying3 g0
    obtain ⟨a1, rfl⟩ := trod_int1 Try.underlying3 g1
    obtain ⟨a2, rfl⟩ := trod_int1 Try.underlying3 g2
    obtain ⟨a3, rfl⟩ := trod_int1 Try.underlying3 g3
    obtain ⟨a4, rfl⟩ := trod_int1 Try.underlying3 g4
    obtain ⟨a5, rfl⟩ := trod_int1 Try.underlying3 g5
    obtain ⟨a6, rfl⟩ := trod_int1 Try.underlying3 g6
    exact ⟨⟨a0, a1, a2, a3, a4, a5, a6⟩, rfl, trivial⟩
end
end Go.Proofs.Ytnjplichhkmmhaa.CalW
