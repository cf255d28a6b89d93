import Derived.Test.YtjgohmfmalcjoaaDoorMa
import Derived.Lib.AppendStr
/- Appending lists to a list that the call owns, an element a cell. -/
namespace Go.Proofs.YtjgohmfmalcjoaaDoor.Base
open Go.RowKit
set_option linter.unusedVariables false
set_option linter.unusedSimpArgs false
section
variable {α : Type} {f : α → Value} {P : Program} {w : World} {base : Nat} {e : TypeId} {A X : Option Addr} {c cx : Nat} {l r : List α}
theorem own_cap {n : Nat} {xs : List Value} (hown : w.ownsRow base e 1 (.slice A n c) n xs) : n ≤ c := by
  rcases hown.2 with ⟨_, h0⟩ | ⟨g, cap, cur, hv, _, _, h3, _⟩
  · omega
  · cases hv; exact h3
theorem run_append_G (hf1 : ∀ x, (f x).oneCell' = true) (t ty : TypeId) (i : TypeInfo) (z : Value) (by_ : Nat) (ht : P.underlying t = some (.slice e)) (hi : P.info? e = some i) (hz : i.zero = some z) (hsize : i.size = 1) (hby : i.bytes = by_) (hzs : z.cells.size = 1)
    (hown : w.ownsRow base e 1 (.slice A l.length c) l.length (l.map f)) (hx : Rd w f X r) (h63 : l.length + r.length ≤ maxLen) (h48 : (l.length + r.length) * by_ ≤ 140737488355328) (hbase : base ≤ w.heap.size) :
    ∃ A' c' w', (Builtin.append_ #[t, t] ty #[.slice A l.length c, .slice X r.length cx]).run P w = .ok (.slice A' (l ++ r).length c') w' ∧ w'.ownsRow base e 1 (.slice A' (l ++ r).length c') (l ++ r).length ((l ++ r).map f) ∧ w.grownBy w' (Value.slice A l.length c).ownBlock ∧ ((Value.slice A' (l ++ r).length c').ownBlock = (Value.slice A l.length c).ownBlock ∨ (Value.slice A' (l ++ r).length c').ownBlock = some w.heap.size) := by
  have some_ : ∀ (ad : Addr), (∀ j u, (r.map f)[j]? = some u → w.cell? (ad.add j) = some u) → ∃ A' c' w', (Builtin.append_ #[t, t] ty #[.slice A l.length c, .slice (some ad) r.length cx]).run P w = .ok (.slice A' (l ++ r).length c') w' ∧ w'.ownsRow base e 1 (.slice A' (l ++ r).length c') (l ++ r).length ((l ++ r).map f) ∧ w.grownBy w' (Value.slice A l.length c).ownBlock ∧ ((Value.slice A' (l ++ r).length c').ownBlock = (Value.slice A l.length c).ownBlock ∨ (Value.slice A' (l ++ r).length c').ownBlock = some w.heap.size) := fun ad hc => by
    obtain ⟨v', w', h1, h2, h3, _, h5⟩ := run_append_own_at (P := P) w base t ty e i z 1 by_ ht hi hz hsize hby hzs (by omega) _ l.length _ hown ad r.length cx (r.map f) (by simp) hc (fun u hu => by obtain ⟨x, _, rfl⟩ := List.mem_map.1 hu; exact hf1 x) h63 h48 hbase
    obtain ⟨A', c', rfl⟩ := own_form h2
    refine ⟨A', c', w', by rw [List.length_append]; exact h1, by rw [List.length_append, List.map_append]; exact h2, h3, by cases A' <;> simpa [Value.ownBlock] using h5⟩
  by_cases hr : r = []
  · subst hr
    cases X with
    | some ad => exact some_ ad (by simp)
    | none =>
      refine ⟨A, c, w, ?_, by simpa using hown, ⟨rfl, rfl, rfl, Nat.le_refl _, fun _ _ _ => rfl⟩, .inl (by cases A <;> simp [Value.ownBlock])⟩
      have hn := own_cap hown
      simp only [List.append_nil, List.length_nil]
      cases A <;> simp [Builtin.append_, run_underlying ht, sizeOf, typeInfo, hi, Builtin.lenOf, Builtin.firstCells, loadCells, loadCellsFrom, hn, storeCells]
  · obtain ⟨ad, rfl, _, hc⟩ := hx (List.length_pos_iff.2 hr)
    refine some_ ad (fun j u hu => ?_)
    rw [List.getElem?_map] at hu
    cases hj : r[j]? with
    | none => rw [hj] at hu; cases hu
    | some x => rw [hj] at hu; cases hu; exact hc j x hj
/-- append of a list, for the walk: an operation that the order wants. -/
theorem wpList_appG {ops : Array Oper} {rest : List Oper} {o : Oper} {a : Act} {Q : Exit → Act → World → Prop} (hf1 : ∀ x, (f x).oneCell' = true) (hw : Region.wanted o (yielded ops a.tmps) = true) (s x : Operand) (t : TypeId)
    (ho : o.op = .call { callee := .builtin .append, args := #[s, x], argTypes := #[t, t] }) (i : TypeInfo) (z : Value) (by_ : Nat) (ht : P.underlying t = some (.slice e)) (hi : P.info? e = some i) (hz : i.zero = some z) (hsize : i.size = 1) (hby : i.bytes = by_) (hzs : z.cells.size = 1)
    (hs : a.eval s = .slice A l.length c) (hown : w.ownsRow base e 1 (.slice A l.length c) l.length (l.map f)) (hxv : a.eval x = .slice X r.length cx) (hx : Rd w f X r) (h63 : l.length + r.length ≤ maxLen) (h48 : (l.length + r.length) * by_ ≤ 140737488355328) (hbase : base ≤ w.heap.size)
    (h : ∀ A' c' w', w'.ownsRow base e 1 (.slice A' (l ++ r).length c') (l ++ r).length ((l ++ r).map f) → w.grownBy w' (Value.slice A l.length c).ownBlock → ((Value.slice A' (l ++ r).length c').ownBlock = (Value.slice A l.length c).ownBlock ∨ (Value.slice A' (l ++ r).length c').ownBlock = some w.heap.size) → wpList P ops Q rest (a.put o.dst (.slice A' (l ++ r).length c')) w') :
    wpList P ops Q (o :: rest) a w := by
  refine wpList_step fun K hK => ?_
  rw [if_pos hw]
  obtain ⟨A', c', w', hr, h2, h3, h5⟩ := run_append_G (P := P) (cx := cx) hf1 t o.type i z by_ ht hi hz hsize hby hzs hown hx h63 h48 hbase
  unfold Oper.wp execOp
  simp only [ho, resolve, invoke, builtin, Sem.run_bind, Sem.run_pure, Result.andThen_ok, List.map_toArray, List.map_cons, List.map_nil, hs, hxv, hr]
  exact hK _ _ (h A' c' w' h2 h3 h5)
/-- a list of cells in a new block reads as a list. -/
theorem rd_new {g : Nat} {t : TypeId} {cs : Array Value} (h : Bk w g t cs) (hc : cs = (r.map f).toArray) : Rd w f (some ⟨g, 0, none⟩) r := fun _ => by
  refine ⟨_, rfl, h.lt, fun j x hx => ?_⟩
  have hj : (⟨g, 0, none⟩ : Addr).add j = ⟨g, j, none⟩ := by unfold Addr.add; split <;> simp_all
  rw [hj, h.cell j, hc]
  simp [hx]
theorem Rd.grown {w' : World} {row : Option Nat} (h : Rd w f X r) (hg : w.grownBy w' row) (hne : ∀ ad, X = some ad → some ad.block ≠ row) : Rd w' f X r := fun hn => by
  obtain ⟨ad, e, hb, hc⟩ := h hn
  exact ⟨ad, e, Nat.lt_of_lt_of_le hb hg.size, fun j x hx => hg.cell (hc j x hx) (by rw [blk_add]; exact hne ad e)⟩
theorem Rd.off {row row' : Option Nat} (h : Rd w f X r) (hn : 0 < r.length) (hne : ∀ ad, X = some ad → some ad.block ≠ row) (lies : row' = row ∨ row' = some w.heap.size) : ∀ ad, X = some ad → some ad.block ≠ row' := fun ad e => by
  rcases lies with rfl | rfl
  · exact hne ad e
  · obtain ⟨ad', e', hb, _⟩ := h hn
    rw [e] at e'
    injection e' with e'
    subst e'
    intro he
    injection he with he
    omega
/-- what is read of a part of a list. -/
theorem Rd.take {ad : Option Addr} (h : Rd w f ad r) (k : Nat) : Rd w f ad (r.take k) := fun hn => by
  obtain ⟨ad, e, hb, hc⟩ := h (by rw [List.length_take] at hn; omega)
  exact ⟨ad, e, hb, fun j x hx => hc j x (by
    have hj : j < k := by have := (List.getElem?_eq_some_iff.1 hx).1; rw [List.length_take] at this; omega
    rwa [List.getElem?_take_of_lt hj] at hx)⟩
theorem Addr.add_add (a : Addr) (i j : Nat) : (a.add i).add j = a.add (i + j) := by
  unfold Addr.add
  by_cases hi : i = 0
  · subst hi; simp
  · by_cases hj : j = 0
    · subst hj; simp [hi]
    · simp [hi, hj]; omega
theorem Rd.drop {ad : Addr} (h : Rd w f (some ad) r) (k : Nat) : Rd w f (some (ad.add k)) (r.drop k) := fun hn => by
  obtain ⟨ad', e, hb, hc⟩ := h (by rw [List.length_drop] at hn; omega)
  injection e with e
  subst e
  exact ⟨_, rfl, by rw [blk_add]; exact hb, fun j x hx => by
    rw [Addr.add_add]
    rw [List.getElem?_drop] at hx
    exact hc _ _ hx⟩
end
/-- what the call owns, and what else has become of memory. -/
structure Ow {α : Type} (f : α → Value) (t : TypeId) (w wr : World) (l : List α) (A : Option Addr) (c : Nat) : Prop where
  own : wr.ownsRow w.heap.size t 1 (.slice A l.length c) l.length (l.map f)
  b : Below w.heap.size w wr
section
variable {α : Type} {f : α → Value} {t : TypeId} {w wr w' : World} {l l' : List α} {A A' : Option Addr} {c c' : Nat}
theorem Ow.nil (w : World) : Ow f t w w ([] : List α) none 0 := ⟨World.ownsRow_nil _ _ _ _, Below.refl _ _⟩
theorem Ow.bel (h : Ow f t w wr l A c) (hb : Below wr.heap.size wr w') : Ow f t w w' l A c := ⟨own_bel h.own hb, below_go h.b hb⟩
theorem Ow.dr (h : Ow f t w wr l A c) : Ow f t w wr.drew l A c := ⟨h.own.drew, below_drew1 h.b⟩
theorem Ow.al (h : Ow f t w wr l A c) (o : Obj) : Ow f t w (wr.alloc o) l A c := h.bel (below_al (Below.refl _ _) _)
theorem Ow.app (h : Ow f t w wr l A c) (hg : wr.grownBy w' (Value.slice A l.length c).ownBlock) (hown : w'.ownsRow w.heap.size t 1 (.slice A' l'.length c') l'.length (l'.map f)) : Ow f t w w' l' A' c' := ⟨hown, below_grown h.b hg h.own (Nat.le_refl _)⟩
theorem Ow.rd (h : Ow f t w wr l A c) : Rd wr f A l := Rd.own h.own
end
end Go.Proofs.YtjgohmfmalcjoaaDoor.Base
