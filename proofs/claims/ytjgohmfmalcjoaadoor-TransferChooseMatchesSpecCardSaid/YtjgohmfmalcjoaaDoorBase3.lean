/- Slices that read as lists. -/
import Derived.Test.YtjgohmfmalcjoaaDoorBase2
import Derived.Laws.AppendOwn
import Derived.Maps.AppendAt
namespace Go.Proofs.YtjgohmfmalcjoaaDoor.Base
open Go.RowKit
set_option linter.unusedSimpArgs false
set_option linter.unusedVariables false

/-- the slice at A reads as the list l, an element a cell, each told by f. -/
def Rd {α : Type} (w : World) (f : α → Value) (A : Option Addr) (l : List α) : Prop :=
  0 < l.length → ∃ ad, A = some ad ∧ ad.block < w.heap.size ∧ ∀ (j : Nat) (x : α), l[j]? = some x → w.cell? (ad.add j) = some (f x)
theorem blk_add (a : Addr) (n : Nat) : (a.add n).block = a.block := by unfold Addr.add; split <;> rfl
section
variable {α : Type} {w w' : World} {f : α → Value} {A : Option Addr} {l : List α}
theorem Rd.nil : Rd w f A ([] : List α) := fun h => by simp at h
theorem Rd.bel (h : Rd w f A l) (hb : Below w.heap.size w w') : Rd w' f A l := fun hn => by
  obtain ⟨ad, e, hlt, hc⟩ := h hn
  exact ⟨ad, e, Nat.lt_of_lt_of_le hlt hb.size, fun j x hx => by rw [hb.cell (by rw [blk_add]; exact hlt)]; exact hc j x hx⟩
theorem Rd.al (h : Rd w f A l) (o : Obj) : Rd (w.alloc o) f A l := h.bel (below_al (Below.refl _ _) _)
theorem Rd.dr (h : Rd w f A l) : Rd w.drew f A l := h
theorem Rd.at_ (h : Rd w f A l) {k : Nat} (hk : k < l.length) : ∃ ad, A = some ad ∧ ad.block < w.heap.size ∧ w.cell? (ad.add k) = some (f l[k]) := by
  obtain ⟨ad, e, hlt, hc⟩ := h (by omega)
  exact ⟨ad, e, hlt, hc k _ (List.getElem?_eq_getElem hk)⟩
theorem Rd.own {base : Nat} {e : TypeId} {n c : Nat} (h : w.ownsRow base e 1 (.slice A n c) n (l.map f)) : Rd w f A l := fun hn => by
  have hl : l.length = n := by have := h.1; simpa using this
  have hh := h.2
  rcases hh with ⟨_, h0⟩ | ⟨g, cap, cur, hv, _, hb, _⟩
  · omega
  have hA : A = some ⟨g, 0, none⟩ := by injection hv
  subst hA
  have hlt : g < w.heap.size := by
    rcases Nat.lt_or_ge g w.heap.size with hlt | hge
    · exact hlt
    · rw [Array.getElem?_eq_none hge] at hb; cases hb
  exact ⟨_, rfl, hlt, fun j x hx => h.cells (g := g) rfl j (f x) (by rw [List.getElem?_map, hx]; rfl)⟩
end
abbrev iv : Int → Value := Value.int .i64
theorem own_form {w : World} {base : Nat} {e : TypeId} {size : Nat} {v : Value} {n : Nat} {xs : List Value} (h : w.ownsRow base e size v n xs) : ∃ A c, v = .slice A n c := by
  rcases h.2 with ⟨rfl, rfl⟩ | ⟨g, cap, cur, rfl, _⟩
  · exact ⟨none, 0, rfl⟩
  · exact ⟨_, cap, rfl⟩
theorem own_bel {w w' : World} {base : Nat} {e : TypeId} {size : Nat} {v : Value} {n : Nat} {xs : List Value} (h : w.ownsRow base e size v n xs) (hb : Below w.heap.size w w') : w'.ownsRow base e size v n xs :=
  h.kept (row := none) ⟨hb.os, hb.tape, hb.output, hb.size, fun k hk _ => hb.block k hk⟩ (by
    cases hv : v.ownBlock
    · exact .inl rfl
    · exact .inr (by simp))
/-- a block below the base is as it was behind an append to a row of the call's own. -/
theorem Bk.grown {w w' : World} {g : Nat} {t : TypeId} {cs : Array Value} {base : Nat} {e : TypeId} {size : Nat} {v : Value} {n : Nat} {xs : List Value} (h : Bk w g t cs) (hg : w.grownBy w' v.ownBlock) (hown : w.ownsRow base e size v n xs) (hlt : g < base) : Bk w' g t cs :=
  (hg.block g h.lt (fun he => by have := (hown.lt g he.symm).1; omega)).trans h
theorem below_grown {a w w' : World} {base : Nat} {e : TypeId} {size : Nat} {v : Value} {n : Nat} {xs : List Value} (h : Below a.heap.size a w) (hg : w.grownBy w' v.ownBlock) (hown : w.ownsRow base e size v n xs) (hlt : a.heap.size ≤ base) : Below a.heap.size a w' :=
  h.grown hg h.size (fun k hk => by have := (hown.lt k hk).1; omega)
/-- append of one element that has just been laid in a block of its own. -/
theorem wpList_app1 {α : Type} {P : Program} {ops : Array Oper} {rest : List Oper} {o : Oper} {a : Act} {Q : Exit → Act → World → Prop} {w : World} (hgd : o.guard = none) (s x : Operand) (t : TypeId)
    (ho : o.op = .call { callee := .builtin .append, args := #[s, x], argTypes := #[t, t] })
    (base : Nat) (e : TypeId) (i : TypeInfo) (z : Value) (bytes : Nat) (ht : P.underlying t = some (.slice e)) (hi : P.info? e = some i) (hz : i.zero = some z)
    (hsize : i.size = 1) (hby : i.bytes = bytes) (hzs : z.cells.size = 1) (f : α → Value) (A : Option Addr) (c : Nat) (l : List α) (x0 : α) (cx : Nat)
    (hs : a.eval s = .slice A l.length c) (hown : w.ownsRow base e 1 (.slice A l.length c) l.length (l.map f)) (hx : a.eval x = .slice (some ⟨w.heap.size, 0, none⟩) 1 cx) (h1 : (f x0).oneCell' = true)
    (h63 : l.length + 1 ≤ maxLen) (hbytes : (l.length + 1) * bytes ≤ 140737488355328) (hbase : base ≤ w.heap.size)
    (h : ∀ A' c' w', w'.ownsRow base e 1 (.slice A' (l ++ [x0]).length c') (l ++ [x0]).length ((l ++ [x0]).map f) → w.grownBy w' (Value.slice A l.length c).ownBlock → wpList P ops Q rest (a.put o.dst (.slice A' (l ++ [x0]).length c')) w') :
    wpList P ops Q (o :: rest) a (w.alloc (.cells #[f x0] e)) := by
  refine wpList_append_own_at _ hgd s x t ho base e i z 1 bytes ht hi hz hsize hby hzs (by omega) _ l.length (l.map f) hs (hown.alloc _) ⟨w.heap.size, 0, none⟩ 1 cx [f x0] hx (by simp) (cell_one_new _ _ _) (fun u hu => by simp at hu; subst hu; exact h1) h63 hbytes (by simp; omega) ?_
  intro v' w' hown' hg _ _
  obtain ⟨A', c', rfl⟩ := own_form hown'
  have e1 : (l ++ [x0]).length = l.length + 1 := by simp
  have e2 : (l ++ [x0]).map f = l.map f ++ [f x0] := by simp
  rw [← e1, ← e2] at hown'
  rw [← e1]
  exact h A' c' w' hown' ((World.grownBy_alloc w _ _).trans hg)
/-- a slice whose array the call has made. -/
def Fresh (w : World) (A : Option Addr) : Prop := ∀ ad, A = some ad → w.heap.size ≤ ad.block
theorem Fresh.none (w : World) : Fresh w Option.none := fun _ h => by cases h
theorem Fresh.own {w0 w : World} {base : Nat} {e : TypeId} {size n m c : Nat} {A : Option Addr} {xs : List Value} (h : w.ownsRow base e size (.slice A n c) m xs) (hb : w0.heap.size ≤ base) : Fresh w0 A := fun ad he => by
  subst he
  have := (h.lt ad.block (by
    rcases h.2 with ⟨hv, _⟩ | ⟨g, cap, cur, hv, _⟩
    · cases hv
    · injection hv with hv; injection hv with hv; subst hv; rfl)).1
  omega
theorem Fresh.up {w w' : World} {A : Option Addr} (h : Fresh w' A) (hle : w.heap.size ≤ w'.heap.size) : Fresh w A := fun ad he => Nat.le_trans hle (h ad he)
theorem Rd.far {α : Type} {w : World} {f : α → Value} {A : Option Addr} {l : List α} (h : Rd w f A l) {p : Addr} (hp : ∀ ad, A = some ad → ad.block ≠ p.block) (u : Value) : Rd (w.setCell p u) f A l := fun hn => by
  obtain ⟨ad, e, hlt, hc⟩ := h hn
  exact ⟨ad, e, by simpa [World.setCell] using hlt, fun j x hx => by
    rw [World.cell?_of_block (Below.heap_setCell w p u (ad.add j).block (by rw [blk_add]; exact hp ad e))]
    exact hc j x hx⟩
/-- the call hands back a list of numbers, in memory of its own. -/
def GivesI (w : World) (l : List Int) (e : Ending) (w' : World) : Prop := ∃ A c, e = .returned (.slice A l.length c) ∧ Rd w' iv A l ∧ Fresh w A ∧ Below w.heap.size w w'
end Go.Proofs.YtjgohmfmalcjoaaDoor.Base
