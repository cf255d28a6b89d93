import Derived.Test.YtjgohmfmalcjoaaDoorProg
import Derived.Below
import Derived.Tactics
import Derived.WalkKit
import Derived.KernelRfl
import Derived.LoopTactic
import Derived.Deep.LoopGhost
import Derived.Deep.QuietTactic
import Derived.BigQuiet
import Derived.WideLaws
import Derived.Deep.RegionHeld3
import Derived.Deep.DeepCutAuto
import Derived.WalkSpells
import Derived.WalkLawsBesides
import Derived.Lib.Hide
import Derived.Laws.Rows
import Derived.Laws.OwnMore
import Derived.Laws.StructEq
import Derived.Deep.Draws
import Derived.Laws.AppendOwn
import Derived.Maps.AppendAt
/- What all walks import, and small lemmas on worlds. -/
namespace Go.Proofs.YtjgohmfmalcjoaaDoor.Base
open Go.RowKit
set_option linter.unusedSimpArgs false
set_option linter.unusedVariables false

theorem below_drewN {B : Nat} {a w : World} (h : Below B a w) (n : Nat) : Below B a (w.drewN n) := ⟨h.os, h.tape, h.output, h.size, h.block⟩
theorem below_drew1 {B : Nat} {a w : World} (h : Below B a w) : Below B a w.drew := ⟨h.os, h.tape, h.output, h.size, h.block⟩
/-- the callee's Below, seen from the caller. -/
theorem below_go {a w w' : World} (h : Below a.heap.size a w) (hb : Below w.heap.size w w') : Below a.heap.size a w' := h.trans (hb.mono h.size)
theorem bcell {W w1 : World} (hb : Below W.heap.size W w1) : (∀ b o, b < W.heap.size → w1.cell? ⟨b, o, none⟩ = W.cell? ⟨b, o, none⟩) ∧ (∀ b o, b < W.heap.size → w1.frozen? ⟨b, o, none⟩ = W.frozen? ⟨b, o, none⟩) :=
  ⟨fun b o h => hb.cell (p := ⟨b, o, none⟩) h, fun b o h => hb.frozen (p := ⟨b, o, none⟩) h⟩
theorem ret_int {k : IntKind} {a b : Int} (h : a = b) : Ending.returned (.int k a) = .returned (.int k b) := by rw [h]
theorem ret_bool {a b : Bool} (h : a = b) : Ending.returned (.bool a) = .returned (.bool b) := by rw [h]
theorem tmod_bd (a b : Int) (hb : 0 < b) : -b < a.tmod b ∧ a.tmod b < b := by
  rcases Int.le_total 0 a with h | h
  · rw [Int.tmod_eq_emod_of_nonneg h]
    exact ⟨by have := Int.emod_nonneg a (by omega : b ≠ 0); omega, Int.emod_lt_of_pos a hb⟩
  · have h1 : a.tmod b = -((-a).tmod b) := by rw [Int.neg_tmod]; omega
    rw [h1, Int.tmod_eq_emod_of_nonneg (by omega)]
    have h2 := Int.emod_nonneg (-a) (by omega : b ≠ 0)
    have h3 := Int.emod_lt_of_pos (-a) hb
    omega
theorem tmod_up (a b : Int) (hb : 0 < b) : (a.tmod b + b).tmod b = a % b := by
  have := tmod_bd a b hb
  rw [Int.tmod_eq_emod_of_nonneg (by omega), Int.add_emod_right, Int.tmod_eq_emod]
  split
  · simp
  · rename_i h
    have hn : ((b.natAbs : Nat) : Int) = b := by omega
    rw [hn]
    rw [Int.sub_emod]; simp
theorem quiet_add_left {P : Program} {f : FuncId} {args : Array Value} {w : World} {a n : Nat} {v : Value}
    (h : Calls P f args (w.drewN (a + n)) fun e w' => e = .returned v ∧ w.drewN (a + n) = w') :
    Calls P f args (w.drewN (a + n)) fun e w'' => e = .returned v ∧ ∃ m, w'' = w.drewN (a + m) :=
  h.mono fun _ _ ⟨he, hm⟩ => ⟨he, n, hm.symm⟩
theorem quiet_left {P : Program} {f : FuncId} {args : Array Value} {w : World} {n : Nat} {v : Value}
    (h : Calls P f args (w.drewN n) fun e w' => e = .returned v ∧ w.drewN n = w') : Calls P f args (w.drewN n) fun e w'' => e = .returned v ∧ ∃ m, w'' = w.drewN m :=
  h.mono fun _ _ ⟨he, hm⟩ => ⟨he, n, hm.symm⟩
theorem below_al {a w : World} (h : Below a.heap.size a w) (o : Obj) : Below a.heap.size a (w.alloc o) := h.alloc h.size o
theorem below_set {a w : World} (h : Below a.heap.size a w) {p : Addr} (hp : a.heap.size ≤ p.block) (v : Value) : Below a.heap.size a (w.setCell p v) := h.setCell hp v
/-- the block g holds the cells cs, and may be written. -/
def Bk (w : World) (g : Nat) (t : TypeId) (cs : Array Value) : Prop := w.heap[g]? = some (.cells cs t (0, 0))
section
variable {w w' : World} {g : Nat} {t : TypeId} {cs : Array Value}
theorem Bk.lt (h : Bk w g t cs) : g < w.heap.size := by
  rcases Nat.lt_or_ge g w.heap.size with hlt | hge
  · exact hlt
  · unfold Bk at h
    rw [Array.getElem?_eq_none hge] at h
    cases h
theorem Bk.cell (h : Bk w g t cs) (i : Nat) : w.cell? ⟨g, i, none⟩ = cs[i]? := cell_of_row w g i cs t (0, 0) h
theorem Bk.frozen (h : Bk w g t cs) (i : Nat) : w.frozen? ⟨g, i, none⟩ = false := by
  unfold Bk at h
  simp [World.frozen?, h]
theorem Bk.new (w : World) (t : TypeId) (cs : Array Value) : Bk (w.alloc (.cells cs t)) w.heap.size t cs := heap_alloc_new w _
theorem Bk.new' (w : World) (t : TypeId) (cs : Array Value) {n : Nat} (h : w.heap.size = n) : Bk (w.alloc (.cells cs t)) n t cs := h ▸ heap_alloc_new w _
theorem Bk.al (h : Bk w g t cs) (o : Obj) : Bk (w.alloc o) g t cs := (Below.heap_alloc w o g h.lt).trans h
theorem Bk.dr (h : Bk w g t cs) : Bk w.drew g t cs := h
theorem Bk.drN (h : Bk w g t cs) (n : Nat) : Bk (w.drewN n) g t cs := h
theorem Bk.put (h : Bk w g t cs) (i : Nat) (u : Value) : Bk (w.setCell ⟨g, i, none⟩ u) g t (cs.setIfInBounds i u) := by
  unfold Bk at h ⊢
  simp [World.setCell, Array.getElem?_modify, h]
theorem Bk.put' {cs' : Array Value} (h : Bk w g t cs) (i : Nat) (u : Value) (e : cs' = cs.setIfInBounds i u) : Bk (w.setCell ⟨g, i, none⟩ u) g t cs' := e ▸ h.put i u
theorem Bk.far (h : Bk w g t cs) {p : Addr} (hp : g ≠ p.block) (u : Value) : Bk (w.setCell p u) g t cs := (Below.heap_setCell w p u g hp).trans h
theorem Bk.bel (h : Bk w g t cs) (hb : Below w.heap.size w w') : Bk w' g t cs := (hb.block g h.lt).trans h
end
def aggD : TypeDesc → Bool
  | .struct _ => true
  | .array _ _ => true
  | _ => false
/-- a result that lies in a block. -/
theorem load_bk {P : Program} {w : World} {g : Nat} {t : TypeId} {cs : Array Value} {d : TypeDesc} (h : Bk w g t cs) (hu : P.underlying t = some d) (hd : aggD d = true)
    (hi : (P.info? t).map (·.size) = some cs.size) : (loadVar t ⟨g, 0, none⟩).run P w = .ok (.agg cs) w := run_loadVar_row w g t t cs (0, 0) d h hu (by cases d <;> simp_all [aggD]) hi
section
variable {P : Program} {fn : Func} {p q u : Tmp} {t t' : TypeId} {tmps : Array Value} {w : World} {g g' : Nat} {cs cs' : Array Value} {d d' : TypeDesc}
theorem res_c (h : fn.results = #[.cell p t]) (hp : tmps.getD p undef = .pointer (some ⟨g, 0, none⟩)) (hb : Bk w g t cs) (hu : P.underlying t = some d) (hd : aggD d = true)
    (hi : (P.info? t).map (·.size) = some cs.size) : (results fn tmps).run P w = .ok (.agg cs) w := by
  have hp' : tmps[p]?.getD undef = .pointer (some ⟨g, 0, none⟩) := by simpa using hp
  simp only [results, h]
  simp [Sem.run_bind, Result.andThen, hp', asAddr, load_bk hb hu hd hi]
theorem res_cc (h : fn.results = #[.cell p t, .cell q t']) (hp : tmps.getD p undef = .pointer (some ⟨g, 0, none⟩)) (hq : tmps.getD q undef = .pointer (some ⟨g', 0, none⟩)) (hb : Bk w g t cs) (hb' : Bk w g' t' cs')
    (hu : P.underlying t = some d) (hd : aggD d = true) (hi : (P.info? t).map (·.size) = some cs.size)
    (hu' : P.underlying t' = some d') (hd' : aggD d' = true) (hi' : (P.info? t').map (·.size) = some cs'.size) :
    (results fn tmps).run P w = .ok (.tuple #[.agg cs, .agg cs']) w := by
  have hp' : tmps[p]?.getD undef = .pointer (some ⟨g, 0, none⟩) := by simpa using hp
  have hq' : tmps[q]?.getD undef = .pointer (some ⟨g', 0, none⟩) := by simpa using hq
  simp only [results, h]
  simp [Sem.run_bind, Result.andThen, hp', hq', asAddr, load_bk hb hu hd hi, load_bk hb' hu' hd' hi']
theorem res_tc (h : fn.results = #[.tmp u, .cell p t]) (hp : tmps.getD p undef = .pointer (some ⟨g, 0, none⟩)) (hb : Bk w g t cs) (hu : P.underlying t = some d) (hd : aggD d = true)
    (hi : (P.info? t).map (·.size) = some cs.size) : (results fn tmps).run P w = .ok (.tuple #[tmps.getD u undef, .agg cs]) w := by
  have hp' : tmps[p]?.getD undef = .pointer (some ⟨g, 0, none⟩) := by simpa using hp
  simp only [results, h]
  simp [Sem.run_bind, Result.andThen, hp', asAddr, load_bk hb hu hd hi]
theorem res_ct (h : fn.results = #[.cell p t, .tmp u]) (hp : tmps.getD p undef = .pointer (some ⟨g, 0, none⟩)) (hb : Bk w g t cs) (hu : P.underlying t = some d) (hd : aggD d = true)
    (hi : (P.info? t).map (·.size) = some cs.size) : (results fn tmps).run P w = .ok (.tuple #[.agg cs, tmps.getD u undef]) w := by
  have hp' : tmps[p]?.getD undef = .pointer (some ⟨g, 0, none⟩) := by simpa using hp
  simp only [results, h]
  simp [Sem.run_bind, Result.andThen, hp', asAddr, load_bk hb hu hd hi]
theorem res_ttc {v : Tmp} (h : fn.results = #[.tmp u, .tmp v, .cell p t]) (hp : tmps.getD p undef = .pointer (some ⟨g, 0, none⟩)) (hb : Bk w g t cs) (hu : P.underlying t = some d) (hd : aggD d = true)
    (hi : (P.info? t).map (·.size) = some cs.size) : (results fn tmps).run P w = .ok (.tuple #[tmps.getD u undef, tmps.getD v undef, .agg cs]) w := by
  have hp' : tmps[p]?.getD undef = .pointer (some ⟨g, 0, none⟩) := by simpa using hp
  simp only [results, h]
  simp [Sem.run_bind, Result.andThen, hp', asAddr, load_bk hb hu hd hi]
end
/-! '==' of structs, field by field -/
section
variable {P : Program} {d : Nat} {xs ys : Array Value} {f : Field} {fs : List Field} {a b : Value} {r s : Bool} {w : World}
theorem sq_last (hn : (f.name == "_") = false) (ha : (part f.type xs f.offset).run P w = .ok a w) (hb : (part f.type ys f.offset).run P w = .ok b w) (he : (Op.equalIn d f.type a b).run P w = .ok r w) : (Op.eqFields d xs ys [f]).run P w = .ok r w := by
  have hn' : f.name ≠ "_" := by simpa using hn
  simp only [Op.eqFields, if_pos hn', Sem.run_bind, ha, hb, he, Result.andThen_ok]
  cases r <;> simp
theorem sq_cons (hn : (f.name == "_") = false) (ha : (part f.type xs f.offset).run P w = .ok a w) (hb : (part f.type ys f.offset).run P w = .ok b w) (he : (Op.equalIn d f.type a b).run P w = .ok r w) (hr : (Op.eqFields d xs ys fs).run P w = .ok s w) : (Op.eqFields d xs ys (f :: fs)).run P w = .ok (r && s) w := by
  have hn' : f.name ≠ "_" := by simpa using hn
  rw [Op.eqFields]
  simp only [if_pos hn', Sem.run_bind, ha, hb, he, Result.andThen_ok]
  cases r
  · simp
  · simpa using hr
theorem sq_of {t : TypeId} {fs : Array Field} (hu : P.underlying t = some (.struct fs)) (hp : P.stoodInHeld t = false) (h : (Op.eqFields d xs ys fs.toList).run P w = .ok r w) : (Op.equalIn (d + 1) t (.agg xs) (.agg ys)).run P w = .ok r w := by
  have hf : P.fieldsOf t = fs := by simp [Program.fieldsOf, hu]
  rw [run_equalIn_struct (P := P) w d t xs ys (by rw [hf]; exact hu) hp, hf]
  exact h
end
theorem Bk.c7 {w : World} {g : Nat} {t : TypeId} {a b c d e f h : Value} (B : Bk w g t #[a, b, c, d, e, f, h]) : w.cell? ⟨g, 0, none⟩ = some a ∧ w.cell? ⟨g, 1, none⟩ = some b ∧ w.cell? ⟨g, 2, none⟩ = some c ∧ w.cell? ⟨g, 3, none⟩ = some d ∧ w.cell? ⟨g, 4, none⟩ = some e ∧ w.cell? ⟨g, 5, none⟩ = some f ∧ w.cell? ⟨g, 6, none⟩ = some h :=
  ⟨B.cell 0, B.cell 1, B.cell 2, B.cell 3, B.cell 4, B.cell 5, B.cell 6⟩
theorem Bk.c4 {w : World} {g : Nat} {t : TypeId} {a b c d : Value} (B : Bk w g t #[a, b, c, d]) : w.cell? ⟨g, 0, none⟩ = some a ∧ w.cell? ⟨g, 1, none⟩ = some b ∧ w.cell? ⟨g, 2, none⟩ = some c ∧ w.cell? ⟨g, 3, none⟩ = some d :=
  ⟨B.cell 0, B.cell 1, B.cell 2, B.cell 3⟩
theorem i64_id {n : Int} (h : -9223372036854775808 ≤ n ∧ n ≤ 9223372036854775807) : IntKind.i64.wrap n = n := IntWalk.i64_in n h
end Go.Proofs.YtjgohmfmalcjoaaDoor.Base
/- A region that draws its order, whose operations read and whose callees may make memory: walked once, in the order of the text. -/
namespace Go.Proofs.YtjgohmfmalcjoaaDoor.Base
open Go.RowKit
set_option linter.unusedSimpArgs false
set_option linter.unusedVariables false

/-- the worlds that hold what w holds, and maybe more. -/
def Bel (w : World) : Type := { x : World // Below w.heap.size w x }
instance {w : World} : Nonempty (Bel w) := ⟨⟨w, Below.refl _ _⟩⟩
def Bel.w {w : World} (s : Bel w) : World := s.1
theorem Bel.below {w : World} (s : Bel w) : Below w.heap.size w s.w := s.2
def Bel.mk' {w : World} (x : World) (h : Below w.heap.size w x) : Bel w := ⟨x, h⟩
theorem Bel.mk_w {w : World} (x : World) (h : Below w.heap.size w x) : (Bel.mk' x h).w = x := rfl
theorem wp_region_bel {P : Program} {id : Nat} {Q : Exit → Act → World → Prop} {a : Act} {w : World} {l : List Oper} (hm : P.follows .mixedOrders = true) (hB : Region.lexB .any l.toArray = true)
    (h : wpQuiet P l.toArray (fun w' => ∃ s : Bel w, w' = s.w) (fun a' => ∀ w', (∃ s : Bel w, w' = s.w) → Q .normal a' w') l a) : (Code.region id l.toArray true).wp P Q a w :=
  wp_region_quiet (C := fun w' => ∃ s : Bel w, w' = s.w) hm hB ⟨Bel.mk' w.drew (below_drew1 (Below.refl _ _)), rfl⟩ (by simpa using h)
theorem bel_bel {P : Program} {f : FuncId} {args : Array Value} {w : World} {s : Bel w} {v : Value}
    (h : Calls P f args s.w fun e w' => e = .returned v ∧ Below s.w.heap.size s.w w') : Calls P f args s.w fun e w'' => e = .returned v ∧ ∃ s' : Bel w, w'' = s'.w :=
  h.mono fun _ w' ⟨he, hb⟩ => ⟨he, Bel.mk' w' (below_go s.below hb), rfl⟩
theorem bel_eq {P : Program} {f : FuncId} {args : Array Value} {w : World} {s : Bel w} {v : Value}
    (h : Calls P f args s.w fun e w' => e = .returned v ∧ s.w = w') : Calls P f args s.w fun e w'' => e = .returned v ∧ ∃ s' : Bel w, w'' = s'.w :=
  h.mono fun _ w' ⟨he, hb⟩ => ⟨he, s, hb.symm⟩
theorem bel_dr {P : Program} {f : FuncId} {args : Array Value} {w : World} {s : Bel w} {v : Value}
    (h : Calls P f args s.w fun e w' => e = .returned v ∧ ∃ n, w' = s.w.drewN n) : Calls P f args s.w fun e w'' => e = .returned v ∧ ∃ s' : Bel w, w'' = s'.w :=
  h.mono fun _ w' ⟨he, n, hn⟩ => ⟨he, Bel.mk' w' (hn ▸ below_drewN s.below n), rfl⟩
theorem Bk.s {w : World} {g : Nat} {t : TypeId} {cs : Array Value} (h : Bk w g t cs) (s : Bel w) (i : Nat) : s.w.cell? ⟨g, i, none⟩ = cs[i]? := (h.bel s.below).cell i
end Go.Proofs.YtjgohmfmalcjoaaDoor.Base
/- Slices that read as lists. -/
namespace Go.Proofs.YtjgohmfmalcjoaaDoor.Base
open Go.RowKit
set_option linter.unusedSimpArgs false
set_option linter.unusedVariables false

/-- the slice at A reads as the list l, an element a cell, each told by f. -/
def Rd {α : Type} (w : World) (f : α → Value) (A : Option Addr) (l : List α) : Prop :=
  0 < l.length → ∃ ad, A = some ad ∧ ad.block < w.heap.size ∧ ∀ (j : Nat) (x : α), l[j]? = some x → w.cell? (ad.add j) = some (f x)
theorem blk_add (a : Addr) (n : Nat) : (a.add n).block = a.block := by unfold Addr.add; split <;> rfl
section
variable {α : Type} {w w' : World} {f : α → Value} {A : Option Addr} {l : List α}
theorem Rd.nil : Rd w f A ([] : List α) := fun h => by simp at h
theorem Rd.bel (h : Rd w f A l) (hb : Below w.heap.size w w') : Rd w' f A l := fun hn => by
  obtain ⟨ad, e, hlt, hc⟩ := h hn
  exact ⟨ad, e, Nat.lt_of_lt_of_le hlt hb.size, fun j x hx => by rw [hb.cell (by rw [blk_add]; exact hlt)]; exact hc j x hx⟩
theorem Rd.al (h : Rd w f A l) (o : Obj) : Rd (w.alloc o) f A l := h.bel (below_al (Below.refl _ _) _)
theorem Rd.dr (h : Rd w f A l) : Rd w.drew f A l := h
theorem Rd.at_ (h : Rd w f A l) {k : Nat} (hk : k < l.length) : ∃ ad, A = some ad ∧ ad.block < w.heap.size ∧ w.cell? (ad.add k) = some (f l[k]) := by
  obtain ⟨ad, e, hlt, hc⟩ := h (by omega)
  exact ⟨ad, e, hlt, hc k _ (List.getElem?_eq_getElem hk)⟩
theorem Rd.own {base : Nat} {e : TypeId} {n c : Nat} (h : w.ownsRow base e 1 (.slice A n c) n (l.map f)) : Rd w f A l := fun hn => by
  have hl : l.length = n := by have := h.1; simpa using this
  have hh := h.2
  rcases hh with ⟨_, h0⟩ | ⟨g, cap, cur, hv, _, hb, _⟩
  · omega
  have hA : A = some ⟨g, 0, none⟩ := by injection hv
  subst hA
  have hlt : g < w.heap.size := by
    rcases Nat.lt_or_ge g w.heap.size with hlt | hge
    · exact hlt
    · rw [Array.getElem?_eq_none hge] at hb; cases hb
  exact ⟨_, rfl, hlt, fun j x hx => h.cells (g := g) rfl j (f x) (by rw [List.getElem?_map, hx]; rfl)⟩
end
abbrev iv : Int → Value := Value.int .i64
theorem own_form {w : World} {base : Nat} {e : TypeId} {size : Nat} {v : Value} {n : Nat} {xs : List Value} (h : w.ownsRow base e size v n xs) : ∃ A c, v = .slice A n c := by
  rcases h.2 with ⟨rfl, rfl⟩ | ⟨g, cap, cur, rfl, _⟩
  · exact ⟨none, 0, rfl⟩
  · exact ⟨_, cap, rfl⟩
theorem own_bel {w w' : World} {base : Nat} {e : TypeId} {size : Nat} {v : Value} {n : Nat} {xs : List Value} (h : w.ownsRow base e size v n xs) (hb : Below w.heap.size w w') : w'.ownsRow base e size v n xs :=
  h.kept (row := none) ⟨hb.os, hb.tape, hb.output, hb.size, fun k hk _ => hb.block k hk⟩ (by
    cases hv : v.ownBlock
    · exact .inl rfl
    · exact .inr (by simp))
/-- a block below the base is as it was behind an append to a row of the call's own. -/
theorem Bk.grown {w w' : World} {g : Nat} {t : TypeId} {cs : Array Value} {base : Nat} {e : TypeId} {size : Nat} {v : Value} {n : Nat} {xs : List Value} (h : Bk w g t cs) (hg : w.grownBy w' v.ownBlock) (hown : w.ownsRow base e size v n xs) (hlt : g < base) : Bk w' g t cs :=
  (hg.block g h.lt (fun he => by have := (hown.lt g he.symm).1; omega)).trans h
theorem below_grown {a w w' : World} {base : Nat} {e : TypeId} {size : Nat} {v : Value} {n : Nat} {xs : List Value} (h : Below a.heap.size a w) (hg : w.grownBy w' v.ownBlock) (hown : w.ownsRow base e size v n xs) (hlt : a.heap.size ≤ base) : Below a.heap.size a w' :=
  h.grown hg h.size (fun k hk => by have := (hown.lt k hk).1; omega)
/-- append of one element that has just been laid in a block of its own. -/
theorem wpList_app1 {α : Type} {P : Program} {ops : Array Oper} {rest : List Oper} {o : Oper} {a : Act} {Q : Exit → Act → World → Prop} {w : World} (hgd : o.guard = none) (s x : Operand) (t : TypeId)
    (ho : o.op = .call { callee := .builtin .append, args := #[s, x], argTypes := #[t, t] })
    (base : Nat) (e : TypeId) (i : TypeInfo) (z : Value) (bytes : Nat) (ht : P.underlying t = some (.slice e)) (hi : P.info? e = some i) (hz : i.zero = some z)
    (hsize : i.size = 1) (hby : i.bytes = bytes) (hzs : z.cells.size = 1) (f : α → Value) (A : Option Addr) (c : Nat) (l : List α) (x0 : α) (cx : Nat)
    (hs : a.eval s = .slice A l.length c) (hown : w.ownsRow base e 1 (.slice A l.length c) l.length (l.map f)) (hx : a.eval x = .slice (some ⟨w.heap.size, 0, none⟩) 1 cx) (h1 : (f x0).oneCell' = true)
    (h63 : l.length + 1 ≤ maxLen) (hbytes : (l.length + 1) * bytes ≤ 140737488355328) (hbase : base ≤ w.heap.size)
    (h : ∀ A' c' w', w'.ownsRow base e 1 (.slice A' (l ++ [x0]).length c') (l ++ [x0]).length ((l ++ [x0]).map f) → w.grownBy w' (Value.slice A l.length c).ownBlock → wpList P ops Q rest (a.put o.dst (.slice A' (l ++ [x0]).length c')) w') :
    wpList P ops Q (o :: rest) a (w.alloc (.cells #[f x0] e)) := by
  refine wpList_append_own_at _ hgd s x t ho base e i z 1 bytes ht hi hz hsize hby hzs (by omega) _ l.length (l.map f) hs (hown.alloc _) ⟨w.heap.size, 0, none⟩ 1 cx [f x0] hx (by simp) (cell_one_new _ _ _) (fun u hu => by simp at hu; subst hu; exact h1) h63 hbytes (by simp; omega) ?_
  intro v' w' hown' hg _ _
  obtain ⟨A', c', rfl⟩ := own_form hown'
  have e1 : (l ++ [x0]).length = l.length + 1 := by simp
  have e2 : (l ++ [x0]).map f = l.map f ++ [f x0] := by simp
  rw [← e1, ← e2] at hown'
  rw [← e1]
  exact h A' c' w' hown' ((World.grownBy_alloc w _ _).trans hg)
/-- a slice whose array the call has made. -/
def Fresh (w : World) (A : Option Addr) : Prop := ∀ ad, A = some ad → w.heap.size ≤ ad.block
theorem Fresh.none (w : World) : Fresh w Option.none := fun _ h => by cases h
theorem Fresh.own {w0 w : World} {base : Nat} {e : TypeId} {size n m c : Nat} {A : Option Addr} {xs : List Value} (h : w.ownsRow base e size (.slice A n c) m xs) (hb : w0.heap.size ≤ base) : Fresh w0 A := fun ad he => by
  subst he
  have := (h.lt ad.block (by
    rcases h.2 with ⟨hv, _⟩ | ⟨g, cap, cur, hv, _⟩
    · cases hv
    · injection hv with hv; injection hv with hv; subst hv; rfl)).1
  omega
theorem Fresh.up {w w' : World} {A : Option Addr} (h : Fresh w' A) (hle : w.heap.size ≤ w'.heap.size) : Fresh w A := fun ad he => Nat.le_trans hle (h ad he)
theorem Rd.far {α : Type} {w : World} {f : α → Value} {A : Option Addr} {l : List α} (h : Rd w f A l) {p : Addr} (hp : ∀ ad, A = some ad → ad.block ≠ p.block) (u : Value) : Rd (w.setCell p u) f A l := fun hn => by
  obtain ⟨ad, e, hlt, hc⟩ := h hn
  exact ⟨ad, e, by simpa [World.setCell] using hlt, fun j x hx => by
    rw [World.cell?_of_block (Below.heap_setCell w p u (ad.add j).block (by rw [blk_add]; exact hp ad e))]
    exact hc j x hx⟩
/-- the call hands back a list of numbers, in memory of its own. -/
def GivesI (w : World) (l : List Int) (e : Ending) (w' : World) : Prop := ∃ A c, e = .returned (.slice A l.length c) ∧ Rd w' iv A l ∧ Fresh w A ∧ Below w.heap.size w w'
end Go.Proofs.YtjgohmfmalcjoaaDoor.Base
/- The first code that is not zero; lists of instants. -/
namespace Go.Proofs.YtjgohmfmalcjoaaDoor.Base
open Go.RowKit
set_option linter.unusedVariables false
/-- the first of f 0 .. f (n - 1) that is not 0. -/
def firstC (f : Nat → Int) : Nat → Int
  | 0 => 0
  | n + 1 => if firstC f n ≠ 0 then firstC f n else f n
theorem firstC_step {f : Nat → Int} {k : Nat} (h : firstC f k = 0) : firstC f (k + 1) = f k := by
  show (if firstC f k ≠ 0 then _ else _) = _
  rw [if_neg (by rw [h]; simp)]
theorem firstC_stop {f : Nat → Int} {k : Nat} (h : firstC f k ≠ 0) : ∀ n, k ≤ n → firstC f n = firstC f k
  | n, hk => by
    rcases Nat.lt_or_ge k n with hlt | hge
    · obtain ⟨m, rfl⟩ : ∃ m, n = m + 1 := ⟨n - 1, by omega⟩
      have ih := firstC_stop h m (by omega)
      show (if firstC f m ≠ 0 then _ else _) = _
      rw [if_pos (by rw [ih]; exact h), ih]
    · have : n = k := by omega
      rw [this]
theorem firstC_at {f : Nat → Int} {k n : Nat} (h : firstC f k = 0) (hk : k < n) (hf : f k ≠ 0) : firstC f n = f k := by
  have e := firstC_step h
  rw [firstC_stop (k := k + 1) (by rw [e]; exact hf) n (by omega), e]
theorem firstC_congr {f g : Nat → Int} : ∀ n, (∀ k, k < n → f k = g k) → firstC f n = firstC g n
  | 0, _ => rfl
  | n + 1, h => by
    show (if firstC f n ≠ 0 then _ else _) = (if firstC g n ≠ 0 then _ else _)
    rw [firstC_congr n (fun k hk => h k (by omega)), h n (by omega)]
/-- the code of element k of a list that is to increase within bounds. -/
def incC (lo hi : Int) (l : List Int) (k : Nat) : Int :=
  match l[k]? with
  | none => 0
  | some t => if t < lo ∨ hi < t then 3 else match (if k = 0 then none else l[k - 1]?) with
    | none => 0
    | some q => if t ≤ q then 19 else 0
theorem incC_out {lo hi : Int} {l : List Int} {k : Nat} (hk : k < l.length) (h : l[k] < lo ∨ hi < l[k]) : incC lo hi l k = 3 := by
  unfold incC
  rw [List.getElem?_eq_getElem hk]
  dsimp only
  rw [if_pos h]
theorem incC_zero {lo hi : Int} {l : List Int} (hk : 0 < l.length) (h1 : lo ≤ l[0]) (h2 : l[0] ≤ hi) : incC lo hi l 0 = 0 := by
  unfold incC
  rw [List.getElem?_eq_getElem hk]
  dsimp only
  rw [if_neg (by omega), if_pos rfl]
theorem incC_in {lo hi : Int} {l : List Int} {k : Nat} (hk : k < l.length) (h0 : 0 < k) (h1 : lo ≤ l[k]) (h2 : l[k] ≤ hi) : incC lo hi l k = if l[k] ≤ l[k - 1] then 19 else 0 := by
  unfold incC
  rw [List.getElem?_eq_getElem hk]
  dsimp only
  rw [if_neg (by omega), if_neg (by omega), List.getElem?_eq_getElem (by omega)]
/-- a list without a code increases, and lies within the bounds. -/
theorem incC_ok {lo hi : Int} {l : List Int} : ∀ n, n ≤ l.length → firstC (incC lo hi l) n = 0 → (∀ k (hk : k < l.length), k < n → lo ≤ l[k] ∧ l[k] ≤ hi) ∧ (∀ k (hk : k < l.length), k < n → 0 < k → l[k - 1] < l[k])
  | 0, _, _ => ⟨fun k _ h => by omega, fun k _ h => by omega⟩
  | n + 1, hn, h => by
    have h' : (if firstC (incC lo hi l) n ≠ 0 then firstC (incC lo hi l) n else incC lo hi l n) = 0 := h
    have h0 : firstC (incC lo hi l) n = 0 := by
      rcases Classical.em (firstC (incC lo hi l) n = 0) with h1 | h1
      · exact h1
      · rw [if_pos h1] at h'; exact h'
    have hc : incC lo hi l n = 0 := by rw [if_neg (by rw [h0]; simp)] at h'; exact h'
    obtain ⟨a, b⟩ := incC_ok n (by omega) h0
    have hb : lo ≤ l[n] ∧ l[n] ≤ hi := by
      rcases Classical.em (l[n] < lo ∨ hi < l[n]) with h1 | h1
      · rw [incC_out (by omega) h1] at hc; cases hc
      · omega
    refine ⟨fun k hk hkn => ?_, fun k hk hkn hk0 => ?_⟩
    · rcases Nat.lt_or_ge k n with h1 | h1
      · exact a k hk h1
      · have : k = n := by omega
        subst this; exact hb
    · rcases Nat.lt_or_ge k n with h1 | h1
      · exact b k hk h1 hk0
      · have : k = n := by omega
        subst this
        rw [incC_in (by omega) hk0 hb.1 hb.2] at hc
        split at hc
        · cases hc
        · omega
end Go.Proofs.YtjgohmfmalcjoaaDoor.Base
