/- A region that draws its order, whose operations read and whose callees may make memory: walked once, in the order of the text. -/
import Derived.Test.YtjgohmfmalcjoaaDoorBase
namespace Go.Proofs.YtjgohmfmalcjoaaDoor.Base
open Go.RowKit
set_option linter.unusedSimpArgs false
set_option linter.unusedVariables false

/-- the worlds that hold what w holds, and maybe more. -/
def Bel (w : World) : Type := { x : World // Below w.heap.size w x }
instance {w : World} : Nonempty (Bel w) := ⟨⟨w, Below.refl _ _⟩⟩
def Bel.w {w : World} (s : Bel w) : World := s.1
theorem Bel.below {w : World} (s : Bel w) : Below w.heap.size w s.w := s.2
def Bel.mk' {w : World} (x : World) (h : Below w.heap.size w x) : Bel w := ⟨x, h⟩
theorem Bel.mk_w {w : World} (x : World) (h : Below w.heap.size w x) : (Bel.mk' x h).w = x := rfl
theorem wp_region_bel {P : Program} {id : Nat} {Q : Exit → Act → World → Prop} {a : Act} {w : World} {l : List Oper} (hm : P.follows .mixedOrders = true) (hB : Region.lexB .any l.toArray = true)
    (h : wpQuiet P l.toArray (fun w' => ∃ s : Bel w, w' = s.w) (fun a' => ∀ w', (∃ s : Bel w, w' = s.w) → Q .normal a' w') l a) : (Code.region id l.toArray true).wp P Q a w :=
  wp_region_quiet (C := fun w' => ∃ s : Bel w, w' = s.w) hm hB ⟨Bel.mk' w.drew (below_drew1 (Below.refl _ _)), rfl⟩ (by simpa using h)
theorem bel_bel {P : Program} {f : FuncId} {args : Array Value} {w : World} {s : Bel w} {v : Value}
    (h : Calls P f args s.w fun e w' => e = .returned v ∧ Below s.w.heap.size s.w w') : Calls P f args s.w fun e w'' => e = .returned v ∧ ∃ s' : Bel w, w'' = s'.w :=
  h.mono fun _ w' ⟨he, hb⟩ => ⟨he, Bel.mk' w' (below_go s.below hb), rfl⟩
theorem bel_eq {P : Program} {f : FuncId} {args : Array Value} {w : World} {s : Bel w} {v : Value}
    (h : Calls P f args s.w fun e w' => e = .returned v ∧ s.w = w') : Calls P f args s.w fun e w'' => e = .returned v ∧ ∃ s' : Bel w, w'' = s'.w :=
  h.mono fun _ w' ⟨he, hb⟩ => ⟨he, s, hb.symm⟩
theorem bel_dr {P : Program} {f : FuncId} {args : Array Value} {w : World} {s : Bel w} {v : Value}
    (h : Calls P f args s.w fun e w' => e = .returned v ∧ ∃ n, w' = s.w.drewN n) : Calls P f args s.w fun e w'' => e = .returned v ∧ ∃ s' : Bel w, w'' = s'.w :=
  h.mono fun _ w' ⟨he, n, hn⟩ => ⟨he, Bel.mk' w' (hn ▸ below_drewN s.below n), rfl⟩
theorem Bk.s {w : World} {g : Nat} {t : TypeId} {cs : Array Value} (h : Bk w g t cs) (s : Bel w) (i : Nat) : s.w.cell? ⟨g, i, none⟩ = cs[i]? := (h.bel s.below).cell i
end Go.Proofs.YtjgohmfmalcjoaaDoor.Base
