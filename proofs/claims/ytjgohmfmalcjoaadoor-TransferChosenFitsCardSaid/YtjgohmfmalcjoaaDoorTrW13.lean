import Derived.Test.YtjgohmfmalcjoaaDoorMc
import Derived.Test.YtjgohmfmalcjoaaDoorTr4
import Derived.Test.YtjgohmfmalcjoaaDoorMe
/- Walks: quoted text, decoding of a line. -/
namespace Go.Proofs.YtjgohmfmalcjoaaDoor.TrW
open Go.RowKit Go.Proofs.YtjgohmfmalcjoaaDoor.Base Go.Proofs.YtjgohmfmalcjoaaDoor.Tr
set_option linter.unusedVariables false
set_option linter.unusedSimpArgs false
theorem info141 : (Tryd.prog.info? 141).map (fun i => (i.zero, i.size)) = some (some (.agg (Array.replicate 256 (.bool false))), 256) := by kernel_rfl
theorem trim_calls (A : Option Addr) (l : List UInt8) (c : Nat) (w : World) (h : Rd w bv A l) (hc : l.length ≤ c) (hc63 : c ≤ 9223372036854775807) :
    Calls Tryd.prog 149 #[.slice A l.length c, .string ⟨#[32, 9]⟩] w fun e w' => e = .returned (.slice A (lineT l).length c) ∧ Below w.heap.size w w' := by
  refine (Any.bytes_TrimRight_ascii Tryd.laysTR (zero_of_info info141).1 (zero_of_info info141).2 A l.length c l ⟨#[32, 9]⟩ w rfl hc hc63 (at_of_rd h) (by decide) (fun j b hb => ?_)).mono ?_
  · match j, hb with
    | 0, hb => simp at hb; subst hb; decide
    | 1, hb => simp at hb; subst hb; decide
    | n + 2, hb => simp at hb
  · rintro e w' ⟨rfl, hb⟩
    exact ⟨rfl, hb⟩
end Go.Proofs.YtjgohmfmalcjoaaDoor.TrW
