import Derived.Test.YtjgohmfmalcjoaaDoorRows
import Derived.Test.YtjgohmfmalcjoaaDoorMb
import Derived.ProofKit
import Derived.OpenShut
import Derived.ChangeSlices
import Derived.SizedLaws
import Derived.LaidMore
import Derived.Lay
import Derived.MakeChecks
/- An argument of type []byte, opened to a list of bytes; a world in which the tables that the rows list are laid. -/
namespace Go.Proofs.YtjgohmfmalcjoaaDoor.TrW
open Go.RowKit Go.ChangeShapes Go.WideShapes Go.Proofs.YtjgohmfmalcjoaaDoor.Base Go.Proofs.YtjgohmfmalcjoaaDoor.Tr
set_option linter.unusedVariables false
set_option linter.unusedSimpArgs false
section
variable {H : Type} {enc : TypeId × Value → H} {W : World} {base b0 : Nat} {sp : Nat → Bool} {held : Bool} {r : Reach}
theorem cells_u8 : Tryd.prog.cellsOf 5 = 1 := by kernel_rfl
theorem wf_u8 {n : Int} (h : (Lit.int .u8 n).wf = true) : 0 ≤ n ∧ n ≤ 255 := by
  simp [Lit.wf, IntKind.min, IntKind.max, IntKind.signed, IntKind.bits] at h
  omega
theorem map_u8 : ∀ (zs : List Int), (∀ n ∈ zs, 0 ≤ n ∧ n ≤ 255) → ((zs.map fun n => UInt8.ofNat n.toNat).map fun b : UInt8 => (b.toNat : Int)) = zs
  | [], _ => rfl
  | z :: zs, h => by
    have h0 := h z (by simp)
    have ih := map_u8 zs fun n hn => h n (by simp [hn])
    rw [List.map_cons, List.map_cons, ih]
    congr 1
    show ((UInt8.ofNat z.toNat).toNat : Int) = z
    rw [UInt8.toNat_ofNat']
    omega
set_option maxRecDepth 20000 in
theorem open_bytes {v : Value} {d : DataW H} {p : List MemPlace} (hv : Value.okWide Tryd.prog W r b0 22 v) (h : DataW.Trod enc Tryd.prog W base sp held 22 v d p) :
    ∃ (A : Option Addr) (l : List UInt8) (c : Nat), v = .slice A l.length c ∧ Rd W bv A l ∧ l.length ≤ c ∧ c ≤ 9223372036854775807 ∧ (A = none → c = 0) := by
  obtain ⟨a, len, cap, rfl⟩ := okWide_slice Tryd.underlying22 hv
  obtain ⟨fuel, hf⟩ := h
  rcases open_ints Tryd.underlying22 Tryd.underlying5 cells_u8 hf with ⟨e, _⟩ | ⟨a', len', cap', zs, e, _, hlc, hcm, hzl, hx, hcell, hwf⟩
  · have e' : Value.slice a len cap = .slice none 0 0 := by simpa [Value.cells] using e
    exact ⟨none, [], 0, e', Rd.nil, by simp, by simp, fun _ => rfl⟩
  · have e' : Value.slice a len cap = .slice (some a') len' cap' := by simpa [Value.cells] using e
    have hl : len' ≤ zs.length := by rw [hzl]; split <;> omega
    have hmx : maxLen ≤ 9223372036854775807 := by unfold maxLen; omega
    refine ⟨some a', (zs.take len').map (fun n => UInt8.ofNat n.toNat), cap', by rw [e', List.length_map, List.length_take, Nat.min_eq_left hl], fun hn => ⟨a', rfl, ?_, fun j y hy => ?_⟩, by rw [List.length_map, List.length_take]; omega, by omega, fun h => by cases h⟩
    · have hn' : len' ≠ 0 := by
        intro h0
        subst h0
        simp at hn
      have h0 := hcell 0 (by omega)
      refine Decidable.byContradiction fun hnb => ?_
      have hnone : W.heap[(a'.add 0).block]? = none := by rw [show (a'.add 0).block = a'.block from rfl]; exact Array.getElem?_eq_none (by omega)
      unfold World.cell? at h0
      rw [hnone] at h0
      cases h0
    · have hj : j < (zs.take len').length := by
        have := (List.getElem?_eq_some_iff.1 hy).1
        simpa using this
      rw [List.getElem?_map, List.getElem?_eq_getElem hj] at hy
      have hj' : j < len' := by rw [List.length_take] at hj; omega
      obtain rfl := Option.some.inj hy
      rw [hcell j (by omega), List.getElem_take]
      have hb := wf_u8 (hwf zs[j] (List.getElem_mem _))
      rw [List.getD, List.getElem?_eq_getElem (by omega)]
      show some (Value.int IntKind.u8 zs[j]) = some (Value.int IntKind.u8 ((UInt8.ofNat (zs[j]).toNat).toNat : Int))
      rw [UInt8.toNat_ofNat']
      congr 2
      omega
end
/-- The tables that the rows of this seat list. -/
def tabs : List (String × DataW Unit) := [("unicode/utf8.acceptRanges", Rows.laid_unicode_utf8_acceptRanges), ("unicode/utf8.first", Rows.laid_unicode_utf8_first)]
theorem tabs_fit (os : Os) : (World.holding Tryd.prog os ⟨#[], #[], []⟩).layFits Tryd.prog tabs [] = true := by kernel_rfl
theorem tabs_if (os : Os) : (World.holding Tryd.prog os ⟨#[], #[], []⟩).layIfaces Tryd.prog tabs (World.laidAll Tryd.prog os tabs) = true := by kernel_rfl
theorem tabs_met (os : Os) (args : Array Value) : laidMetH Tryd.prog tabs ((World.laidAll Tryd.prog os tabs).forCall (fun _ _ => 0) ⟨#[], args, []⟩).memory := by
  rw [MakeChecks.laidMetH_plain _ _ _ (by kernel_rfl)]
  exact laidMet_laidAll _ (tabs_fit os) (tabs_if os)
theorem tabs_shaped (os : Os) (args : Array Value) : ((World.laidAll Tryd.prog os tabs).forCall (fun _ _ => 0) ⟨#[], args, []⟩).Shaped Tryd.prog :=
  World.shaped_of_ZipB (by kernel_rfl) (by kernel_rfl)
end Go.Proofs.YtjgohmfmalcjoaaDoor.TrW
