import Derived.Test.YtjgohmfmalcjoaaDoorTr4
import Derived.Test.YtjgohmfmalcjoaaDoorMe
/- Walks: quoted text, decoding of a line. -/
namespace Go.Proofs.YtjgohmfmalcjoaaDoor.TrW
open Go.RowKit Go.Proofs.YtjgohmfmalcjoaaDoor.Base Go.Proofs.YtjgohmfmalcjoaaDoor.Tr
set_option linter.unusedVariables false
set_option linter.unusedSimpArgs false
theorem info141 : (Tryd.prog.info? 141).map (fun i => (i.zero, i.size)) = some (some (.agg (Array.replicate 256 (.bool false))), 256) := by kernel_rfl
theorem spot_none {w : World} {a : Addr} {v : Value} (h : w.cell? a = some v) : a.spot = none := by
  unfold World.cell? at h
  split at h
  · cases hs : a.spot with
    | none => rfl
    | some k => rw [hs] at h; simp at h
  · cases h
theorem at_of_rd {w : World} {A : Option Addr} {l : List UInt8} (h : Rd w bv A l) : Lib.BytesAt w A l.length l := fun hn => by
  obtain ⟨ad, e, _, hc⟩ := h hn
  have h0 := hc 0 _ (List.getElem?_eq_getElem hn)
  have hs : ad.spot = none := by
    have := spot_none h0
    simpa [Addr.add] using this
  obtain ⟨b, off, sp⟩ := ad
  simp only at hs
  subst hs
  refine ⟨b, off, e, fun i hi => ?_⟩
  have := hc i _ (List.getElem?_eq_getElem hi)
  have e2 : (⟨b, off, none⟩ : Addr).add i = ⟨b, off + i, none⟩ := by
    unfold Addr.add
    split
    · rename_i h0; subst h0; rfl
    · rfl
  rw [e2] at this
  rw [this]
  simp [List.getElem?_eq_getElem hi]
theorem trim_calls (A : Option Addr) (l : List UInt8) (c : Nat) (w : World) (h : Rd w bv A l) (hc : l.length ≤ c) (hc63 : c ≤ 9223372036854775807) :
    Calls Tryd.prog 149 #[.slice A l.length c, .string ⟨#[32, 9]⟩] w fun e w' => e = .returned (.slice A (lineT l).length c) ∧ Below w.heap.size w w' := by
  refine (Any.bytes_TrimRight_ascii Tryd.laysTR (zero_of_info info141).1 (zero_of_info info141).2 A l.length c l ⟨#[32, 9]⟩ w rfl hc hc63 (at_of_rd h) (by decide) (fun j b hb => ?_)).mono ?_
  · match j, hb with
    | 0, hb => simp at hb; subst hb; decide
    | 1, hb => simp at hb; subst hb; decide
    | n + 2, hb => simp at hb
  · rintro e w' ⟨rfl, hb⟩
    exact ⟨rfl, hb⟩
end Go.Proofs.YtjgohmfmalcjoaaDoor.TrW
