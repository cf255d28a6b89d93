import Derived.Test.YtjgohmfmalcjoaaDoorTr4
/- Plain: quoted text, decoding. -/
namespace Go.Proofs.YtjgohmfmalcjoaaDoor.Tr
open Go.RowKit Go.Proofs.YtjgohmfmalcjoaaDoor.Base
set_option linter.unusedVariables false
def nlAt (l : List UInt8) : Int := Lib.indexByte l 10
/-- CR ahead of the line's end at k. -/
def crB (l : List UInt8) (k : Nat) : Bool := decide (0 < k) && decide ((l.getD (k - 1) 0).toNat = 13)
def crL (l : List UInt8) (k : Nat) : List UInt8 := if crB l k = true then l.take (k - 1) else l.take k
def stepO (l : List UInt8) (k : Nat) : List UInt8 := lineF (crL l k) ++ (if lineS (crL l k) = true then [] else if crB l k = true then [13, 10] else [10])
def looseF : Nat → List UInt8 → List UInt8 → List UInt8
  | 0, _, out => out
  | n + 1, l, out => if l.length = 0 then out else if 0 ≤ nlAt l then looseF n (l.drop ((nlAt l).toNat + 1)) (out ++ stepO l (nlAt l).toNat) else out ++ lineF l
def looseL (l : List UInt8) : List UInt8 := looseF l.length l []
theorem looseF_end (n : Nat) (out : List UInt8) : looseF n [] out = out := by cases n <;> rfl
theorem looseF_nl {l : List UInt8} {n k : Nat} {out : List UInt8} (h : 0 < l.length) (hk : nlAt l = (k : Int)) : looseF (n + 1) l out = looseF n (l.drop (k + 1)) (out ++ stepO l k) := by
  conv => lhs; unfold looseF
  rw [if_neg (by omega), if_pos (by rw [hk]; omega), hk]
  rfl
theorem looseF_no {l : List UInt8} {n : Nat} {out : List UInt8} (h : 0 < l.length) (hk : nlAt l = -1) : looseF (n + 1) l out = out ++ lineF l := by
  conv => lhs; unfold looseF
  rw [if_neg (by omega), if_neg (by rw [hk]; omega)]
theorem crL_len (l : List UInt8) (k : Nat) (hk : k ≤ l.length) : (crL l k).length = if crB l k = true then k - 1 else k := by
  unfold crL
  split <;> rw [List.length_take] <;> omega
theorem stepO_len (l : List UInt8) (k : Nat) (hk : k ≤ l.length) : (stepO l k).length ≤ k + 1 := by
  have h1 := lineF_len (crL l k)
  have h2 := crL_len l k hk
  have h3 : crB l k = true → 0 < k := fun h => by unfold crB at h; simp at h; exact h.1
  unfold stepO
  rw [List.length_append]
  split
  · simp; split at h2 <;> omega
  · split
    · rename_i hc
      rw [if_pos hc] at h2
      have := h3 hc
      simp; omega
    · rename_i hc
      rw [if_neg hc] at h2
      simp; omega
end Go.Proofs.YtjgohmfmalcjoaaDoor.Tr
