/- Plain: the first byte that cannot be transported as it is. -/
import Derived.Test.YtjgohmfmalcjoaaDoorTr1
namespace Go.Proofs.YtjgohmfmalcjoaaDoor.Tr
open Go.RowKit Go.Proofs.YtjgohmfmalcjoaaDoor.Base
set_option linter.unusedVariables false
/-- CR LF at i. -/
def crlfAt (l : List UInt8) (i : Nat) : Bool := l[i]? == some 13 && l[i + 1]? == some 10
def badC (e : Bool) (c : UInt8) : Bool := c == 13 || c == 10 || c == 0 || (decide (128 ≤ c.toNat) && !e)
def refF (e : Bool) (l : List UInt8) : Nat → Nat → Nat → Int
  | 0, _, _ => -1
  | n + 1, i, col => match l[i]? with
    | none => -1
    | some c => if crlfAt l i = true then refF e l n (i + 2) 0 else if badC e c = true ∨ 998 ≤ col then (i : Int) else refF e l n (i + 1) (col + 1)
def refL (e : Bool) (l : List UInt8) : Int := refF e l l.length 0 0
theorem crlf_of {l : List UInt8} {i : Nat} (h : i + 1 < l.length) : crlfAt l i = (l[i] == 13 && l[i + 1] == 10) := by
  unfold crlfAt
  rw [List.getElem?_eq_getElem (by omega), List.getElem?_eq_getElem h]
  rfl
theorem crlf_end {l : List UInt8} {i : Nat} (h : l.length ≤ i + 1) : crlfAt l i = false := by
  unfold crlfAt
  rw [List.getElem?_eq_none (i := i + 1) (by omega)]
  simp
theorem refF_end {e : Bool} {l : List UInt8} {i : Nat} (h : l.length ≤ i) : ∀ n col, refF e l n i col = -1
  | 0, _ => rfl
  | n + 1, col => by unfold refF; rw [List.getElem?_eq_none h]
theorem refF_at {e : Bool} {l : List UInt8} {n i col : Nat} (h : i < l.length) : refF e l (n + 1) i col = if crlfAt l i = true then refF e l n (i + 2) 0 else if badC e l[i] = true ∨ 998 ≤ col then (i : Int) else refF e l n (i + 1) (col + 1) := by
  conv => lhs; unfold refF
  rw [List.getElem?_eq_getElem h]
theorem refF_bd {e : Bool} {l : List UInt8} : ∀ n i col, -1 ≤ refF e l n i col ∧ refF e l n i col ≤ l.length
  | 0, _, _ => by simp [refF]
  | n + 1, i, col => by
    unfold refF
    split
    · omega
    · rename_i c hc
      have := (List.getElem?_eq_some_iff.1 hc).1
      split
      · exact refF_bd n _ _
      · split
        · omega
        · exact refF_bd n _ _
theorem u8_is (c : UInt8) (n : Nat) (h : n < 256) : (c == UInt8.ofNat n) = decide (c.toNat = n) := by
  rw [Bool.eq_iff_iff, beq_iff_eq, decide_eq_true_iff]
  constructor
  · intro h2; subst h2; simp; omega
  · intro h2; subst h2; simp
theorem badC_eq (e : Bool) (c : UInt8) : badC e c = decide (c.toNat = 13 ∨ c.toNat = 10 ∨ c.toNat = 0 ∨ (128 ≤ c.toNat ∧ e = false)) := by
  unfold badC
  rw [show (13 : UInt8) = UInt8.ofNat 13 from rfl, show (10 : UInt8) = UInt8.ofNat 10 from rfl, show (0 : UInt8) = UInt8.ofNat 0 from rfl, u8_is c 13 (by omega), u8_is c 10 (by omega), u8_is c 0 (by omega)]
  rw [Bool.eq_iff_iff]
  cases e <;> simp [or_assoc]
end Go.Proofs.YtjgohmfmalcjoaaDoor.Tr
