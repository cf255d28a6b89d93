import Derived.Test.YtjgohmfmalcjoaaDoorMc
import Derived.Test.YtjgohmfmalcjoaaDoorMb
/- Plain: the first byte that cannot be transported as it is. -/
namespace Go.Proofs.YtjgohmfmalcjoaaDoor.Tr
open Go.RowKit Go.Proofs.YtjgohmfmalcjoaaDoor.Base
set_option linter.unusedVariables false
def badC (e : Bool) (c : UInt8) : Bool := c == 13 || c == 10 || c == 0 || (decide (128 ≤ c.toNat) && !e)
def refF (e : Bool) (l : List UInt8) : Nat → Nat → Nat → Int
  | 0, _, _ => -1
  | n + 1, i, col => match l[i]? with
    | none => -1
    | some c => if crlfAt l i = true then refF e l n (i + 2) 0 else if badC e c = true ∨ 998 ≤ col then (i : Int) else refF e l n (i + 1) (col + 1)
def refL (e : Bool) (l : List UInt8) : Int := refF e l l.length 0 0
theorem refF_end {e : Bool} {l : List UInt8} {i : Nat} (h : l.length ≤ i) : ∀ n col, refF e l n i col = -1
  | 0, _ => rfl
  | n + 1, col => by unfold refF; rw [List.getElem?_eq_none h]
theorem refF_at {e : Bool} {l : List UInt8} {n i col : Nat} (h : i < l.length) : refF e l (n + 1) i col = if crlfAt l i = true then refF e l n (i + 2) 0 else if badC e l[i] = true ∨ 998 ≤ col then (i : Int) else refF e l n (i + 1) (col + 1) := by
  conv => lhs; unfold refF
  rw [List.getElem?_eq_getElem h]
theorem refF_bd {e : Bool} {l : List UInt8} : ∀ n i col, -1 ≤ refF e l n i col ∧ refF e l n i col ≤ l.length
  | 0, _, _ => by simp [refF]
  | n + 1, i, col => by
    unfold refF
    split
    · omega
    · rename_i c hc
      have := (List.getElem?_eq_some_iff.1 hc).1
      split
      · exact refF_bd n _ _
      · split
        · omega
        · exact refF_bd n _ _
theorem badC_eq (e : Bool) (c : UInt8) : badC e c = decide (c.toNat = 13 ∨ c.toNat = 10 ∨ c.toNat = 0 ∨ (128 ≤ c.toNat ∧ e = false)) := by
  unfold badC
  rw [show (13 : UInt8) = UInt8.ofNat 13 from rfl, show (10 : UInt8) = UInt8.ofNat 10 from rfl, show (0 : UInt8) = UInt8.ofNat 0 from rfl, u8_is c 13 (by omega), u8_is c 10 (by omega), u8_is c 0 (by omega)]
  rw [Bool.eq_iff_iff]
  cases e <;> simp [or_assoc]
end Go.Proofs.YtjgohmfmalcjoaaDoor.Tr
/- Plain: bytes as quoted text. -/
namespace Go.Proofs.YtjgohmfmalcjoaaDoor.Tr
open Go.RowKit Go.Proofs.YtjgohmfmalcjoaaDoor.Base
set_option linter.unusedVariables false
/-- the end of the data or of a line. -/
def eolAt (l : List UInt8) (i : Nat) : Bool := i == l.length || crlfAt l i
def hexS : ByteArray := ⟨#[48, 49, 50, 51, 52, 53, 54, 55, 56, 57, 65, 66, 67, 68, 69, 70]⟩
def hexD (n : Nat) : UInt8 := hexS.data.getD n 0
def plainC (c : UInt8) : Bool := decide (32 < c.toNat) && decide (c.toNat < 127) && decide (c.toNat ≠ 61)
/-- the characters of the byte c; e: it stands at the end of a line. -/
def tokC (c : UInt8) (e : Bool) : List UInt8 := if plainC c = true ∨ (blankC c = true ∧ e = false) then [c] else [61, hexD (c.toNat / 16), hexD (c.toNat % 16)]
def tokQ (l : List UInt8) (i : Nat) : List UInt8 := tokC (l.getD i 0) (eolAt l (i + 1))
theorem tokC_len (c : UInt8) (e : Bool) : 1 ≤ (tokC c e).length ∧ (tokC c e).length ≤ 3 := by unfold tokC; split <;> simp
def roomQ (l : List UInt8) (i : Nat) : Nat := if eolAt l (i + 1) = true then 76 else 75
def quoF (l : List UInt8) : Nat → Nat → Nat → List UInt8 → List UInt8
  | 0, _, _, out => out
  | n + 1, i, col, out => if i < l.length then
      if crlfAt l i = true then quoF l n (i + 2) 0 (out ++ [13, 10])
      else if roomQ l i < col + (tokQ l i).length then quoF l n (i + 1) (tokQ l i).length (out ++ [61, 13, 10] ++ tokQ l i)
      else quoF l n (i + 1) (col + (tokQ l i).length) (out ++ tokQ l i)
    else out
def quoL (l : List UInt8) : List UInt8 := quoF l l.length 0 0 []
theorem eol_in {l : List UInt8} {i : Nat} (h : i < l.length) : eolAt l i = crlfAt l i := by
  unfold eolAt
  have : (i == l.length) = false := by simp; omega
  rw [this, Bool.false_or]
theorem quoF_end {l : List UInt8} {i : Nat} (h : l.length ≤ i) : ∀ n col out, quoF l n i col out = out
  | 0, _, _ => rfl
  | n + 1, col, out => by unfold quoF; rw [if_neg (by omega)]
theorem quoF_at {l : List UInt8} {n i col : Nat} {out : List UInt8} (h : i < l.length) : quoF l (n + 1) i col out =
    if crlfAt l i = true then quoF l n (i + 2) 0 (out ++ [13, 10])
    else if roomQ l i < col + (tokQ l i).length then quoF l n (i + 1) (tokQ l i).length (out ++ [61, 13, 10] ++ tokQ l i)
    else quoF l n (i + 1) (col + (tokQ l i).length) (out ++ tokQ l i) := by
  conv => lhs; unfold quoF
  rw [if_pos h]
theorem quoF_len {l : List UInt8} : ∀ n i col out, (quoF l n i col out).length ≤ out.length + 6 * n
  | 0, _, _, out => by simp [quoF]
  | n + 1, i, col, out => by
    have ht : (tokQ l i).length ≤ 3 := (tokC_len (l.getD i 0) (eolAt l (i + 1))).2
    unfold quoF
    split
    · split
      · have := quoF_len (l := l) n (i + 2) 0 (out ++ [13, 10])
        have e : (out ++ [13, 10]).length = out.length + 2 := by simp
        omega
      · split
        · have := quoF_len (l := l) n (i + 1) (tokQ l i).length (out ++ [61, 13, 10] ++ tokQ l i)
          have e : (out ++ [61, 13, 10] ++ tokQ l i).length = out.length + 3 + (tokQ l i).length := by rw [List.length_append, List.length_append]; rfl
          omega
        · have := quoF_len (l := l) n (i + 1) (col + (tokQ l i).length) (out ++ tokQ l i)
          have e : (out ++ tokQ l i).length = out.length + (tokQ l i).length := by simp
          omega
    · omega
end Go.Proofs.YtjgohmfmalcjoaaDoor.Tr
