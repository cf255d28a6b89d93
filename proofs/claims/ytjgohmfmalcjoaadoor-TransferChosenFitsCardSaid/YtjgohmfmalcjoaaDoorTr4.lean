import Derived.Test.YtjgohmfmalcjoaaDoorMc
import Derived.Test.YtjgohmfmalcjoaaDoorTrW12
import Derived.Shelf.Bytes.SlTrim
/- Plain: quoted text, decoding of a line. -/
namespace Go.Proofs.YtjgohmfmalcjoaaDoor.Tr
open Go.RowKit Go.Proofs.YtjgohmfmalcjoaaDoor.Base
set_option linter.unusedVariables false
/-- an escape begins at i. -/
def escAt (t : List UInt8) (i : Nat) : Bool := decide ((t.getD i 0).toNat = 61) && decide (i + 2 < t.length) && decide (0 ≤ hexV (t.getD (i + 1) 0)) && decide (0 ≤ hexV (t.getD (i + 2) 0))
def escB (t : List UInt8) (i : Nat) : UInt8 := UInt8.ofNat (16 * hexV (t.getD (i + 1) 0) + hexV (t.getD (i + 2) 0)).toNat
def unqF (t : List UInt8) : Nat → Nat → List UInt8 → List UInt8
  | 0, _, out => out
  | n + 1, i, out => if i < t.length then if escAt t i = true then unqF t n (i + 3) (out ++ [escB t i]) else unqF t n (i + 1) (out ++ [t.getD i 0]) else out
def lineT (l : List UInt8) : List UInt8 := Lib.trimRightS l [32, 9]
def lineS (l : List UInt8) : Bool := decide (0 < (lineT l).length) && decide (((lineT l).getD ((lineT l).length - 1) 0).toNat = 61)
def lineB (l : List UInt8) : List UInt8 := if lineS l = true then (lineT l).take ((lineT l).length - 1) else lineT l
def lineF (l : List UInt8) : List UInt8 := unqF (lineB l) (lineB l).length 0 []
theorem unqF_end {t : List UInt8} {i : Nat} (h : t.length ≤ i) : ∀ n out, unqF t n i out = out
  | 0, _ => rfl
  | n + 1, out => by unfold unqF; rw [if_neg (by omega)]
theorem unqF_at {t : List UInt8} {n i : Nat} {out : List UInt8} (h : i < t.length) : unqF t (n + 1) i out = if escAt t i = true then unqF t n (i + 3) (out ++ [escB t i]) else unqF t n (i + 1) (out ++ [t.getD i 0]) := by
  conv => lhs; unfold unqF
  rw [if_pos h]
theorem unqF_len {t : List UInt8} : ∀ n i out, (unqF t n i out).length ≤ out.length + n
  | 0, _, out => by simp [unqF]
  | n + 1, i, out => by
    unfold unqF
    split
    · split
      · have := unqF_len (t := t) n (i + 3) (out ++ [escB t i])
        rw [List.length_append] at this; simp only [List.length_singleton] at this; omega
      · have := unqF_len (t := t) n (i + 1) (out ++ [t.getD i 0])
        rw [List.length_append] at this; simp only [List.length_singleton] at this; omega
    · omega
theorem lineB_len (l : List UInt8) : (lineB l).length ≤ l.length := by
  have := trim_len l [32, 9]
  unfold lineB
  split
  · rw [List.length_take]; unfold lineT; omega
  · exact this
theorem lineF_len (l : List UInt8) : (lineF l).length ≤ l.length := by
  have := lineB_len l
  have h2 := unqF_len (t := lineB l) (lineB l).length 0 []
  unfold lineF
  simp at h2
  omega
end Go.Proofs.YtjgohmfmalcjoaaDoor.Tr
