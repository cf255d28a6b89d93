import Derived.Test.YtjgohmfmalcjoaaDoorMa
/- Plain: bytes and letters. -/
namespace Go.Proofs.YtjgohmfmalcjoaaDoor.Tr
open Go.RowKit Go.Proofs.YtjgohmfmalcjoaaDoor.Base
set_option linter.unusedVariables false
set_option linter.unusedSimpArgs false
/-- a byte in memory. -/
abbrev bv (b : UInt8) : Value := .int .u8 (b.toNat : Int)
def inR (n lo hi : Int) : Bool := decide (lo ≤ n) && decide (n ≤ hi)
theorem inR_t {n lo hi : Int} (h : inR n lo hi = true) : lo ≤ n ∧ n ≤ hi := by simpa [inR] using h
theorem inR_f {n lo hi : Int} (h : inR n lo hi = false) : n < lo ∨ hi < n := by
  simp [inR] at h; omega
theorem inR_mk {n lo hi : Int} (h : lo ≤ n) (h' : n ≤ hi) : inR n lo hi = true := by simp [inR, h, h']
theorem tf (c : Bool) : c = false ∨ c = true := by cases c <;> simp
theorem u8_lt (c : UInt8) : (c.toNat : Int) < 256 := by have := c.toNat_lt; omega
theorem u8_nat (c : UInt8) : c.toNat < 256 := c.toNat_lt
/-- a letter in lower case. -/
def lowC (c : UInt8) : UInt8 := if 65 ≤ c.toNat ∧ c.toNat ≤ 90 then c + 32 else c
theorem lowC_up {c : UInt8} (h1 : 65 ≤ c.toNat) (h2 : c.toNat ≤ 90) : ((lowC c).toNat : Int) = (c.toNat : Int) + 32 := by
  unfold lowC
  rw [if_pos ⟨h1, h2⟩, UInt8.toNat_add]
  have : (32 : UInt8).toNat = 32 := rfl
  rw [this]
  omega
theorem lowC_no {c : UInt8} (h : c.toNat < 65 ∨ 90 < c.toNat) : lowC c = c := by unfold lowC; rw [if_neg (by omega)]
def lowL (s : ByteArray) : List UInt8 := s.data.toList.map lowC
def lowS (s : ByteArray) : ByteArray := ⟨(lowL s).toArray⟩
theorem lowL_len (s : ByteArray) : (lowL s).length = s.size := by unfold lowL; simp
theorem lowL_at (s : ByteArray) (k : Nat) (h : k < s.size) : (lowL s)[k]? = some (lowC s[k]) := by
  unfold lowL
  rw [List.getElem?_map, List.getElem?_eq_getElem (by simpa using h)]
  rfl
/-- alike but for the case of letters. -/
def alike (a b : ByteArray) : Bool := lowL a == lowL b
theorem alike_len {a b : ByteArray} (h : a.size ≠ b.size) : alike a b = false := by
  unfold alike
  rw [beq_eq_false_iff_ne]
  intro e
  have := congrArg List.length e
  rw [lowL_len, lowL_len] at this
  exact h this
theorem alike_no {a b : ByteArray} {k : Nat} (ha : k < a.size) (hb : k < b.size) (h : lowC a[k] ≠ lowC b[k]) : alike a b = false := by
  unfold alike
  rw [beq_eq_false_iff_ne]
  intro e
  have := congrArg (·[k]?) e
  simp only [lowL_at a k ha, lowL_at b k hb, Option.some.injEq] at this
  exact h this
theorem alike_yes {a b : ByteArray} (hs : a.size = b.size) (h : ∀ k (ha : k < a.size) (hb : k < b.size), lowC a[k] = lowC b[k]) : alike a b = true := by
  unfold alike
  rw [beq_iff_eq]
  apply List.ext_getElem?
  intro k
  by_cases hk : k < a.size
  · rw [lowL_at a k hk, lowL_at b k (by omega), h k hk (by omega)]
  · rw [List.getElem?_eq_none (by rw [lowL_len]; omega), List.getElem?_eq_none (by rw [lowL_len]; omega)]
/-- the names of encodings. -/
def nm7 : ByteArray := ⟨#[55, 98, 105, 116]⟩
def nm8 : ByteArray := ⟨#[56, 98, 105, 116]⟩
def nm64 : ByteArray := ⟨#[98, 97, 115, 101, 54, 52]⟩
def nmQ : ByteArray := ⟨#[113, 117, 111, 116, 101, 100, 45, 112, 114, 105, 110, 116, 97, 98, 108, 101]⟩
def codingOf (n : ByteArray) : Int := if alike nm7 n = true then 0 else if alike nm8 n = true then 1 else if alike nm64 n = true then 2 else if alike nmQ n = true then 3 else -1
end Go.Proofs.YtjgohmfmalcjoaaDoor.Tr
/- Plain: the first byte that cannot be transported as it is. -/
namespace Go.Proofs.YtjgohmfmalcjoaaDoor.Tr
open Go.RowKit Go.Proofs.YtjgohmfmalcjoaaDoor.Base
set_option linter.unusedVariables false
/-- CR LF at i. -/
def crlfAt (l : List UInt8) (i : Nat) : Bool := l[i]? == some 13 && l[i + 1]? == some 10
def badC (e : Bool) (c : UInt8) : Bool := c == 13 || c == 10 || c == 0 || (decide (128 ≤ c.toNat) && !e)
def refF (e : Bool) (l : List UInt8) : Nat → Nat → Nat → Int
  | 0, _, _ => -1
  | n + 1, i, col => match l[i]? with
    | none => -1
    | some c => if crlfAt l i = true then refF e l n (i + 2) 0 else if badC e c = true ∨ 998 ≤ col then (i : Int) else refF e l n (i + 1) (col + 1)
def refL (e : Bool) (l : List UInt8) : Int := refF e l l.length 0 0
theorem crlf_of {l : List UInt8} {i : Nat} (h : i + 1 < l.length) : crlfAt l i = (l[i] == 13 && l[i + 1] == 10) := by
  unfold crlfAt
  rw [List.getElem?_eq_getElem (by omega), List.getElem?_eq_getElem h]
  rfl
theorem crlf_end {l : List UInt8} {i : Nat} (h : l.length ≤ i + 1) : crlfAt l i = false := by
  unfold crlfAt
  rw [List.getElem?_eq_none (i := i + 1) (by omega)]
  simp
theorem refF_end {e : Bool} {l : List UInt8} {i : Nat} (h : l.length ≤ i) : ∀ n col, refF e l n i col = -1
  | 0, _ => rfl
  | n + 1, col => by unfold refF; rw [List.getElem?_eq_none h]
theorem refF_at {e : Bool} {l : List UInt8} {n i col : Nat} (h : i < l.length) : refF e l (n + 1) i col = if crlfAt l i = true then refF e l n (i + 2) 0 else if badC e l[i] = true ∨ 998 ≤ col then (i : Int) else refF e l n (i + 1) (col + 1) := by
  conv => lhs; unfold refF
  rw [List.getElem?_eq_getElem h]
theorem refF_bd {e : Bool} {l : List UInt8} : ∀ n i col, -1 ≤ refF e l n i col ∧ refF e l n i col ≤ l.length
  | 0, _, _ => by simp [refF]
  | n + 1, i, col => by
    unfold refF
    split
    · omega
    · rename_i c hc
      have := (List.getElem?_eq_some_iff.1 hc).1
      split
      · exact refF_bd n _ _
      · split
        · omega
        · exact refF_bd n _ _
theorem u8_is (c : UInt8) (n : Nat) (h : n < 256) : (c == UInt8.ofNat n) = decide (c.toNat = n) := by
  rw [Bool.eq_iff_iff, beq_iff_eq, decide_eq_true_iff]
  constructor
  · intro h2; subst h2; simp; omega
  · intro h2; subst h2; simp
theorem badC_eq (e : Bool) (c : UInt8) : badC e c = decide (c.toNat = 13 ∨ c.toNat = 10 ∨ c.toNat = 0 ∨ (128 ≤ c.toNat ∧ e = false)) := by
  unfold badC
  rw [show (13 : UInt8) = UInt8.ofNat 13 from rfl, show (10 : UInt8) = UInt8.ofNat 10 from rfl, show (0 : UInt8) = UInt8.ofNat 0 from rfl, u8_is c 13 (by omega), u8_is c 10 (by omega), u8_is c 0 (by omega)]
  rw [Bool.eq_iff_iff]
  cases e <;> simp [or_assoc]
end Go.Proofs.YtjgohmfmalcjoaaDoor.Tr
/- Plain: bytes as quoted text. -/
namespace Go.Proofs.YtjgohmfmalcjoaaDoor.Tr
open Go.RowKit Go.Proofs.YtjgohmfmalcjoaaDoor.Base
set_option linter.unusedVariables false
/-- the end of the data or of a line. -/
def eolAt (l : List UInt8) (i : Nat) : Bool := i == l.length || crlfAt l i
def hexS : ByteArray := ⟨#[48, 49, 50, 51, 52, 53, 54, 55, 56, 57, 65, 66, 67, 68, 69, 70]⟩
def hexD (n : Nat) : UInt8 := hexS.data.getD n 0
def plainC (c : UInt8) : Bool := decide (32 < c.toNat) && decide (c.toNat < 127) && decide (c.toNat ≠ 61)
def blankC (c : UInt8) : Bool := decide (c.toNat = 32) || decide (c.toNat = 9)
/-- the characters of the byte c; e: it stands at the end of a line. -/
def tokC (c : UInt8) (e : Bool) : List UInt8 := if plainC c = true ∨ (blankC c = true ∧ e = false) then [c] else [61, hexD (c.toNat / 16), hexD (c.toNat % 16)]
def tokQ (l : List UInt8) (i : Nat) : List UInt8 := tokC (l.getD i 0) (eolAt l (i + 1))
theorem tokC_len (c : UInt8) (e : Bool) : 1 ≤ (tokC c e).length ∧ (tokC c e).length ≤ 3 := by unfold tokC; split <;> simp
def roomQ (l : List UInt8) (i : Nat) : Nat := if eolAt l (i + 1) = true then 76 else 75
def quoF (l : List UInt8) : Nat → Nat → Nat → List UInt8 → List UInt8
  | 0, _, _, out => out
  | n + 1, i, col, out => if i < l.length then
      if crlfAt l i = true then quoF l n (i + 2) 0 (out ++ [13, 10])
      else if roomQ l i < col + (tokQ l i).length then quoF l n (i + 1) (tokQ l i).length (out ++ [61, 13, 10] ++ tokQ l i)
      else quoF l n (i + 1) (col + (tokQ l i).length) (out ++ tokQ l i)
    else out
def quoL (l : List UInt8) : List UInt8 := quoF l l.length 0 0 []
theorem eol_in {l : List UInt8} {i : Nat} (h : i < l.length) : eolAt l i = crlfAt l i := by
  unfold eolAt
  have : (i == l.length) = false := by simp; omega
  rw [this, Bool.false_or]
theorem quoF_end {l : List UInt8} {i : Nat} (h : l.length ≤ i) : ∀ n col out, quoF l n i col out = out
  | 0, _, _ => rfl
  | n + 1, col, out => by unfold quoF; rw [if_neg (by omega)]
theorem quoF_at {l : List UInt8} {n i col : Nat} {out : List UInt8} (h : i < l.length) : quoF l (n + 1) i col out =
    if crlfAt l i = true then quoF l n (i + 2) 0 (out ++ [13, 10])
    else if roomQ l i < col + (tokQ l i).length then quoF l n (i + 1) (tokQ l i).length (out ++ [61, 13, 10] ++ tokQ l i)
    else quoF l n (i + 1) (col + (tokQ l i).length) (out ++ tokQ l i) := by
  conv => lhs; unfold quoF
  rw [if_pos h]
theorem quoF_len {l : List UInt8} : ∀ n i col out, (quoF l n i col out).length ≤ out.length + 6 * n
  | 0, _, _, out => by simp [quoF]
  | n + 1, i, col, out => by
    have ht : (tokQ l i).length ≤ 3 := (tokC_len (l.getD i 0) (eolAt l (i + 1))).2
    unfold quoF
    split
    · split
      · have := quoF_len (l := l) n (i + 2) 0 (out ++ [13, 10])
        have e : (out ++ [13, 10]).length = out.length + 2 := by simp
        omega
      · split
        · have := quoF_len (l := l) n (i + 1) (tokQ l i).length (out ++ [61, 13, 10] ++ tokQ l i)
          have e : (out ++ [61, 13, 10] ++ tokQ l i).length = out.length + 3 + (tokQ l i).length := by rw [List.length_append, List.length_append]; rfl
          omega
        · have := quoF_len (l := l) n (i + 1) (col + (tokQ l i).length) (out ++ tokQ l i)
          have e : (out ++ tokQ l i).length = out.length + (tokQ l i).length := by simp
          omega
    · omega
end Go.Proofs.YtjgohmfmalcjoaaDoor.Tr
