/- Plain: bytes and letters. -/
import Derived.Test.YtjgohmfmalcjoaaDoorBase
import Derived.Test.YtjgohmfmalcjoaaDoorBase2
import Derived.Test.YtjgohmfmalcjoaaDoorBase3
namespace Go.Proofs.YtjgohmfmalcjoaaDoor.Tr
open Go.RowKit Go.Proofs.YtjgohmfmalcjoaaDoor.Base
set_option linter.unusedVariables false
set_option linter.unusedSimpArgs false
/-- a byte in memory. -/
abbrev bv (b : UInt8) : Value := .int .u8 (b.toNat : Int)
def inR (n lo hi : Int) : Bool := decide (lo ≤ n) && decide (n ≤ hi)
theorem inR_t {n lo hi : Int} (h : inR n lo hi = true) : lo ≤ n ∧ n ≤ hi := by simpa [inR] using h
theorem inR_f {n lo hi : Int} (h : inR n lo hi = false) : n < lo ∨ hi < n := by
  simp [inR] at h; omega
theorem inR_mk {n lo hi : Int} (h : lo ≤ n) (h' : n ≤ hi) : inR n lo hi = true := by simp [inR, h, h']
theorem tf (c : Bool) : c = false ∨ c = true := by cases c <;> simp
theorem u8_lt (c : UInt8) : (c.toNat : Int) < 256 := by have := c.toNat_lt; omega
theorem u8_nat (c : UInt8) : c.toNat < 256 := c.toNat_lt
/-- a letter in lower case. -/
def lowC (c : UInt8) : UInt8 := if 65 ≤ c.toNat ∧ c.toNat ≤ 90 then c + 32 else c
theorem lowC_up {c : UInt8} (h1 : 65 ≤ c.toNat) (h2 : c.toNat ≤ 90) : ((lowC c).toNat : Int) = (c.toNat : Int) + 32 := by
  unfold lowC
  rw [if_pos ⟨h1, h2⟩, UInt8.toNat_add]
  have : (32 : UInt8).toNat = 32 := rfl
  rw [this]
  omega
theorem lowC_no {c : UInt8} (h : c.toNat < 65 ∨ 90 < c.toNat) : lowC c = c := by unfold lowC; rw [if_neg (by omega)]
def lowL (s : ByteArray) : List UInt8 := s.data.toList.map lowC
def lowS (s : ByteArray) : ByteArray := ⟨(lowL s).toArray⟩
theorem lowL_len (s : ByteArray) : (lowL s).length = s.size := by unfold lowL; simp
theorem lowL_at (s : ByteArray) (k : Nat) (h : k < s.size) : (lowL s)[k]? = some (lowC s[k]) := by
  unfold lowL
  rw [List.getElem?_map, List.getElem?_eq_getElem (by simpa using h)]
  rfl
/-- alike but for the case of letters. -/
def alike (a b : ByteArray) : Bool := lowL a == lowL b
theorem alike_len {a b : ByteArray} (h : a.size ≠ b.size) : alike a b = false := by
  unfold alike
  rw [beq_eq_false_iff_ne]
  intro e
  have := congrArg List.length e
  rw [lowL_len, lowL_len] at this
  exact h this
theorem alike_no {a b : ByteArray} {k : Nat} (ha : k < a.size) (hb : k < b.size) (h : lowC a[k] ≠ lowC b[k]) : alike a b = false := by
  unfold alike
  rw [beq_eq_false_iff_ne]
  intro e
  have := congrArg (·[k]?) e
  simp only [lowL_at a k ha, lowL_at b k hb, Option.some.injEq] at this
  exact h this
theorem alike_yes {a b : ByteArray} (hs : a.size = b.size) (h : ∀ k (ha : k < a.size) (hb : k < b.size), lowC a[k] = lowC b[k]) : alike a b = true := by
  unfold alike
  rw [beq_iff_eq]
  apply List.ext_getElem?
  intro k
  by_cases hk : k < a.size
  · rw [lowL_at a k hk, lowL_at b k (by omega), h k hk (by omega)]
  · rw [List.getElem?_eq_none (by rw [lowL_len]; omega), List.getElem?_eq_none (by rw [lowL_len]; omega)]
/-- the names of encodings. -/
def nm7 : ByteArray := ⟨#[55, 98, 105, 116]⟩
def nm8 : ByteArray := ⟨#[56, 98, 105, 116]⟩
def nm64 : ByteArray := ⟨#[98, 97, 115, 101, 54, 52]⟩
def nmQ : ByteArray := ⟨#[113, 117, 111, 116, 101, 100, 45, 112, 114, 105, 110, 116, 97, 98, 108, 101]⟩
def codingOf (n : ByteArray) : Int := if alike nm7 n = true then 0 else if alike nm8 n = true then 1 else if alike nm64 n = true then 2 else if alike nmQ n = true then 3 else -1
end Go.Proofs.YtjgohmfmalcjoaaDoor.Tr
