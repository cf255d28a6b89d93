import Derived.Test.YtjgohmfmalcjoaaDoorTr5
/- Plain: base64 by bits. -/
namespace Go.Proofs.YtjgohmfmalcjoaaDoor.Tr
open Go.RowKit Go.Proofs.YtjgohmfmalcjoaaDoor.Base
set_option linter.unusedVariables false
def bitAt (x : UInt8) (k : Nat) : Int := ((x.toNat / 2 ^ k % 2 : Nat) : Int)
def bits8 (x : UInt8) : List Int := [bitAt x 7, bitAt x 6, bitAt x 5, bitAt x 4, bitAt x 3, bitAt x 2, bitAt x 1, bitAt x 0]
def bitsL (l : List UInt8) : List Int := l.flatMap bits8
def sumL (b : List Int) : Int := b.foldl (fun n x => 2 * n + x) 0
def Bit (b : List Int) : Prop := ∀ x ∈ b, x = 0 ∨ x = 1
theorem bitAt_01 (x : UInt8) (k : Nat) : bitAt x k = 0 ∨ bitAt x k = 1 := by unfold bitAt; omega
theorem bits8_bit (x : UInt8) : Bit (bits8 x) := fun y hy => by
  unfold bits8 at hy
  simp only [List.mem_cons, List.mem_nil_iff, or_false] at hy
  rcases hy with h | h | h | h | h | h | h | h <;> (rw [h]; exact bitAt_01 _ _)
theorem bitsL_bit (l : List UInt8) : Bit (bitsL l) := fun y hy => by
  unfold bitsL at hy
  obtain ⟨x, _, hx⟩ := List.mem_flatMap.1 hy
  exact bits8_bit x y hx
theorem bitsL_len : ∀ l : List UInt8, (bitsL l).length = 8 * l.length
  | [] => rfl
  | x :: l => by
    have := bitsL_len l
    unfold bitsL at *
    rw [List.flatMap_cons, List.length_append, this, List.length_cons]
    show 8 + _ = _
    omega
theorem bitsL_snoc (l : List UInt8) (k : Nat) (h : k < l.length) : bitsL (l.take (k + 1)) = bitsL (l.take k) ++ bits8 l[k] := by
  unfold bitsL
  rw [List.take_succ_eq_append_getElem h, List.flatMap_append]
  simp
theorem foldl_bd : ∀ (b : List Int) (n : Int), Bit b → 0 ≤ n → 0 ≤ b.foldl (fun n x => 2 * n + x) n ∧ b.foldl (fun n x => 2 * n + x) n < (n + 1) * 2 ^ b.length
  | [], n, _, h => by simp; omega
  | x :: b, n, hb, h => by
    have hx := hb x (by simp)
    have := foldl_bd b (2 * n + x) (fun y hy => hb y (by simp [hy])) (by omega)
    rw [List.foldl_cons, List.length_cons]
    refine ⟨this.1, Int.lt_of_lt_of_le this.2 ?_⟩
    rw [Int.pow_succ, ← Int.mul_assoc]
    have h2 : (2 * n + x + 1) ≤ (n + 1) * 2 := by omega
    have hp : (0 : Int) ≤ 2 ^ b.length := Int.le_of_lt (Int.pow_pos (by decide))
    calc (2 * n + x + 1) * 2 ^ b.length ≤ ((n + 1) * 2) * 2 ^ b.length := Int.mul_le_mul_of_nonneg_right h2 hp
      _ = (n + 1) * 2 ^ b.length * 2 := by rw [Int.mul_assoc, Int.mul_comm 2, ← Int.mul_assoc]
theorem sumL_bd {b : List Int} (hb : Bit b) (hl : b.length ≤ 6) : 0 ≤ sumL b ∧ sumL b < 64 := by
  have := foldl_bd b 0 hb (by omega)
  refine ⟨this.1, Int.lt_of_lt_of_le this.2 ?_⟩
  have h : b.length = 0 ∨ b.length = 1 ∨ b.length = 2 ∨ b.length = 3 ∨ b.length = 4 ∨ b.length = 5 ∨ b.length = 6 := by omega
  rcases h with h | h | h | h | h | h | h <;> rw [h] <;> decide
theorem sumL_snoc (b : List Int) (k : Nat) (h : k < b.length) : sumL (b.take (k + 1)) = 2 * sumL (b.take k) + b[k] := by
  unfold sumL
  rw [List.take_succ_eq_append_getElem h, List.foldl_append]
  rfl
def letS : ByteArray := ⟨#[65, 66, 67, 68, 69, 70, 71, 72, 73, 74, 75, 76, 77, 78, 79, 80, 81, 82, 83, 84, 85, 86, 87, 88, 89, 90, 97, 98, 99, 100, 101, 102, 103, 104, 105, 106, 107, 108, 109, 110, 111, 112, 113, 114, 115, 116, 117, 118, 119, 120, 121, 122, 48, 49, 50, 51, 52, 53, 54, 55, 56, 57, 43, 47]⟩
def let6 (n : Nat) : UInt8 := letS.data.getD n 0
theorem letX : ∀ k : Fin 64, letS.extract k.val (k.val + 1) = ⟨#[let6 k.val]⟩ := by decide +kernel
def padL (b : List Int) : List Int := b ++ List.replicate ((6 - b.length % 6) % 6) 0
def c6To (b : List Int) (j : Nat) : List UInt8 := (List.range j).map fun t => let6 (sumL ((b.drop (6 * t)).take 6)).toNat
theorem c6To_len (b : List Int) (j : Nat) : (c6To b j).length = j := by simp [c6To]
theorem c6To_succ (b : List Int) (j : Nat) : c6To b (j + 1) = c6To b j ++ [let6 (sumL ((b.drop (6 * j)).take 6)).toNat] := by simp [c6To, List.range_succ]
def chars64 (l : List UInt8) : List UInt8 := c6To (padL (bitsL l)) ((padL (bitsL l)).length / 6) ++ List.replicate ((4 - ((padL (bitsL l)).length / 6) % 4) % 4) 61
theorem padL_len (b : List Int) : (padL b).length % 6 = 0 ∧ b.length ≤ (padL b).length ∧ (padL b).length < b.length + 6 := by
  unfold padL
  rw [List.length_append, List.length_replicate]
  omega
theorem chars64_len (l : List UInt8) : (chars64 l).length = (l.length + 2) / 3 * 4 := by
  have h := padL_len (bitsL l)
  have h2 := bitsL_len l
  unfold chars64
  rw [List.length_append, c6To_len, List.length_replicate]
  omega
/-- the lines of a text of characters. -/
def linesF : Nat → List UInt8 → List UInt8 → List UInt8
  | 0, _, out => out
  | n + 1, s, out => if 76 < s.length then linesF n (s.drop 76) (out ++ s.take 76 ++ [13, 10]) else if s.length = 0 then out else out ++ s ++ [13, 10]
def lines64 (l : List UInt8) : List UInt8 := linesF ((chars64 l).length + 1) (chars64 l) []
theorem linesF_len : ∀ n s out, s.length ≤ 76 * n → (linesF (n + 1) s out).length = out.length + s.length + (s.length + 75) / 76 * 2
  | 0, s, out, h => by
    have hs : s = [] := List.eq_nil_of_length_eq_zero (by omega)
    subst hs
    simp [linesF]
  | n + 1, s, out, h => by
    unfold linesF
    split
    · rename_i hlt
      rw [linesF_len n (s.drop 76) _ (by rw [List.length_drop]; omega)]
      simp only [List.length_append, List.length_take, List.length_drop, List.length_cons, List.length_nil]
      omega
    · split
      · omega
      · simp only [List.length_append, List.length_cons, List.length_nil]
        omega
end Go.Proofs.YtjgohmfmalcjoaaDoor.Tr
