import Derived.Test.YtjgohmfmalcjoaaDoorTr7
/- Plain: base64 is decoded again. -/
namespace Go.Proofs.YtjgohmfmalcjoaaDoor.Tr
open Go.RowKit Go.Proofs.YtjgohmfmalcjoaaDoor.Base
set_option linter.unusedVariables false
set_option linter.unusedSimpArgs false
def notEol (c : UInt8) : Bool := c != 13 && c != 10
theorem eol_val {c : UInt8} (h : notEol c = false) : c.toNat ≠ 61 ∧ val6 c < 0 := by
  have : c = 13 ∨ c = 10 := by
    unfold notEol at h
    simp at h
    rcases Classical.em (c = 13) with h1 | h1
    · exact .inl h1
    · exact .inr (h h1)
  rcases this with rfl | rfl <;> decide +kernel
theorem bitsV_filter : ∀ l : List UInt8, bitsV l = bitsV (l.filter notEol)
  | [] => rfl
  | c :: r => by
    have ih := bitsV_filter r
    cases h : notEol c with
    | false =>
      obtain ⟨h1, h2⟩ := eol_val h
      rw [List.filter_cons_of_neg (by rw [h]; simp), ← ih]
      conv => lhs; unfold bitsV
      rw [if_neg h1, if_pos h2]
    | true =>
      rw [List.filter_cons_of_pos h]
      unfold bitsV
      rw [ih]
theorem linesF_filter : ∀ (n : Nat) (s out : List UInt8), s.length ≤ 76 * n → (linesF (n + 1) s out).filter notEol = out.filter notEol ++ s.filter notEol
  | n, s, out, h => by
    have e2 : ([13, 10] : List UInt8).filter notEol = [] := by decide
    unfold linesF
    split
    · obtain ⟨m, rfl⟩ : ∃ m, n = m + 1 := ⟨n - 1, by omega⟩
      rw [linesF_filter m _ _ (by rw [List.length_drop]; omega), List.filter_append, List.filter_append, e2, List.append_nil, List.append_assoc, ← List.filter_append, List.take_append_drop]
    · split
      · rename_i h0
        obtain rfl : s = [] := List.eq_nil_of_length_eq_zero h0
        simp
      · rw [List.filter_append, List.filter_append, e2, List.append_nil]
theorem let6_ok : ∀ k : Fin 64, val6 (let6 k.val) = (k.val : Int) ∧ (let6 k.val).toNat ≠ 61 ∧ notEol (let6 k.val) = true ∧ 43 ≤ (let6 k.val).toNat ∧ (let6 k.val).toNat ≤ 122 := by decide +kernel
theorem let6_v (k : Nat) (h : k < 64) : val6 (let6 k) = (k : Int) ∧ (let6 k).toNat ≠ 61 ∧ notEol (let6 k) = true ∧ 43 ≤ (let6 k).toNat ∧ (let6 k).toNat ≤ 122 := let6_ok ⟨k, h⟩
theorem bitsV_let (k : Nat) (h : k < 64) (r : List UInt8) : bitsV (let6 k :: r) = bits6 (k : Int) ++ bitsV r := by
  obtain ⟨h1, h2, _⟩ := let6_v k h
  conv => lhs; unfold bitsV
  rw [if_neg h2, h1, if_neg (by omega)]
theorem bitsV_eq (r : List UInt8) : bitsV (61 :: r) = [] := by
  conv => lhs; unfold bitsV
  exact if_pos (by decide)
theorem bytes8_short (b : List Int) (h : b.length < 8) : bytes8 b (b.length / 8) = [] := by rw [Nat.div_eq_of_lt h]; rfl
def b64V (l : List UInt8) : List UInt8 := bytes8 (bitsV l) ((bitsV l).length / 8)
theorem u8_back {x : UInt8} {n : Int} (h : n = (x.toNat : Int)) : UInt8.ofNat n.toNat = x := by
  rw [h]; simp
set_option maxHeartbeats 4000000 in
theorem back3 (x y z : UInt8) (r : List UInt8) : b64V (groupL [x, y, z] ++ r) = x :: y :: z :: b64V r := by
  have hx := x.toNat_lt
  have hy := y.toNat_lt
  have hz := z.toNat_lt
  have hn := num_3 x y z
  have e : bitsV (groupL [x, y, z] ++ r) = bits6 (((num3 [x, y, z]) / 262144 : Nat) : Int) ++ (bits6 ((num3 [x, y, z] / 4096 % 64 : Nat) : Int) ++ (bits6 ((num3 [x, y, z] / 64 % 64 : Nat) : Int) ++ (bits6 ((num3 [x, y, z] % 64 : Nat) : Int) ++ bitsV r))) := by
    rw [grp3]
    show bitsV (let6 _ :: let6 _ :: let6 _ :: let6 _ :: r) = _
    rw [bitsV_let _ (by omega), bitsV_let _ (by omega), bitsV_let _ (by omega), bitsV_let _ (by omega)]
  unfold b64V
  rw [e]
  generalize num3 [x, y, z] = n at *
  generalize ha : ((n / 262144 : Nat) : Int) = a
  generalize hb : ((n / 4096 % 64 : Nat) : Int) = b
  generalize hc : ((n / 64 % 64 : Nat) : Int) = c
  generalize hd : ((n % 64 : Nat) : Int) = d
  have e1 : bits6 a ++ (bits6 b ++ (bits6 c ++ (bits6 d ++ bitsV r))) = [a / 32 % 2, a / 16 % 2, a / 8 % 2, a / 4 % 2, a / 2 % 2, a % 2, b / 32 % 2, b / 16 % 2] ++ ([b / 8 % 2, b / 4 % 2, b / 2 % 2, b % 2, c / 32 % 2, c / 16 % 2, c / 8 % 2, c / 4 % 2] ++ ([c / 2 % 2, c % 2, d / 32 % 2, d / 16 % 2, d / 8 % 2, d / 4 % 2, d / 2 % 2, d % 2] ++ bitsV r)) := rfl
  rw [e1, bytes8_cons _ _ rfl, bytes8_cons _ _ rfl, bytes8_cons _ _ rfl, sum8, sum8, sum8]
  rw [u8_back (x := x) (by omega), u8_back (x := y) (by omega), u8_back (x := z) (by omega)]
set_option maxHeartbeats 4000000 in
theorem back2 (x y : UInt8) : b64V (groupL [x, y]) = [x, y] := by
  have hx := x.toNat_lt
  have hy := y.toNat_lt
  have hn := num_2 x y
  have e : bitsV (groupL [x, y]) = bits6 (((num3 [x, y]) / 262144 : Nat) : Int) ++ (bits6 ((num3 [x, y] / 4096 % 64 : Nat) : Int) ++ (bits6 ((num3 [x, y] / 64 % 64 : Nat) : Int) ++ [])) := by
    rw [grp2, bitsV_let _ (by omega), bitsV_let _ (by omega), bitsV_let _ (by omega), bitsV_eq]
  unfold b64V
  rw [e]
  generalize num3 [x, y] = n at *
  generalize ha : ((n / 262144 : Nat) : Int) = a
  generalize hb : ((n / 4096 % 64 : Nat) : Int) = b
  generalize hc : ((n / 64 % 64 : Nat) : Int) = c
  have e1 : bits6 a ++ (bits6 b ++ (bits6 c ++ [])) = [a / 32 % 2, a / 16 % 2, a / 8 % 2, a / 4 % 2, a / 2 % 2, a % 2, b / 32 % 2, b / 16 % 2] ++ ([b / 8 % 2, b / 4 % 2, b / 2 % 2, b % 2, c / 32 % 2, c / 16 % 2, c / 8 % 2, c / 4 % 2] ++ [c / 2 % 2, c % 2]) := rfl
  rw [e1, bytes8_cons _ _ rfl, bytes8_cons _ _ rfl, sum8, sum8]
  rw [u8_back (x := x) (by omega), u8_back (x := y) (by omega), bytes8_short _ (by simp)]
set_option maxHeartbeats 4000000 in
theorem back1 (x : UInt8) : b64V (groupL [x]) = [x] := by
  have hx := x.toNat_lt
  have hn := num_1 x
  have e : bitsV (groupL [x]) = bits6 (((num3 [x]) / 262144 : Nat) : Int) ++ (bits6 ((num3 [x] / 4096 % 64 : Nat) : Int) ++ []) := by
    rw [grp1, bitsV_let _ (by omega), bitsV_let _ (by omega), bitsV_eq]
  unfold b64V
  rw [e]
  generalize num3 [x] = n at *
  generalize ha : ((n / 262144 : Nat) : Int) = a
  generalize hb : ((n / 4096 % 64 : Nat) : Int) = b
  have e1 : bits6 a ++ (bits6 b ++ []) = [a / 32 % 2, a / 16 % 2, a / 8 % 2, a / 4 % 2, a / 2 % 2, a % 2, b / 32 % 2, b / 16 % 2] ++ [b / 8 % 2, b / 4 % 2, b / 2 % 2, b % 2] := rfl
  rw [e1, bytes8_cons _ _ rfl, sum8]
  rw [u8_back (x := x) (by omega), bytes8_short _ (by simp)]
theorem chars_back : ∀ (n : Nat) (l : List UInt8), l.length ≤ n → b64V (chars64 l) = l
  | _, [], _ => rfl
  | _, [x], _ => by rw [ch1, c8]; exact back1 x
  | _, [x, y], _ => by rw [ch2, c16]; exact back2 x y
  | 0, x :: y :: z :: l, h => by simp at h
  | n + 1, x :: y :: z :: l, h => by
    rw [chars64_cons, back3, chars_back n l (by simp at h; omega)]
theorem num3_lt (p : List UInt8) : num3 p < 16777216 := by
  have h0 := (p.getD 0 0).toNat_lt
  have h1 := (p.getD 1 0).toNat_lt
  have h2 := (p.getD 2 0).toNat_lt
  unfold num3
  omega
theorem grp_mem {p : List UInt8} {x : UInt8} (h : x ∈ groupL p) : notEol x = true ∧ 43 ≤ x.toNat ∧ x.toNat ≤ 122 := by
  have hn := num3_lt p
  have k1 := (let6_v (num3 p / 262144) (by omega)).2.2
  have k2 := (let6_v (num3 p / 4096 % 64) (by omega)).2.2
  have k3 := (let6_v (num3 p / 64 % 64) (by omega)).2.2
  have k4 := (let6_v (num3 p % 64) (by omega)).2.2
  have k5 : notEol 61 = true ∧ 43 ≤ (61 : UInt8).toNat ∧ (61 : UInt8).toNat ≤ 122 := by decide
  unfold groupL at h
  simp only [List.mem_cons, List.mem_nil_iff, or_false] at h
  rcases h with h | h | h | h
  · rw [h]; exact k1
  · rw [h]; exact k2
  · rw [h]; split
    · exact k5
    · exact k3
  · rw [h]; split
    · exact k5
    · exact k4
theorem chars_mem {l : List UInt8} {x : UInt8} (h : x ∈ chars64 l) : notEol x = true ∧ 43 ≤ x.toNat ∧ x.toNat ≤ 122 := by
  rw [← plain_eq l.length l (Nat.le_refl _)] at h
  unfold plainL at h
  obtain ⟨k, _, hk⟩ := List.mem_flatMap.1 h
  exact grp_mem hk
theorem base64_back (l : List UInt8) : loose64 (lines64 l) = l := by
  have h : bitsV (lines64 l) = bitsV (chars64 l) := by
    rw [bitsV_filter]
    unfold lines64
    rw [linesF_filter _ _ _ (by omega), List.filter_nil, List.nil_append, List.filter_eq_self.2 (fun x hx => (chars_mem hx).1)]
  have h2 := chars_back l.length l (Nat.le_refl _)
  unfold b64V at h2
  unfold loose64
  rw [h, h2]
end Go.Proofs.YtjgohmfmalcjoaaDoor.Tr
