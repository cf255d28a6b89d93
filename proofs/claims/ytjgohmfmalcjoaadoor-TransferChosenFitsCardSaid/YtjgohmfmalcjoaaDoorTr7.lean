import Derived.Test.YtjgohmfmalcjoaaDoorTr6
/- Plain: the program's way of base64 is the reference's. -/
namespace Go.Proofs.YtjgohmfmalcjoaaDoor.Tr
open Go.RowKit Go.Proofs.YtjgohmfmalcjoaaDoor.Base
set_option linter.unusedVariables false
set_option linter.unusedSimpArgs false
/-- the k-th part of n bytes. -/
def chunkL (l : List UInt8) (n k : Nat) : List UInt8 := (l.drop (n * k)).take n
def nParts (L n : Nat) : Nat := (L + n - 1) / n
/-- the number of three bytes. -/
def num3 (p : List UInt8) : Nat := (p.getD 0 0).toNat * 65536 + (p.getD 1 0).toNat * 256 + (p.getD 2 0).toNat
/-- the four characters of one to three bytes. -/
def groupL (p : List UInt8) : List UInt8 :=
  [let6 (num3 p / 262144), let6 (num3 p / 4096 % 64), if p.length < 2 then 61 else let6 (num3 p / 64 % 64), if p.length < 3 then 61 else let6 (num3 p % 64)]
def plainL (l : List UInt8) : List UInt8 := (List.range (nParts l.length 3)).flatMap fun k => groupL (chunkL l 3 k)
def lineP (s : List UInt8) : List UInt8 := (List.range (nParts s.length 76)).flatMap fun k => chunkL s 76 k ++ [13, 10]
theorem groupL_len (p : List UInt8) : (groupL p).length = 4 := rfl
theorem sum6 (a b c d e f : Int) : sumL [a, b, c, d, e, f] = 32 * a + 16 * b + 8 * c + 4 * d + 2 * e + f := by
  simp only [sumL, List.foldl_cons, List.foldl_nil]
  omega
theorem c6To_app (b24 b : List Int) (m j : Nat) (h : b24.length = 6 * m) : c6To (b24 ++ b) (m + j) = c6To b24 m ++ c6To b j := by
  unfold c6To
  rw [List.range_add, List.map_append, List.map_map]
  congr 1
  · apply List.map_congr_left
    intro t ht
    have ht' := List.mem_range.1 ht
    rw [List.drop_append_of_le_length (by omega), List.take_append_of_le_length (by rw [List.length_drop]; omega)]
  · apply List.map_congr_left
    intro t _
    have e : 6 * (m + t) = b24.length + 6 * t := by omega
    simp only [Function.comp]
    rw [e, List.drop_append, Nat.add_sub_cancel_left, List.drop_eq_nil_of_le (by omega), List.nil_append]
theorem padL_app (b24 b : List Int) (h : b24.length % 6 = 0) : padL (b24 ++ b) = b24 ++ padL b := by
  unfold padL
  rw [List.length_append, List.append_assoc]
  congr 3
  omega
theorem l4 {a b c d a' b' c' d' : UInt8} (h1 : a = a') (h2 : b = b') (h3 : c = c') (h4 : d = d') : [a, b, c, d] = [a', b', c', d'] := by subst h1 h2 h3 h4; rfl
theorem let6c {a : Int} {b : Nat} (h : a = (b : Int)) : let6 a.toNat = let6 b := by rw [h]; rfl
theorem grp3 (x y z : UInt8) : groupL [x, y, z] = [let6 (num3 [x, y, z] / 262144), let6 (num3 [x, y, z] / 4096 % 64), let6 (num3 [x, y, z] / 64 % 64), let6 (num3 [x, y, z] % 64)] := rfl
theorem grp2 (x y : UInt8) : groupL [x, y] = [let6 (num3 [x, y] / 262144), let6 (num3 [x, y] / 4096 % 64), let6 (num3 [x, y] / 64 % 64), 61] := rfl
theorem grp1 (x : UInt8) : groupL [x] = [let6 (num3 [x] / 262144), let6 (num3 [x] / 4096 % 64), 61, 61] := rfl
theorem num_3 (x y z : UInt8) : num3 [x, y, z] = x.toNat * 65536 + y.toNat * 256 + z.toNat := rfl
theorem num_2 (x y : UInt8) : num3 [x, y] = x.toNat * 65536 + y.toNat * 256 := by simp [num3]
theorem num_1 (x : UInt8) : num3 [x] = x.toNat * 65536 := by simp [num3]
theorem c6_4 (b : List Int) : c6To b 4 = [let6 (sumL ((b.drop 0).take 6)).toNat, let6 (sumL ((b.drop 6).take 6)).toNat, let6 (sumL ((b.drop 12).take 6)).toNat, let6 (sumL ((b.drop 18).take 6)).toNat] := rfl
theorem c6_3 (b : List Int) : c6To b 3 ++ [61] = [let6 (sumL ((b.drop 0).take 6)).toNat, let6 (sumL ((b.drop 6).take 6)).toNat, let6 (sumL ((b.drop 12).take 6)).toNat, 61] := rfl
theorem c6_2 (b : List Int) : c6To b 2 ++ [61, 61] = [let6 (sumL ((b.drop 0).take 6)).toNat, let6 (sumL ((b.drop 6).take 6)).toNat, 61, 61] := rfl
theorem c24 (x y z : UInt8) : c6To (bits8 x ++ bits8 y ++ bits8 z) 4 = groupL [x, y, z] := by
  have hx := x.toNat_lt
  have hy := y.toNat_lt
  have hz := z.toNat_lt
  have n3 := num_3 x y z
  have e0 : ((bits8 x ++ bits8 y ++ bits8 z).drop 0).take 6 = [bitAt x 7, bitAt x 6, bitAt x 5, bitAt x 4, bitAt x 3, bitAt x 2] := rfl
  have e1 : ((bits8 x ++ bits8 y ++ bits8 z).drop 6).take 6 = [bitAt x 1, bitAt x 0, bitAt y 7, bitAt y 6, bitAt y 5, bitAt y 4] := rfl
  have e2 : ((bits8 x ++ bits8 y ++ bits8 z).drop 12).take 6 = [bitAt y 3, bitAt y 2, bitAt y 1, bitAt y 0, bitAt z 7, bitAt z 6] := rfl
  have e3 : ((bits8 x ++ bits8 y ++ bits8 z).drop 18).take 6 = [bitAt z 5, bitAt z 4, bitAt z 3, bitAt z 2, bitAt z 1, bitAt z 0] := rfl
  rw [c6_4, e0, e1, e2, e3, sum6, sum6, sum6, sum6, grp3]
  generalize num3 [x, y, z] = n at *
  unfold bitAt
  generalize x.toNat = x at *
  generalize y.toNat = y at *
  generalize z.toNat = z at *
  exact l4 (let6c (by omega)) (let6c (by omega)) (let6c (by omega)) (let6c (by omega))
theorem c16 (x y : UInt8) : c6To (bits8 x ++ bits8 y ++ [0, 0]) 3 ++ [61] = groupL [x, y] := by
  have hx := x.toNat_lt
  have hy := y.toNat_lt
  have n3 := num_2 x y
  have e0 : ((bits8 x ++ bits8 y ++ [0, 0]).drop 0).take 6 = [bitAt x 7, bitAt x 6, bitAt x 5, bitAt x 4, bitAt x 3, bitAt x 2] := rfl
  have e1 : ((bits8 x ++ bits8 y ++ [0, 0]).drop 6).take 6 = [bitAt x 1, bitAt x 0, bitAt y 7, bitAt y 6, bitAt y 5, bitAt y 4] := rfl
  have e2 : ((bits8 x ++ bits8 y ++ [0, 0]).drop 12).take 6 = [bitAt y 3, bitAt y 2, bitAt y 1, bitAt y 0, 0, 0] := rfl
  rw [c6_3, e0, e1, e2, sum6, sum6, sum6, grp2]
  generalize num3 [x, y] = n at *
  unfold bitAt
  generalize x.toNat = x at *
  generalize y.toNat = y at *
  exact l4 (let6c (by omega)) (let6c (by omega)) (let6c (by omega)) rfl
theorem c8 (x : UInt8) : c6To (bits8 x ++ [0, 0, 0, 0]) 2 ++ [61, 61] = groupL [x] := by
  have hx := x.toNat_lt
  have n3 := num_1 x
  have e0 : ((bits8 x ++ [0, 0, 0, 0]).drop 0).take 6 = [bitAt x 7, bitAt x 6, bitAt x 5, bitAt x 4, bitAt x 3, bitAt x 2] := rfl
  have e1 : ((bits8 x ++ [0, 0, 0, 0]).drop 6).take 6 = [bitAt x 1, bitAt x 0, 0, 0, 0, 0] := rfl
  rw [c6_2, e0, e1, sum6, sum6, grp1]
  generalize num3 [x] = n at *
  unfold bitAt
  generalize x.toNat = x at *
  exact l4 (let6c (by omega)) (let6c (by omega)) rfl rfl
theorem chunk_succ (a : List UInt8) (l : List UInt8) (n k : Nat) (h : a.length = n) : chunkL (a ++ l) n (k + 1) = chunkL l n k := by
  unfold chunkL
  have e : n * (k + 1) = a.length + n * k := by rw [h, Nat.mul_succ]; omega
  rw [e, List.drop_append, Nat.add_sub_cancel_left, List.drop_eq_nil_of_le (by omega), List.nil_append]
theorem chunk_zero (a : List UInt8) (l : List UInt8) (n : Nat) (h : a.length = n) : chunkL (a ++ l) n 0 = a := by
  unfold chunkL
  subst h
  simp
theorem nParts_succ (n L : Nat) (h : 0 < n) : nParts (n + L) n = nParts L n + 1 := by
  unfold nParts
  rw [show n + L + n - 1 = (L + n - 1) + n by omega, Nat.add_div_right _ h]
theorem parts_cons {f : List UInt8 → List UInt8} (a l : List UInt8) (n : Nat) (h : a.length = n) (h0 : 0 < n) :
    ((List.range (nParts (a ++ l).length n)).flatMap fun k => f (chunkL (a ++ l) n k)) = f a ++ (List.range (nParts l.length n)).flatMap fun k => f (chunkL l n k) := by
  rw [List.length_append, h, nParts_succ n _ h0, List.range_succ_eq_map, List.flatMap_cons, chunk_zero a l n h, List.flatMap_map]
  congr 1
  apply congrArg (fun g => List.flatMap g (List.range (nParts l.length n)))
  funext k
  rw [chunk_succ a l n k h]
theorem chars64_cons (x y z : UInt8) (l : List UInt8) : chars64 (x :: y :: z :: l) = groupL [x, y, z] ++ chars64 l := by
  have e : bitsL (x :: y :: z :: l) = (bits8 x ++ bits8 y ++ bits8 z) ++ bitsL l := by
    unfold bitsL
    simp only [List.flatMap_cons, List.append_assoc]
  have h24 : (bits8 x ++ bits8 y ++ bits8 z).length = 6 * 4 := rfl
  unfold chars64
  rw [e, padL_app _ _ (by rw [h24]), List.length_append, h24, show (6 * 4 + (padL (bitsL l)).length) / 6 = 4 + (padL (bitsL l)).length / 6 by omega, c6To_app _ _ 4 _ h24, c24, List.append_assoc]
  congr 3
  omega
theorem plain1 (p : List UInt8) (h : p.length = 1 ∨ p.length = 2) : plainL p = groupL p := by
  have h1 : nParts p.length 3 = 1 := by unfold nParts; omega
  have h2 : chunkL p 3 0 = p := by unfold chunkL; rw [Nat.mul_zero, List.drop_zero]; exact List.take_of_length_le (by omega)
  unfold plainL
  rw [h1]
  show groupL (chunkL p 3 0) ++ [] = _
  rw [h2, List.append_nil]
theorem ch1 (x : UInt8) : chars64 [x] = c6To (bits8 x ++ [0, 0, 0, 0]) 2 ++ [61, 61] := by
  have e : bitsL [x] = bits8 x := by simp [bitsL]
  have e2 : padL (bits8 x) = bits8 x ++ [0, 0, 0, 0] := by unfold padL; rw [show (bits8 x).length = 8 from rfl]; rfl
  have e3 : (bits8 x ++ [0, 0, 0, 0]).length = 12 := rfl
  unfold chars64
  rw [e, e2, e3]
  rfl
theorem ch2 (x y : UInt8) : chars64 [x, y] = c6To (bits8 x ++ bits8 y ++ [0, 0]) 3 ++ [61] := by
  have e : bitsL [x, y] = bits8 x ++ bits8 y := by simp [bitsL]
  have e2 : padL (bits8 x ++ bits8 y) = bits8 x ++ bits8 y ++ [0, 0] := by unfold padL; rw [show (bits8 x ++ bits8 y).length = 16 from rfl]; rfl
  have e3 : (bits8 x ++ bits8 y ++ [0, 0]).length = 18 := rfl
  unfold chars64
  rw [e, e2, e3]
  rfl
theorem plain_eq : ∀ (n : Nat) (l : List UInt8), l.length ≤ n → plainL l = chars64 l
  | _, [], _ => rfl
  | _, [x], _ => (plain1 [x] (.inl rfl)).trans ((c8 x).symm.trans (ch1 x).symm)
  | _, [x, y], _ => (plain1 [x, y] (.inr rfl)).trans ((c16 x y).symm.trans (ch2 x y).symm)
  | 0, x :: y :: z :: l, h => by simp at h
  | n + 1, x :: y :: z :: l, h => by
    have ih := plain_eq n l (by simp at h; omega)
    rw [chars64_cons, ← ih]
    exact parts_cons (f := groupL) [x, y, z] l 3 rfl (by decide)
theorem linesF_lineP : ∀ (n : Nat) (s out : List UInt8), s.length ≤ 76 * n → linesF (n + 1) s out = out ++ lineP s
  | n, s, out, h => by
    unfold linesF
    split
    · rename_i hlt
      obtain ⟨m, rfl⟩ : ∃ m, n = m + 1 := ⟨n - 1, by omega⟩
      rw [linesF_lineP m _ _ (by rw [List.length_drop]; omega)]
      have ht : (s.take 76).length = 76 := by rw [List.length_take]; omega
      have := parts_cons (f := fun c => c ++ [13, 10]) (s.take 76) (s.drop 76) 76 ht (by decide)
      rw [List.take_append_drop] at this
      show _ = out ++ lineP s
      unfold lineP
      rw [this]
      simp only [List.append_assoc]
    · split
      · rename_i h0
        obtain rfl : s = [] := List.eq_nil_of_length_eq_zero h0
        simp [lineP, nParts]
      · have h1 : nParts s.length 76 = 1 := by unfold nParts; omega
        unfold lineP
        rw [h1]
        have : chunkL s 76 0 = s := by unfold chunkL; rw [Nat.mul_zero, List.drop_zero]; exact List.take_of_length_le (by omega)
        simp [List.range_succ, this]
theorem lines_plain (l : List UInt8) : lineP (plainL l) = lines64 l := by
  rw [plain_eq l.length l (Nat.le_refl _)]
  unfold lines64
  rw [linesF_lineP _ _ _ (by omega)]
  simp
/-! decoding -/
def alphaL : List UInt8 := [65, 66, 67, 68, 69, 70, 71, 72, 73, 74, 75, 76, 77, 78, 79, 80, 81, 82, 83, 84, 85, 86, 87, 88, 89, 90, 97, 98, 99, 100, 101, 102, 103, 104, 105, 106, 107, 108, 109, 110, 111, 112, 113, 114, 115, 116, 117, 118, 119, 120, 121, 122, 48, 49, 50, 51, 52, 53, 54, 55, 56, 57, 43, 47]
def val6 (c : UInt8) : Int := Lib.indexByte alphaL c
def bits6 (v : Int) : List Int := [v / 32 % 2, v / 16 % 2, v / 8 % 2, v / 4 % 2, v / 2 % 2, v % 2]
/-- the bits of the characters up to the first equals sign. -/
def bitsV : List UInt8 → List Int
  | [] => []
  | c :: r => if c.toNat = 61 then [] else if val6 c < 0 then bitsV r else bits6 (val6 c) ++ bitsV r
def bytes8 (b : List Int) (j : Nat) : List UInt8 := (List.range j).map fun t => UInt8.ofNat (sumL ((b.drop (8 * t)).take 8)).toNat
def loose64 (l : List UInt8) : List UInt8 := bytes8 (bitsV l) ((bitsV l).length / 8)
/-- the program's way. -/
def looP : List UInt8 → List UInt8 → Int → Int → List UInt8
  | [], out, _, _ => out
  | c :: r, out, b, n => if c.toNat = 61 then out else if val6 c < 0 then looP r out b n
      else if 8 ≤ n + 6 then looP r (out ++ [UInt8.ofNat ((b * 64 + val6 c) % 4096 / 2 ^ (n - 2).toNat % 256).toNat]) ((b * 64 + val6 c) % 4096) (n - 2)
      else looP r out ((b * 64 + val6 c) % 4096) (n + 6)
theorem bytes8_succ (b : List Int) (j : Nat) : bytes8 b (j + 1) = bytes8 b j ++ [UInt8.ofNat (sumL ((b.drop (8 * j)).take 8)).toNat] := by simp [bytes8, List.range_succ]
theorem bytes8_len (b : List Int) (j : Nat) : (bytes8 b j).length = j := by simp [bytes8]
theorem bytes8_cons (b8 b : List Int) (h : b8.length = 8) : bytes8 (b8 ++ b) ((b8 ++ b).length / 8) = UInt8.ofNat (sumL b8).toNat :: bytes8 b (b.length / 8) := by
  have e : (b8 ++ b).length / 8 = b.length / 8 + 1 := by rw [List.length_append, h]; omega
  rw [e]
  unfold bytes8
  rw [List.range_succ_eq_map, List.map_cons, List.map_map]
  congr 1
  · rw [Nat.mul_zero, List.drop_zero, List.take_append_of_le_length (by omega), List.take_of_length_le (by omega)]
  · apply List.map_congr_left
    intro t _
    have e : 8 * (t + 1) = b8.length + 8 * t := by omega
    simp only [Function.comp, Nat.succ_eq_add_one]
    rw [e, List.drop_append, Nat.add_sub_cancel_left, List.drop_eq_nil_of_le (by omega), List.nil_append]
theorem val6_bd (c : UInt8) : -1 ≤ val6 c ∧ val6 c ≤ 63 := by
  have h : ∀ l : List UInt8, -1 ≤ Lib.indexByte l c ∧ Lib.indexByte l c < l.length := fun l => by
    induction l with
    | nil => simp [Lib.indexByte]
    | cons b l ih =>
      unfold Lib.indexByte
      rw [List.length_cons]
      split
      · omega
      · split
        · omega
        · omega
  have := h alphaL
  unfold val6
  have e : alphaL.length = 64 := rfl
  omega
theorem bits6_bit (v : Int) : Bit (bits6 v) := fun y hy => by
  unfold bits6 at hy
  simp only [List.mem_cons, List.mem_nil_iff, or_false] at hy
  rcases hy with h | h | h | h | h | h <;> (rw [h]; omega)
theorem bitsV_bit : ∀ l : List UInt8, Bit (bitsV l)
  | [] => fun _ h => by cases h
  | c :: r => by
    unfold bitsV
    split
    · exact fun _ h => by cases h
    · split
      · exact bitsV_bit r
      · exact fun y hy => (List.mem_append.1 hy).elim (bits6_bit _ y) (bitsV_bit r y)
theorem sum8 (a b c d e f g h : Int) : sumL [a, b, c, d, e, f, g, h] = 128 * a + 64 * b + 32 * c + 16 * d + 8 * e + 4 * f + 2 * g + h := by
  simp only [sumL, List.foldl_cons, List.foldl_nil]
  omega
/-- the bits that wait: n of them. -/
def Pend (p : List Int) (b n : Int) : Prop := (p = [] ∧ n = 0) ∨ (∃ x y, p = [x, y] ∧ n = 2 ∧ b % 4 = 2 * x + y ∧ (x = 0 ∨ x = 1) ∧ (y = 0 ∨ y = 1)) ∨
  (∃ x y z t, p = [x, y, z, t] ∧ n = 4 ∧ b % 16 = 8 * x + 4 * y + 2 * z + t ∧ (x = 0 ∨ x = 1) ∧ (y = 0 ∨ y = 1) ∧ (z = 0 ∨ z = 1) ∧ (t = 0 ∨ t = 1)) ∨
  (∃ x y z t u v, p = [x, y, z, t, u, v] ∧ n = 6 ∧ b % 64 = 32 * x + 16 * y + 8 * z + 4 * t + 2 * u + v ∧ (x = 0 ∨ x = 1) ∧ (y = 0 ∨ y = 1) ∧ (z = 0 ∨ z = 1) ∧ (t = 0 ∨ t = 1) ∧ (u = 0 ∨ u = 1) ∧ (v = 0 ∨ v = 1))
theorem cons_eq {a b : UInt8} {l m : List UInt8} (h : a = b) (k : l = m) : [a] ++ l = b :: m := by rw [h, k]; rfl
theorem looP_eq : ∀ (l out : List UInt8) (p : List Int) (b n : Int), Pend p b n → 0 ≤ b → looP l out b n = out ++ bytes8 (p ++ bitsV l) ((p ++ bitsV l).length / 8)
  | [], out, p, b, n, h, hb => by
    have : p.length / 8 = 0 := by rcases h with ⟨rfl, _⟩ | ⟨x, y, rfl, _⟩ | ⟨x, y, z, t, rfl, _⟩ | ⟨x, y, z, t, u, v, rfl, _⟩ <;> simp
    simp [looP, bitsV, this, bytes8]
  | c :: r, out, p, b, n, h, hb => by
    have hv := val6_bd c
    unfold looP bitsV
    split
    · have : p.length / 8 = 0 := by rcases h with ⟨rfl, _⟩ | ⟨x, y, rfl, _⟩ | ⟨x, y, z, t, rfl, _⟩ | ⟨x, y, z, t, u, v, rfl, _⟩ <;> simp
      simp [this, bytes8]
    · split
      · exact looP_eq r out p b n h hb
      · rename_i h0
        generalize val6 c = v at *
        have v0 : 0 ≤ v := by omega
        have v1 : v ≤ 63 := by omega
        rcases h with ⟨rfl, rfl⟩ | ⟨x, y, rfl, rfl, he, hx, hy⟩ | ⟨x, y, z, t, rfl, rfl, he, hx, hy, hz, ht⟩ | ⟨x, y, z, t, u, q, rfl, rfl, he, hx, hy, hz, ht, hu, hq⟩
        · rw [if_neg (by omega), looP_eq r out (bits6 v) _ (0 + 6) (.inr (.inr (.inr ⟨_, _, _, _, _, _, rfl, rfl, by omega, by omega, by omega, by omega, by omega, by omega, by omega⟩))) (by omega)]
          rfl
        · rw [if_pos (by omega), looP_eq r _ [] _ (2 - 2) (.inl ⟨rfl, rfl⟩) (by omega)]
          have e : ([x, y] ++ (bits6 v ++ bitsV r)) = [x, y, v / 32 % 2, v / 16 % 2, v / 8 % 2, v / 4 % 2, v / 2 % 2, v % 2] ++ bitsV r := rfl
          rw [e, bytes8_cons [x, y, v / 32 % 2, v / 16 % 2, v / 8 % 2, v / 4 % 2, v / 2 % 2, v % 2] _ rfl, sum8, List.append_assoc]
          refine congrArg (out ++ ·) ?_
          refine cons_eq (congrArg (fun z : Int => UInt8.ofNat z.toNat) ?_) rfl
          show ((b * 64 + v) % 4096 / 2 ^ 0 % 256) = _
          omega
        · rw [if_pos (by omega), looP_eq r _ [v / 2 % 2, v % 2] _ (4 - 2) (.inr (.inl ⟨_, _, rfl, rfl, by omega, by omega, by omega⟩)) (by omega)]
          have e : ([x, y, z, t] ++ (bits6 v ++ bitsV r)) = [x, y, z, t, v / 32 % 2, v / 16 % 2, v / 8 % 2, v / 4 % 2] ++ ([v / 2 % 2, v % 2] ++ bitsV r) := rfl
          rw [e, bytes8_cons [x, y, z, t, v / 32 % 2, v / 16 % 2, v / 8 % 2, v / 4 % 2] _ rfl, sum8, List.append_assoc]
          refine congrArg (out ++ ·) ?_
          refine cons_eq (congrArg (fun z : Int => UInt8.ofNat z.toNat) ?_) rfl
          show ((b * 64 + v) % 4096 / 2 ^ 2 % 256) = _
          omega
        · rw [if_pos (by omega), looP_eq r _ [v / 8 % 2, v / 4 % 2, v / 2 % 2, v % 2] _ (6 - 2) (.inr (.inr (.inl ⟨_, _, _, _, rfl, rfl, by omega, by omega, by omega, by omega, by omega⟩))) (by omega)]
          have e : ([x, y, z, t, u, q] ++ (bits6 v ++ bitsV r)) = [x, y, z, t, u, q, v / 32 % 2, v / 16 % 2] ++ ([v / 8 % 2, v / 4 % 2, v / 2 % 2, v % 2] ++ bitsV r) := rfl
          rw [e, bytes8_cons [x, y, z, t, u, q, v / 32 % 2, v / 16 % 2] _ rfl, sum8, List.append_assoc]
          refine congrArg (out ++ ·) ?_
          refine cons_eq (congrArg (fun z : Int => UInt8.ofNat z.toNat) ?_) rfl
          show ((b * 64 + v) % 4096 / 2 ^ 4 % 256) = _
          omega
theorem looP_loose (l : List UInt8) : looP l [] 0 0 = loose64 l := by
  rw [looP_eq l [] [] 0 0 (.inl ⟨rfl, rfl⟩) (by omega)]
  simp [loose64]
end Go.Proofs.YtjgohmfmalcjoaaDoor.Tr
