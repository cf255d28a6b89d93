import Derived.Test.YtjgohmfmalcjoaaDoorTrW23
import Derived.Test.YtjgohmfmalcjoaaDoorTr7
/- Walks: base64's value of a character, and the reference's. -/
namespace Go.Proofs.YtjgohmfmalcjoaaDoor.TrW
open Go.RowKit Go.Proofs.YtjgohmfmalcjoaaDoor.Base Go.Proofs.YtjgohmfmalcjoaaDoor.Tr
set_option linter.unusedVariables false
set_option linter.unusedSimpArgs false
/-- the row of the alphabet. -/
abbrev alphaRow : Array Value := #[.int .u8 65, .int .u8 66, .int .u8 67, .int .u8 68, .int .u8 69, .int .u8 70, .int .u8 71, .int .u8 72, .int .u8 73, .int .u8 74, .int .u8 75, .int .u8 76, .int .u8 77, .int .u8 78, .int .u8 79, .int .u8 80, .int .u8 81, .int .u8 82, .int .u8 83, .int .u8 84, .int .u8 85, .int .u8 86, .int .u8 87, .int .u8 88, .int .u8 89, .int .u8 90, .int .u8 97, .int .u8 98, .int .u8 99, .int .u8 100, .int .u8 101, .int .u8 102, .int .u8 103, .int .u8 104, .int .u8 105, .int .u8 106, .int .u8 107, .int .u8 108, .int .u8 109, .int .u8 110, .int .u8 111, .int .u8 112, .int .u8 113, .int .u8 114, .int .u8 115, .int .u8 116, .int .u8 117, .int .u8 118, .int .u8 119, .int .u8 120, .int .u8 121, .int .u8 122, .int .u8 48, .int .u8 49, .int .u8 50, .int .u8 51, .int .u8 52, .int .u8 53, .int .u8 54, .int .u8 55, .int .u8 56, .int .u8 57, .int .u8 43, .int .u8 47]
set_option maxRecDepth 20000 in
set_option maxHeartbeats 2000000 in
theorem value_calls (x : UInt8) (w : World) :
    Calls Tryd.prog 136 #[bv x] w fun e w' => e = .returned (.int .i64 (val6 x)) ∧ Below w.heap.size w w' := by
  have kc := fun (w : World) (C : Array Value) (n c : Nat) => Lib.run_convert_bytes_const (P := Tryd.prog) w 22 5 C n c Tryd.underlying22 Tryd.underlying5
  have hb : Calls Tryd.prog 138 #[.slice (some ⟨w.heap.size, 0, none⟩) 64 64, bv x] (w.alloc (.cells alphaRow 5 (64, 65))) fun e w' => e = .returned (.int .i64 (Lib.indexByte alphaL x)) ∧ (w.alloc (.cells alphaRow 5 (64, 65))) = w' :=
    ib_calls ⟨w.heap.size, 0, none⟩ alphaL 64 x _ (rd_marked (l := alphaL))
  have hv : val6 x = Lib.indexByte alphaL x := rfl
  rw [← hv] at hb
  generalize val6 x = v at *
  have HB := Lib.hid hb
  clear hb hv
  go_enter Tryd.func136, Tryd.ntmps136
  go_wp2_with (go_at_call 138; ((with_reducible refine HB.out.mono ?_); rintro e w' ⟨rfl, rfl⟩))
  go_ret
  exact ⟨rfl, below_al (Below.refl _ _) _⟩
/-- the reference's search, from k on. -/
theorem letS_size : letS.size = 64 := by decide +kernel
theorem let6_all (k : Nat) (h : k < 64) : letS[k]'(by rw [letS_size]; exact h) = let6 k := by
  have : ∀ k : Fin 64, letS[k.val]'(by rw [letS_size]; exact k.isLt) = let6 k.val := by decide +kernel
  exact this ⟨k, h⟩
theorem ib_from (x : UInt8) : ∀ (l : List UInt8), (∀ k, k < l.length → l.getD k 0 = x → (∀ j, j < k → l.getD j 0 ≠ x) → Lib.indexByte l x = (k : Int)) ∧ ((∀ j, j < l.length → l.getD j 0 ≠ x) → Lib.indexByte l x = -1)
  | [] => ⟨fun k h => by simp at h, fun _ => by simp [Lib.indexByte]⟩
  | b :: l => by
    have ih := ib_from x l
    refine ⟨fun k hk hx hj => ?_, fun hj => ?_⟩
    · cases k with
      | zero =>
        have : b = x := by simpa using hx
        unfold Lib.indexByte
        simp [this]
      | succ k =>
        have h0 : b ≠ x := by have := hj 0 (by omega); simpa using this
        have h1 := ih.1 k (by simpa using hk) (by simpa using hx) (fun j h => by have := hj (j + 1) (by omega); simpa using this)
        unfold Lib.indexByte
        rw [h1]
        rw [if_neg (by simpa using h0), if_neg (fun h => by have := eq_of_beq h; omega)]
        rfl
    · have h0 : b ≠ x := by have := hj 0 (by simp); simpa using this
      have h1 := ih.2 (fun j h => by have := hj (j + 1) (by simpa using h); simpa using this)
      unfold Lib.indexByte
      rw [h1]
      rw [if_neg (by simpa using h0), if_pos (by decide)]
theorem alpha_let : ∀ k : Fin 64, alphaL.getD k.val 0 = let6 k.val := by decide +kernel
set_option maxRecDepth 20000 in
set_option maxHeartbeats 2000000 in
theorem rvalue_calls (x : UInt8) (w : World) :
    Calls Tryd.prog 62 #[bv x] w fun e w' => e = .returned (.int .i64 (val6 x)) ∧ w = w' := by
  have hb := ib_from x alphaL
  have hv : val6 x = Lib.indexByte alphaL x := rfl
  rw [← hv] at hb
  generalize val6 x = v at *
  have HB := Lib.hid hb
  clear hb hv
  go_enter Tryd.func62, Tryd.ntmps62
  go_upto_region 2 with fail
  go_loop [3] (fun s3 => ∃ k : Nat, s3 = .int .i64 k ∧ k ≤ 64 ∧ Hid (∀ j, j < k → alphaL.getD j 0 ≠ x)) (fun s3 => 64 - (intOf s3).toNat)
  case atStart => exact ⟨0, rfl, by omega, Lib.hid (fun j h => by omega)⟩
  case round =>
    obtain ⟨k, rfl, hk, HN⟩ := hrel
    by_cases hlt : k < 64
    · have i1 : (0 : Int) ≤ (k : Int) := by omega
      have i2 : (k : Int) < 64 := by omega
      have ha := alpha_let ⟨k, hlt⟩
      have hx := let6_all k hlt
      dsimp only at ha
      unfold letS at hx
      generalize let6 k = y at *
      by_cases hy : y = x
      · have q : ((y.toNat : Int) == (x.toNat : Int)) = true := by rw [hy]; simp
        have hr := HB.out.1 k hlt (ha.trans hy) HN.out
        have HRT := Lib.hid hr
        clear hr ha hy
        go_wp2
        go_ret
        exact ⟨ret_int HRT.out.symm, rfl⟩
      · have q : ((y.toNat : Int) == (x.toNat : Int)) = false := by
          simp
          intro h
          exact hy (UInt8.toNat_inj.1 (by omega))
        have hn : ∀ j, j < k + 1 → alphaL.getD j 0 ≠ x := fun j hj => by
          rcases Nat.lt_or_ge j k with h | h
          · exact HN.out j h
          · have : j = k := by omega
            subst this
            rw [ha]
            exact hy
        have HN2 := Lib.hid hn
        clear hn ha hy HN
        go_wp2
        exact ⟨⟨k + 1, by go_num, by omega, HN2⟩, by simp [intOf]; omega⟩
    · have hr := HB.out.2 (fun j hj => HN.out j (by have : alphaL.length = 64 := rfl; omega))
      have HRT := Lib.hid hr
      clear hr
      go_wp2
      go_ret
      exact ⟨ret_int HRT.out.symm, rfl⟩
end Go.Proofs.YtjgohmfmalcjoaaDoor.TrW
