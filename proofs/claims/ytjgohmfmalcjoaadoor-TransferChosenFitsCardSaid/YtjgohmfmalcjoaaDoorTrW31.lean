import Derived.Test.YtjgohmfmalcjoaaDoorTrW26
/- Walks: the reference's hexadecimal digits and its decoding of base64. -/
namespace Go.Proofs.YtjgohmfmalcjoaaDoor.Tr
def hexLow : ByteArray := ⟨#[48, 49, 50, 51, 52, 53, 54, 55, 56, 57, 97, 98, 99, 100, 101, 102]⟩
theorem hexLow_size : hexLow.size = 16 := by decide +kernel
theorem hexLow_is : lowS ⟨#[48, 49, 50, 51, 52, 53, 54, 55, 56, 57, 65, 66, 67, 68, 69, 70]⟩ = hexLow := by decide +kernel
def loD (k : Nat) : UInt8 := hexLow.data.getD k 0
theorem loD_at (k : Nat) (h : k < 16) : hexLow[k]'(by rw [hexLow_size]; exact h) = loD k := by
  have : ∀ k : Fin 16, hexLow[k.val]'(by rw [hexLow_size]; exact k.isLt) = loD k.val := by decide +kernel
  exact this ⟨k, h⟩
theorem hexD_at' (k : Nat) (h : k < 16) : hexS[k]'h = hexD k := by
  have : ∀ k : Fin 16, hexS[k.val]'k.isLt = hexD k.val := by decide +kernel
  exact this ⟨k, h⟩
theorem hex_yes : ∀ k : Fin 16, hexV (hexD k.val) = (k.val : Int) ∧ hexV (loD k.val) = (k.val : Int) := by decide +kernel
theorem hex_no : ∀ n : Fin 256, (∀ k : Fin 16, hexD k.val ≠ UInt8.ofNat n.val ∧ loD k.val ≠ UInt8.ofNat n.val) → hexV (UInt8.ofNat n.val) = -1 := by decide +kernel
theorem hexV_no {x : UInt8} (h : ∀ k, k < 16 → hexD k ≠ x ∧ loD k ≠ x) : hexV x = -1 := by
  have e : UInt8.ofNat x.toNat = x := by simp
  have := hex_no ⟨x.toNat, x.toNat_lt⟩ (fun k => by dsimp only; rw [e]; exact h k.val k.isLt)
  dsimp only at this
  rwa [e] at this
end Go.Proofs.YtjgohmfmalcjoaaDoor.Tr
namespace Go.Proofs.YtjgohmfmalcjoaaDoor.TrW
open Go.RowKit Go.Proofs.YtjgohmfmalcjoaaDoor.Base Go.Proofs.YtjgohmfmalcjoaaDoor.Tr
set_option linter.unusedVariables false
set_option linter.unusedSimpArgs false
set_option maxRecDepth 20000 in
set_option maxHeartbeats 2000000 in
theorem rhex_calls (x : UInt8) (w : World) :
    Calls Tryd.prog 65 #[bv x] w fun e w' => e = .returned (.int .i64 (hexV x)) ∧ Below w.heap.size w w' := by
  have hlow := fun W => rlower_calls ⟨#[48, 49, 50, 51, 52, 53, 54, 55, 56, 57, 65, 66, 67, 68, 69, 70]⟩ W (by show 16 ≤ maxLen; unfold maxLen; omega)
  rw [hexLow_is] at hlow
  have hls := hexLow_size
  have hla : ∀ k (h : k < hexLow.size), hexLow[k] = loD k := fun k h => loD_at k (by rw [hexLow_size] at h; exact h)
  have hda := hexD_at'
  have hyes : ∀ k, k < 16 → (hexD k = x ∨ loD k = x) → hexV x = (k : Int) := fun k hk h => by
    have := hex_yes ⟨k, hk⟩
    rcases h with h | h
    · rw [← h]; exact this.1
    · rw [← h]; exact this.2
  have hno : (∀ k, k < 16 → hexD k ≠ x ∧ loD k ≠ x) → hexV x = -1 := hexV_no
  unfold hexS at hda
  generalize hexV x = v at *
  generalize hexLow = lw at *
  have HL := Lib.hid hlow
  have HLA := Lib.hid hla
  have HDA := Lib.hid hda
  have HY := Lib.hid hyes
  have HN := Lib.hid hno
  have HLS := Lib.hid hls
  clear hlow hla hda hyes hno hls
  go_enter Tryd.func65, Tryd.ntmps65
  go_upto_region 2 with fail
  go_loopw [3] (fun s3 wr => ∃ k : Nat, s3 = .int .i64 k ∧ k ≤ 16 ∧ Hid (∀ j, j < k → hexD j ≠ x ∧ loD j ≠ x) ∧ Hid (Below w.heap.size w wr)) (fun s3 _ => 16 - (intOf s3).toNat)
  case atStart => exact ⟨0, rfl, by omega, Lib.hid (fun j h => by omega), Lib.hid (Below.refl _ _)⟩
  case round =>
    obtain ⟨k, rfl, hk, HA, HB⟩ := hrel
    by_cases hlt : k < 16
    · have i1 : (0 : Int) ≤ (k : Int) := by omega
      have i2 : (k : Int) < 16 := by omega
      have hx := HDA.out k hlt
      have hy := HY.out k hlt
      have hsz : k < lw.size := by rw [HLS.out]; exact hlt
      have hl := HLA.out k hsz
      have i3 : (k : Int) < (lw.size : Int) := by omega
      have hst : hexD k ≠ x → loD k ≠ x → ∀ j, j < k + 1 → hexD j ≠ x ∧ loD j ≠ x := fun a b j hj => by
        rcases Nat.lt_or_ge j k with h3 | h3
        · exact HA.out j h3
        · obtain rfl : j = k := by omega
          exact ⟨a, b⟩
      have HST := Lib.hid hst
      clear hst
      generalize hexD k = d at *
      generalize loD k = f at *
      by_cases h1 : d = x
      · have q : ((d.toNat : Int) == (x.toNat : Int)) = true := by rw [h1]; simp
        have HV := Lib.hid (hy (.inl h1))
        clear hy h1 hl
        go_wp2
        go_ret
        exact ⟨ret_int HV.out.symm, HB.out⟩
      · have q : ((d.toNat : Int) == (x.toNat : Int)) = false := by
          simp only [beq_eq_false_iff_ne, ne_eq]
          intro h
          exact h1 (UInt8.toNat_inj.1 (by omega))
        by_cases h2 : f = x
        · have q2 : ((f.toNat : Int) == (x.toNat : Int)) = true := by rw [h2]; simp
          have HV := Lib.hid (hy (.inr h2))
          clear hy h1 h2
          go_wp2_with (go_at_call 61; ((with_reducible refine (HL.out _).mono ?_); rintro e w1 ⟨rfl, hb1⟩))
          go_ret
          exact ⟨ret_int HV.out.symm, below_go HB.out hb1⟩
        · have q2 : ((f.toNat : Int) == (x.toNat : Int)) = false := by
            simp only [beq_eq_false_iff_ne, ne_eq]
            intro h
            exact h2 (UInt8.toNat_inj.1 (by omega))
          have HA2 := Lib.hid (HST.out h1 h2)
          clear hy h1 h2
          go_wp2_with (go_at_call 61; ((with_reducible refine (HL.out _).mono ?_); rintro e w1 ⟨rfl, hb1⟩))
          exact ⟨⟨k + 1, by go_num, by omega, HA2, Lib.hid (below_go HB.out hb1)⟩, by simp [intOf]; omega⟩
    · have HV := Lib.hid (HN.out (fun j h => HA.out j (by omega)))
      go_wp2
      go_ret
      exact ⟨ret_int HV.out.symm, HB.out⟩
end Go.Proofs.YtjgohmfmalcjoaaDoor.TrW
