import Derived.Test.YtjgohmfmalcjoaaDoorMc
import Derived.Test.YtjgohmfmalcjoaaDoorMb
import Derived.Laws.IdiomStrings
import Derived.Laws.BytesArg
import Derived.Lib.Bytes
/- Walks: the reference's letters; names of encodings; comparison of bytes. -/
namespace Go.Proofs.YtjgohmfmalcjoaaDoor.TrW
open Go.RowKit Go.Proofs.YtjgohmfmalcjoaaDoor.Base Go.Proofs.YtjgohmfmalcjoaaDoor.Tr
set_option linter.unusedVariables false
set_option linter.unusedSimpArgs false
set_option maxHeartbeats 1000000 in
set_option maxRecDepth 20000 in
theorem rlower_calls (s : ByteArray) (w : World) (hs : s.size ≤ maxLen) :
    Calls Tryd.prog 61 #[.string s] w fun e w' => e = .returned (.string (lowS s)) ∧ Below w.heap.size w w' := by
  unfold maxLen at hs
  obtain ⟨cap, W, hcv, hb, hlt0, hce, hfz⟩ := bytes_of s w
  have HB := Lib.hid hb
  have HCE := Lib.hid hce
  have HFZ := Lib.hid hfz
  clear hb hce hfz
  go_enter Tryd.func61, Tryd.ntmps61
  go_upto_region 3 with fail
  clear hcv
  go_loopw [4] (fun s4 wr => ∃ k : Nat, k ≤ s.size ∧ s4 = .int .i64 k ∧ Hid ((∀ j (h : j < s.size), wr.cell? ⟨w.heap.size, j, none⟩ = some (if j < k then bv (lowC s[j]) else bv s[j])) ∧ (∀ j, j < s.size → wr.frozen? ⟨w.heap.size, j, none⟩ = false) ∧ Below w.heap.size w wr ∧ w.heap.size < wr.heap.size)) (fun s4 _ => s.size - (intOf s4).toNat)
  case atStart => exact ⟨0, by omega, rfl, Lib.hid ⟨fun j h => by rw [if_neg (by omega)]; exact HCE.out j h, HFZ.out, HB.out, hlt0⟩⟩
  case round =>
    obtain ⟨k, hk, rfl, HS⟩ := hrel
    by_cases hlt : k < s.size
    · have i1 : (0 : Int) ≤ (k : Int) := by omega
      have i2 : (k : Int) < (s.size : Int) := by omega
      have ck := HS.out.1 k hlt
      rw [if_neg (by omega)] at ck
      have fk := HS.out.2.1 k hlt
      have hu := u8_lt s[k]
      rcases Nat.lt_or_ge s[k].toNat 65 with h1 | h1
      · have hin : inR (s[k].toNat : Int) 65 90 = false := by simp [inR]; omega
        have hl := lowC_no (c := s[k]) (.inl h1)
        clear h1
        go_wp2_with (go_at_call 67; refine (rIn_is hin _).mono ?_; rintro e w' ⟨rfl, rfl⟩)
        exact ⟨⟨k + 1, by omega, by go_num, Lib.hid ⟨fun j h => by
          rw [HS.out.1 j h]
          rcases Nat.lt_trichotomy j k with h1 | h1 | h1
          · rw [if_pos h1, if_pos (by omega)]
          · subst h1; rw [if_neg (by omega), if_pos (by omega), hl]
          · rw [if_neg (by omega), if_neg (by omega)], HS.out.2.1, HS.out.2.2.1, HS.out.2.2.2⟩⟩, by simp [intOf]; omega⟩
      · rcases Nat.lt_or_ge 90 s[k].toNat with h2 | h2
        · have hin : inR (s[k].toNat : Int) 65 90 = false := by simp [inR]; omega
          have hl := lowC_no (c := s[k]) (.inr h2)
          clear h1 h2
          go_wp2_with (go_at_call 67; refine (rIn_is hin _).mono ?_; rintro e w' ⟨rfl, rfl⟩)
          exact ⟨⟨k + 1, by omega, by go_num, Lib.hid ⟨fun j h => by
            rw [HS.out.1 j h]
            rcases Nat.lt_trichotomy j k with h1 | h1 | h1
            · rw [if_pos h1, if_pos (by omega)]
            · subst h1; rw [if_neg (by omega), if_pos (by omega), hl]
            · rw [if_neg (by omega), if_neg (by omega)], HS.out.2.1, HS.out.2.2.1, HS.out.2.2.2⟩⟩, by simp [intOf]; omega⟩
        · have hin : inR (s[k].toNat : Int) 65 90 = true := by simp [inR]; omega
          have hl := lowC_up h1 h2
          have g1 : (s[k].toNat : Int) ≤ 90 := by omega
          clear h1 h2
          go_wp2_with (go_at_call 67; refine (rIn_is hin _).mono ?_; rintro e w' ⟨rfl, rfl⟩)
          exact ⟨⟨k + 1, by omega, by go_num, Lib.hid ⟨fun j h => by
            by_cases hj : j = k
            · subst hj
              rw [World.cell?_setCell_same (h := ck), if_pos (by omega)]
              unfold bv
              rw [hl]
            · rw [World.cell?_setCell_other (h := by intro e; injection e with _ e; exact hj e.symm), HS.out.1 j h]
              by_cases h1 : j < k
              · rw [if_pos h1, if_pos (by omega)]
              · rw [if_neg h1, if_neg (by omega)], fun j h => by rw [World.frozen?_setCell]; exact HS.out.2.1 j h, below_set HS.out.2.2.1 (by simp) _, by simpa [World.setCell] using HS.out.2.2.2⟩⟩, by simp [intOf]; omega⟩
    · have hkl : k = s.size := by omega
      have hR : Rd wr bv (some ⟨w.heap.size, 0, none⟩) (lowL s) := fun _ => ⟨_, rfl, HS.out.2.2.2, fun j x hx => by
        have hj : j < s.size := by
          have := (List.getElem?_eq_some_iff.1 hx).1
          rwa [lowL_len] at this
        rw [lowL_at s j hj] at hx
        injection hx with hx
        rw [add_zero, HS.out.1 j hj, if_pos (by omega), hx]⟩
      have hcv := string_of (c := cap) hR
      rw [lowL_len] at hcv
      go_wp2
      go_ret
      exact ⟨rfl, HS.out.2.2.1⟩
set_option maxRecDepth 20000 in
theorem ralike_calls (a b : ByteArray) (w : World) (ha : a.size ≤ maxLen) (hb : b.size ≤ maxLen) :
    Calls Tryd.prog 36 #[.string a, .string b] w fun e w' => e = .returned (.bool (alike a b)) ∧ Below w.heap.size w w' := by
  have hA := fun W => rlower_calls a W ha
  have hB := fun W => rlower_calls b W hb
  have he : ((lowS a).toList == (lowS b).toList) = alike a b := by
    rw [Lib.toList_data, Lib.toList_data]
    rfl
  generalize alike a b = v at *
  generalize lowS a = x at *
  generalize lowS b = y at *
  have HA := Lib.hid hA
  have HB := Lib.hid hB
  clear hA hB
  go_enter Tryd.func36, Tryd.ntmps36
  go_wp2_with (first | (go_at_call 61; ((with_reducible refine (HA.out _).mono ?_); rintro e w1 ⟨rfl, hb1⟩)) | (go_at_call 61; ((with_reducible refine (HB.out _).mono ?_); rintro e w2 ⟨rfl, hb2⟩)))
  go_ret
  exact ⟨by rw [← he]; rfl, below_go hb1 hb2⟩
end Go.Proofs.YtjgohmfmalcjoaaDoor.TrW
