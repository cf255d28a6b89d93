import Derived.Test.YtjgohmfmalcjoaaDoorMc
import Derived.Test.YtjgohmfmalcjoaaDoorTrW2
import Derived.Test.YtjgohmfmalcjoaaDoorMg
/- Walks: the first byte that cannot be transported as it is. -/
namespace Go.Proofs.YtjgohmfmalcjoaaDoor.TrW
open Go.RowKit Go.Proofs.YtjgohmfmalcjoaaDoor.Base Go.Proofs.YtjgohmfmalcjoaaDoor.Tr
set_option linter.unusedVariables false
set_option linter.unusedSimpArgs false
set_option maxHeartbeats 1000000 in
set_option maxRecDepth 20000 in
theorem refused_calls (A : Option Addr) (l : List UInt8) (c : Nat) (e : Bool) (w : World) (h : Rd w bv A l) (hl : l.length ≤ maxLen) :
    Calls Tryd.prog 41 #[.slice A l.length c, .bool e] w fun en w' => en = .returned (.int .i64 (refL e l)) ∧ w = w' := by
  unfold maxLen at hl
  generalize hv : refL e l = v
  have HV := Lib.hid hv
  have HR := Lib.hid h
  clear hv h
  go_enter Tryd.func41, Tryd.ntmps41
  go_upto_region 3 with fail
  go_loop [5, 6] (fun s5 s6 => ∃ n i col : Nat, s5 = .int .i64 col ∧ s6 = .int .i64 i ∧ i ≤ l.length ∧ col ≤ 998 ∧ l.length ≤ i + n ∧ Hid (refF e l n i col = v)) (fun _ s6 => l.length - (intOf s6).toNat)
  case atStart => exact ⟨l.length, 0, 0, rfl, rfl, by omega, by omega, by omega, HV⟩
  case round =>
    obtain ⟨n, i, col, rfl, rfl, hi, hcol, hn, HF⟩ := hrel
    by_cases hlt : i < l.length
    · have i1 : (0 : Int) ≤ (i : Int) := by omega
      have i2 : (i : Int) < (l.length : Int) := by omega
      obtain ⟨n, rfl⟩ : ∃ m, n = m + 1 := ⟨n - 1, by omega⟩
      obtain ⟨ad, rfl, _, ck⟩ := HR.out.at_ hlt
      have hf := HF.out
      rw [refF_at hlt, badC_eq] at hf
      have hu := u8_lt l[i]
      by_cases c13 : l[i].toNat = 13
      · have q13 : ((l[i].toNat : Int) == 13) = true := by simp; omega
        by_cases hlt2 : i + 1 < l.length
        · have i3 : (i : Int) + 1 < (l.length : Int) := by omega
          obtain ⟨ad2, e2, _, ck2⟩ := HR.out.at_ hlt2
          injection e2 with e2
          subst e2
          have ck3 := ck2
          rw [add_succ] at ck3
          have hcr := crlf_int hlt2
          by_cases c10 : l[i + 1].toNat = 10
          · have q10 : ((l[i + 1].toNat : Int) == 10) = true := by simp; omega
            rw [q13, q10] at hcr
            rw [if_pos (by rw [hcr]; rfl)] at hf
            have HF2 := Lib.hid hf
            clear hf HF hcr c13 c10
            generalize l[i] = x at *
            generalize l[i + 1] = y at *
            go_wp2
            go_round
            case rel => exact ⟨n, i + 2, 0, rfl, by go_num, by omega, by omega, by omega, HF2⟩
            case measure => simp [intOf]; omega
          · have q10 : ((l[i + 1].toNat : Int) == 10) = false := by simp; omega
            rw [q13, q10] at hcr
            rw [if_neg (by rw [hcr]; simp), if_pos (.inl (by simp; exact .inl c13))] at hf
            have HF2 := Lib.hid hf
            clear HF hf hcr c13 c10
            generalize l[i] = x at *
            generalize l[i + 1] = y at *
            go_wp2
            go_ret
            exact ⟨ret_int HF2.out, rfl⟩
        · have i3 : (l.length : Int) ≤ (i : Int) + 1 := by omega
          rw [if_neg (by rw [crlf_end (by omega)]; simp), if_pos (.inl (by simp; exact .inl c13))] at hf
          have HF2 := Lib.hid hf
          clear HF hf c13
          generalize l[i] = x at *
          go_wp2
          go_ret
          exact ⟨ret_int HF2.out, rfl⟩
      · have q13 : ((l[i].toNat : Int) == 13) = false := by simp; omega
        have hcr : crlfAt l i = false := by
          unfold crlfAt
          rw [List.getElem?_eq_getElem hlt]
          have : (l[i] == (13 : UInt8)) = false := by
            have := u8_is l[i] 13 (by omega)
            simp only [show UInt8.ofNat 13 = 13 from rfl] at this
            rw [this]; simpa using c13
          simp only [Option.some_beq_some, this, Bool.false_and]
        rw [if_neg (by rw [hcr]; simp)] at hf
        by_cases c10 : l[i].toNat = 10
        · have q10 : ((l[i].toNat : Int) == 10) = true := by simp; omega
          rw [if_pos (.inl (by simp; exact .inr (.inl c10)))] at hf
          have HF2 := Lib.hid hf
          clear HF hf c13 c10 hcr
          generalize l[i] = x at *
          go_wp2
          go_ret
          exact ⟨ret_int HF2.out, rfl⟩
        · have q10 : ((l[i].toNat : Int) == 10) = false := by simp; omega
          by_cases c0 : l[i].toNat = 0
          · have q0 : ((l[i].toNat : Int) == 0) = true := by simp; omega
            rw [if_pos (.inl (by simp; exact .inr (.inr (.inl c0))))] at hf
            have HF2 := Lib.hid hf
            clear HF hf c13 c10 hcr c0
            generalize l[i] = x at *
            go_wp2
            go_ret
            exact ⟨ret_int HF2.out, rfl⟩
          · have q0 : ((l[i].toNat : Int) == 0) = false := by simp; omega
            by_cases c8 : 128 ≤ l[i].toNat
            · have q8 : decide ((128 : Int) ≤ (l[i].toNat : Int)) = true := by simp; omega
              cases e with
              | false =>
                rw [if_pos (.inl (by simp; exact .inr (.inr (.inr c8))))] at hf
                have HF2 := Lib.hid hf
                clear HF hf c13 c10 hcr c0 c8
                generalize l[i] = x at *
                go_wp2
                go_ret
                exact ⟨ret_int HF2.out, rfl⟩
              | true =>
                by_cases h9 : col = 998
                · have q9 : ((col : Int) == 998) = true := by simp; omega
                  rw [if_pos (.inr (by omega))] at hf
                  have HF2 := Lib.hid hf
                  clear HF hf c13 c10 hcr c0 c8
                  generalize l[i] = x at *
                  go_wp2
                  go_ret
                  exact ⟨ret_int HF2.out, rfl⟩
                · have q9 : ((col : Int) == 998) = false := by simp; omega
                  rw [if_neg (by simp; omega)] at hf
                  have HF2 := Lib.hid hf
                  clear HF hf c13 c10 hcr c0 c8
                  generalize l[i] = x at *
                  go_wp2
                  go_round
                  case rel => exact ⟨n, i + 1, col + 1, by go_num, by go_num, by omega, by omega, by omega, HF2⟩
                  case measure => simp [intOf]; omega
            · have q8 : decide ((128 : Int) ≤ (l[i].toNat : Int)) = false := by simp; omega
              by_cases h9 : col = 998
              · have q9 : ((col : Int) == 998) = true := by simp; omega
                rw [if_pos (.inr (by omega))] at hf
                have HF2 := Lib.hid hf
                clear HF hf c13 c10 hcr c0 c8
                generalize l[i] = x at *
                go_wp2
                go_ret
                exact ⟨ret_int HF2.out, rfl⟩
              · have q9 : ((col : Int) == 998) = false := by simp; omega
                rw [if_neg (by simp; omega)] at hf
                have HF2 := Lib.hid hf
                clear HF hf c13 c10 hcr c0 c8
                generalize l[i] = x at *
                go_wp2
                go_round
                case rel => exact ⟨n, i + 1, col + 1, by go_num, by go_num, by omega, by omega, by omega, HF2⟩
                case measure => simp [intOf]; omega
    · have hf := HF.out
      rw [refF_end (by omega)] at hf
      have HF2 := Lib.hid hf
      clear HF hf
      go_wp2
      go_ret
      exact ⟨ret_int HF2.out, rfl⟩
end Go.Proofs.YtjgohmfmalcjoaaDoor.TrW
/- Walks: the reference's first byte that cannot be transported as it is. -/
namespace Go.Proofs.YtjgohmfmalcjoaaDoor.TrW
open Go.RowKit Go.Proofs.YtjgohmfmalcjoaaDoor.Base Go.Proofs.YtjgohmfmalcjoaaDoor.Tr
set_option linter.unusedVariables false
set_option linter.unusedSimpArgs false
set_option maxHeartbeats 1000000 in
set_option maxRecDepth 20000 in
theorem rrefused_calls (A : Option Addr) (l : List UInt8) (c : Nat) (e : Bool) (w : World) (h : Rd w bv A l) (hl : l.length ≤ maxLen) :
    Calls Tryd.prog 16 #[.slice A l.length c, .bool e] w fun en w' => en = .returned (.int .i64 (refL e l)) ∧ w = w' := by
  have hC := fun i hi => rcrlf_calls A l c i w h hl hi
  unfold maxLen at hl
  generalize hv : refL e l = v
  have HV := Lib.hid hv
  have HR := Lib.hid h
  have HC := Lib.hid hC
  clear hv h hC
  go_enter Tryd.func16, Tryd.ntmps16
  go_upto_region 3 with fail
  go_loop [5, 6] (fun s5 s6 => ∃ n i col b : Nat, s5 = .int .i64 b ∧ s6 = .int .i64 i ∧ b + col = i ∧ i ≤ l.length ∧ col ≤ 998 ∧ l.length ≤ i + n ∧ Hid (refF e l n i col = v)) (fun _ s6 => l.length - (intOf s6).toNat)
  case atStart => exact ⟨l.length, 0, 0, 0, rfl, rfl, by omega, by omega, by omega, by omega, HV⟩
  case round =>
    obtain ⟨n, i, col, b, rfl, rfl, hbc, hi, hcol, hn, HF⟩ := hrel
    by_cases hlt : i < l.length
    · have i1 : (0 : Int) ≤ (i : Int) := by omega
      have i2 : (i : Int) < (l.length : Int) := by omega
      obtain ⟨n, rfl⟩ : ∃ m, n = m + 1 := ⟨n - 1, by omega⟩
      obtain ⟨ad, rfl, _, ck⟩ := HR.out.at_ hlt
      have hf := HF.out
      rw [refF_at hlt, badC_eq] at hf
      have hu := u8_lt l[i]
      have hcc := HC.out i hlt
      rcases tf (crlfAt l i) with hcr | hcr
      · rw [hcr] at hcc hf
        have HCC := Lib.hid hcc
        rw [if_neg (by simp)] at hf
        clear hcc hcr HC
        by_cases c13 : l[i].toNat = 13
        · have q13 : ((l[i].toNat : Int) == 13) = true := by simp; omega
          rw [if_pos (.inl (by simp; exact .inl c13))] at hf
          have HF2 := Lib.hid hf
          clear HF hf c13
          generalize l[i] = x at *
          go_wp2_with (go_at_call 37; ((with_reducible refine HCC.out.mono ?_); rintro e w' ⟨rfl, rfl⟩))
          go_ret
          exact ⟨ret_int HF2.out, rfl⟩
        · have q13 : ((l[i].toNat : Int) == 13) = false := by simp; omega
          by_cases c10 : l[i].toNat = 10
          · have q10 : ((l[i].toNat : Int) == 10) = true := by simp; omega
            rw [if_pos (.inl (by simp; exact .inr (.inl c10)))] at hf
            have HF2 := Lib.hid hf
            clear HF hf c13 c10
            generalize l[i] = x at *
            go_wp2_with (go_at_call 37; ((with_reducible refine HCC.out.mono ?_); rintro e w' ⟨rfl, rfl⟩))
            go_ret
            exact ⟨ret_int HF2.out, rfl⟩
          · have q10 : ((l[i].toNat : Int) == 10) = false := by simp; omega
            by_cases c0 : l[i].toNat = 0
            · have q0 : ((l[i].toNat : Int) == 0) = true := by simp; omega
              rw [if_pos (.inl (by simp; exact .inr (.inr (.inl c0))))] at hf
              have HF2 := Lib.hid hf
              clear HF hf c13 c10 c0
              generalize l[i] = x at *
              go_wp2_with (go_at_call 37; ((with_reducible refine HCC.out.mono ?_); rintro e w' ⟨rfl, rfl⟩))
              go_ret
              exact ⟨ret_int HF2.out, rfl⟩
            · have q0 : ((l[i].toNat : Int) == 0) = false := by simp; omega
              by_cases c8 : 128 ≤ l[i].toNat ∧ e = false
              · obtain ⟨c8, rfl⟩ := c8
                have q8 : decide ((127 : Int) < (l[i].toNat : Int)) = true := by simp; omega
                rw [if_pos (.inl (by simp; exact .inr (.inr (.inr c8))))] at hf
                have HF2 := Lib.hid hf
                clear HF hf c13 c10 c0 c8
                generalize l[i] = x at *
                go_wp2_with (go_at_call 37; ((with_reducible refine HCC.out.mono ?_); rintro e w' ⟨rfl, rfl⟩))
                go_ret
                exact ⟨ret_int HF2.out, rfl⟩
              · have q8 : decide ((127 : Int) < (l[i].toNat : Int)) = false ∨ (decide ((127 : Int) < (l[i].toNat : Int)) = true ∧ e = true) := by
                  cases e
                  · left; simp at c8 ⊢; omega
                  · rcases tf (decide ((127 : Int) < (l[i].toNat : Int))) with h | h
                    · exact .inl h
                    · exact .inr ⟨h, rfl⟩
                have e1 : (i : Int) - (b : Int) = (col : Int) := by omega
                have hwr : IntKind.i64.wrap ((i : Int) - (b : Int)) = (col : Int) := by rw [e1]; exact i64_id (by omega)
                by_cases h9 : col = 998
                · have q9 : (998 : Int) ≤ (i : Int) - (b : Int) := by omega
                  rw [if_pos (.inr (by omega))] at hf
                  have HF2 := Lib.hid hf
                  clear HF hf c13 c10 c0 c8 hwr e1
                  generalize l[i] = x at *
                  rcases q8 with q8 | ⟨q8, rfl⟩
                  all_goals
                    go_wp2_with (go_at_call 37; ((with_reducible refine HCC.out.mono ?_); rintro e w' ⟨rfl, rfl⟩))
                    go_ret
                    exact ⟨ret_int HF2.out, rfl⟩
                · have q9 : (i : Int) - (b : Int) < 998 := by omega
                  rw [if_neg (by simp; rcases q8 with q8 | ⟨q8, rfl⟩ <;> simp at * <;> omega)] at hf
                  have HF2 := Lib.hid hf
                  clear HF hf c13 c10 c0 c8 hwr e1
                  generalize l[i] = x at *
                  rcases q8 with q8 | ⟨q8, rfl⟩
                  all_goals
                    go_wp2_with (go_at_call 37; ((with_reducible refine HCC.out.mono ?_); rintro e w' ⟨rfl, rfl⟩))
                    go_round
                    case rel => exact ⟨n, i + 1, col + 1, b, rfl, by go_num, by omega, by omega, by omega, by omega, HF2⟩
                    case measure => simp [intOf]; omega
      · rw [hcr] at hcc hf
        have HCC := Lib.hid hcc
        rw [if_pos rfl] at hf
        have HF2 := Lib.hid hf
        have hlt2 : i + 1 < l.length := by
          refine Decidable.byContradiction fun h => ?_
          rw [crlf_end (by omega)] at hcr
          cases hcr
        clear hcc hcr HC hf HF
        go_wp2_with (go_at_call 37; ((with_reducible refine HCC.out.mono ?_); rintro e w' ⟨rfl, rfl⟩))
        go_round
        case rel => exact ⟨n, i + 2, 0, i + 2, by go_num, by go_num, by omega, by omega, by omega, by omega, HF2⟩
        case measure => simp [intOf]; omega
    · have hf := HF.out
      rw [refF_end (by omega)] at hf
      have HF2 := Lib.hid hf
      clear HF hf HC
      go_wp2
      go_ret
      exact ⟨ret_int HF2.out, rfl⟩
end Go.Proofs.YtjgohmfmalcjoaaDoor.TrW
