/- Walk: the law ZonesTurns. -/
import Derived.Test.YtnjplichhkmmhaaZonL2
import Derived.Test.YtnjplichhkmmhaaCal5
namespace Go.Proofs.Ytnjplichhkmmhaa.Cal
set_option linter.unusedVariables false
def lastH (z : Zone) (T : Int) : Nat → Int
  | 0 => 0
  | n + 1 => offD z T n
theorem chgH_step (z : Zone) (T : Int) : ∀ n : Nat, chgH z T (n + 1) = chgH z T n + (if n = 0 then 0 else if offD z T n ≠ lastH z T n then 1 else 0)
  | 0 => rfl
  | n + 1 => by
    show chgH z T (n + 1) + (if offD z T (n + 1) ≠ offD z T n then 1 else 0) = _
    rw [if_neg (show ¬ n + 1 = 0 by omega)]
    rfl
theorem chgH_nn (z : Zone) (T : Int) : ∀ n : Nat, 0 ≤ chgH z T n
  | 0 => by show (0 : Int) ≤ 0; omega
  | n + 1 => by
    have := chgH_nn z T n
    rw [chgH_step]
    split
    · omega
    · split <;> omega
theorem chgH_bd {z : Zone} (h : z.fault = (0, 0)) (T : Int) (ht : -20000000000 ≤ T) (ht' : T ≤ 20000000000) (n : Nat) (hn : n ≤ 351) : chgH z T n ≤ 2 := by
  cases n with
  | zero => show (0 : Int) ≤ 2; omega
  | succ n => exact chg_two h T ht ht' n (by omega)
end Go.Proofs.Ytnjplichhkmmhaa.Cal
namespace Go.Proofs.Ytnjplichhkmmhaa.CalW
open Go.RowKit Go.Proofs.Ytnjplichhkmmhaa.Base Go.Proofs.Ytnjplichhkmmhaa.Cal
set_option linter.unusedVariables false
set_option linter.unusedSimpArgs false
theorem fldC (W : World) (a b : Int) : (Instr.field 28 (.agg #[.int .i64 a, .int .i64 b]) 0).run Try.prog W = .ok (.int .i64 a) W := by
  have hu := Try.underlying28
  simp [Instr.field, run_underlying hu, go_sem, asAgg]
attribute [local go_sem high] fldC
set_option maxHeartbeats 4000000 in
set_option maxRecDepth 20000 in
theorem lawturns_walk (z : Zone) (t : Int) (w : World) (hs : z.name.size ≤ maxLen) (ht : -9223372036854775808 ≤ t) (ht' : t ≤ 9223372036854775807) :
    Calls Try.prog 6 #[zval z, .int .i64 t] w fun e w' => e = .returned (.bool true) ∧ Below w.heap.size w w' := by
  have hV := fun W => zvalidate_calls z W hs
  have hKo := z.fault_or'
  have hO : z.fault = (0, 0) → -20000000000 ≤ t → t ≤ 20000000000 → ∀ W (n : Nat), n ≤ 350 → Calls Try.prog 17 #[zval z, .int .i64 (t + 86400 * n)] W fun e w' => e = .returned (.tuple #[.int .i64 (offD z t n), .agg #[.int .i64 0, .int .i64 0]]) ∧ Below W.heap.size W w' := fun h h1 h2 W n hn => by
    have hh := offset_calls z (t + 86400 * n) W hs (by omega) (by omega)
    rw [(off_two h (t + 86400 * n) (by omega) (by omega)).1] at hh
    exact hh
  have hT : z.fault = (0, 0) → -20000000000 ≤ t → t ≤ 20000000000 → ∀ (n : Nat), n ≤ 350 → offD z t n = z.st ∨ offD z t n = z.su := fun h h1 h2 n hn => (off_two h (t + 86400 * n) (by omega) (by omega)).2
  have hC := chgH_step z t
  have hN := chgH_nn z t
  have hB := fun h h1 h2 n hn => chgH_bd (z := z) h t h1 h2 n hn
  have hL : ∀ n, lastH z t (n + 1) = offD z t n := fun n => rfl
  have hL0 : lastH z t 0 = 0 := rfl
  have hC0 : chgH z t 0 = 0 := rfl
  obtain ⟨nm, st, su, ⟨b0, b1, b2, b3⟩, ⟨e0, e1, e2, e3⟩⟩ := z
  have hu25 := Try.underlying25
  have hu28 := Try.underlying28
  generalize offD ⟨nm, st, su, ⟨b0, b1, b2, b3⟩, ⟨e0, e1, e2, e3⟩⟩ t = F at *
  generalize lastH ⟨nm, st, su, ⟨b0, b1, b2, b3⟩, ⟨e0, e1, e2, e3⟩⟩ t = L at *
  generalize chgH ⟨nm, st, su, ⟨b0, b1, b2, b3⟩, ⟨e0, e1, e2, e3⟩⟩ t = C at *
  generalize Zone.fault ⟨nm, st, su, ⟨b0, b1, b2, b3⟩, ⟨e0, e1, e2, e3⟩⟩ = k at *
  dsimp only at hT
  have HVAL := Lib.hid hV
  have HKO := Lib.hid hKo
  have HO := Lib.hid hO
  have HT := Lib.hid hT
  have HC := Lib.hid hC
  have HN := Lib.hid hN
  have HBD := Lib.hid hB
  have HL := Lib.hid hL
  have HL0 := Lib.hid hL0
  have HC0 := Lib.hid hC0
  clear hV hKo hO hT hC hN hB hL hL0 hC0
  go_enter Try.func6, Try.ntmps6
  go_upto_region 1 with fail
  have BZ := Lib.hid (Bk.new w 25 #[.string nm, .int .i64 st, .int .i64 su, .int .i64 b0, .int .i64 b1, .int .i64 b2, .int .i64 b3, .int .i64 e0, .int .i64 e1, .int .i64 e2, .int .i64 e3])
  have BB := Lib.hid (below_al (Below.refl w.heap.size w) (.cells #[.string nm, .int .i64 st, .int .i64 su, .int .i64 b0, .int .i64 b1, .int .i64 b2, .int .i64 b3, .int .i64 e0, .int .i64 e1, .int .i64 e2, .int .i64 e3] 25))
  generalize w.alloc (.cells #[.string nm, .int .i64 st, .int .i64 su, .int .i64 b0, .int .i64 b1, .int .i64 b2, .int .i64 b3, .int .i64 e0, .int .i64 e1, .int .i64 e2, .int .i64 e3] 25) = w0 at *
  go_upto_region 3 with (go_at_call 14; refine (zexample_calls _).mono ?_; rintro e w1 ⟨rfl, hb⟩)
  have JZ := Lib.hid (BZ.out.bel hb)
  have JB := Lib.hid (below_go BB.out hb)
  clear BZ BB hb w0
  have cz := JZ.out.cell
  by_cases hk : k = (0, 0)
  · refine (tf (inR t (-20000000000) 20000000000)).elim (fun h1 => ?_) fun h1 => ?_
    · subst hk
      go_wp2_with (first | (go_at_call 15; refine (HVAL.out _).mono ?_; rintro e w2 ⟨rfl, hb⟩) | (go_at_call 24; refine (rIn_is h1 _).mono ?_; rintro e w' ⟨rfl, rfl⟩))
      go_ret
      exact ⟨rfl, by with_reducible repeat (first | exact below_go JB.out hb | refine below_drew1 ?_)⟩
    · have t1 := (inR_t h1).1
      have t2 := (inR_t h1).2
      have hO := HO.out hk t1 t2
      have hT := HT.out hk t1 t2
      have hB := HBD.out hk t1 t2
      clear HO HT HBD
      have HO := Lib.hid hO
      have HT := Lib.hid hT
      have HBD := Lib.hid hB
      clear hO hT hB
      subst hk
      go_upto_region 8 with (first | (go_at_call 15; refine (HVAL.out _).mono ?_; rintro e w2 ⟨rfl, hb⟩) | (go_at_call 24; refine (rIn_is h1 _).mono ?_; rintro e w' ⟨rfl, rfl⟩))
      have KZ := Lib.hid (JZ.out.bel hb)
      have KB := Lib.hid (below_go JB.out hb)
      clear JZ JB cz hb
      generalize w2 = w0 at *
      have cz := KZ.out.cell
      go_loopw [5, 6, 7] (fun c l j wr => ∃ n : Nat, n ≤ 351 ∧ j = .int .i64 n ∧ c = .int .i64 (C n) ∧ l = .int .i64 (L n) ∧ Below w0.heap.size w0 wr) (fun _ _ j _ => (351 - intOf j).toNat)
      case atStart => exact ⟨0, by omega, rfl, by rw [HC0.out], by rw [HL0.out], Below.refl _ _⟩
      case round =>
        obtain ⟨n, hn, rfl, rfl, rfl, hb⟩ := hrel
        have HLB := Lib.hid hb
        have KZ1 := Lib.hid (KZ.out.bel hb)
        clear cz hb
        have cz := KZ1.out.cell
        have c1 := HN.out n
        have c2 := HBD.out n hn
        have hst := HC.out n
        have HST := Lib.hid hst
        clear hst
        by_cases hlt : n ≤ 350
        · have hO := HO.out
          have HOn := Lib.hid (fun W => hO W n hlt)
          clear hO
          have o2 := HT.out n hlt
          have hln := HL.out n
          have HLN := Lib.hid hln
          clear hln
          generalize F n = o at *
          generalize C n = c at *
          generalize L n = l at *
          have hcase : (o != st) = false ∨ ((o != st) = true ∧ (o != su) = false) := by
            rcases o2 with h | h
            · exact .inl (by simpa using h)
            · rcases tf (o != st) with h' | h'
              · exact .inl h'
              · exact .inr ⟨h', by simpa using h⟩
          clear o2
          rcases Nat.eq_zero_or_pos n with h0 | h0
          · have g1 : (n : Int) ≤ 0 := by omega
            have g2 : 0 ≤ (n : Int) := by omega
            have HN0 := Lib.hid h0
            clear h0
            rcases hcase with h3 | ⟨h3, h4⟩
            all_goals
              go_wp2_with (go_at_call 17; refine (HOn.out _).mono ?_; rintro e w3 ⟨rfl, hb⟩; have HB3 := Lib.hid (below_al hb (.cells #[.int .i64 0, .int .i64 0] 28)); clear cz; have cz := ((KZ1.out.bel hb).al (.cells #[.int .i64 0, .int .i64 0] 28)).cell)
              have ec : C (n + 1) = c := by rw [HST.out, if_pos HN0.out, Int.add_zero]
              exact ⟨⟨n + 1, by omega, by go_num, by rw [ec], by rw [HLN.out], below_go HLB.out HB3.out⟩, by simp [intOf]; omega⟩
          · have g1 : 0 < (n : Int) := by omega
            have HN0 := Lib.hid h0
            clear h0
            refine (tf (o != l)).elim (fun h5 => ?_) fun h5 => ?_
            · have e0 : C (n + 1) = c := by
                have := HN0.out
                rw [HST.out, if_neg (by omega), if_neg (by simpa using h5), Int.add_zero]
              have EC := Lib.hid e0
              clear e0
              rcases hcase with h3 | ⟨h3, h4⟩
              all_goals
                go_wp2_with (go_at_call 17; refine (HOn.out _).mono ?_; rintro e w3 ⟨rfl, hb⟩; have HB3 := Lib.hid (below_al hb (.cells #[.int .i64 0, .int .i64 0] 28)); clear cz; have cz := ((KZ1.out.bel hb).al (.cells #[.int .i64 0, .int .i64 0] 28)).cell)
                exact ⟨⟨n + 1, by omega, by go_num, by rw [EC.out], by rw [HLN.out], below_go HLB.out HB3.out⟩, by simp [intOf]; omega⟩
            · have e0 : C (n + 1) = c + 1 := by
                have := HN0.out
                rw [HST.out, if_neg (by omega), if_pos (by simpa using h5)]
              have EC := Lib.hid e0
              clear e0
              rcases hcase with h3 | ⟨h3, h4⟩
              all_goals
                go_wp2_with (go_at_call 17; refine (HOn.out _).mono ?_; rintro e w3 ⟨rfl, hb⟩; have HB3 := Lib.hid (below_al hb (.cells #[.int .i64 0, .int .i64 0] 28)); clear cz; have cz := ((KZ1.out.bel hb).al (.cells #[.int .i64 0, .int .i64 0] 28)).cell)
                exact ⟨⟨n + 1, by omega, by go_num, by rw [EC.out], by rw [HLN.out], below_go HLB.out HB3.out⟩, by simp [intOf]; omega⟩
        · have e : n = 351 := by omega
          subst e
          go_wp2_with fail
          go_ret
          exact ⟨rfl, below_go KB.out HLB.out⟩
  · have p := (HKO.out).resolve_left hk
    have p2 : (k.1 != 0) = true := by simpa using p
    clear hk p
    go_wp2_with (go_at_call 15; refine (HVAL.out _).mono ?_; rintro e w2 ⟨rfl, hb⟩)
    go_ret
    exact ⟨rfl, by with_reducible repeat (first | exact below_go JB.out hb | refine below_drew1 ?_)⟩
end Go.Proofs.Ytnjplichhkmmhaa.CalW
