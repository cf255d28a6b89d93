/- Walks: letters without regard to case. -/
import Derived.Test.YtjgohmfmalcjoaaDoorTr1
namespace Go.Proofs.YtjgohmfmalcjoaaDoor.TrW
open Go.RowKit Go.Proofs.YtjgohmfmalcjoaaDoor.Base Go.Proofs.YtjgohmfmalcjoaaDoor.Tr
set_option linter.unusedVariables false
set_option linter.unusedSimpArgs false
theorem rIn_calls (n lo hi : Int) (w : World) :
    Calls Tryd.prog 67 #[.int .i64 n, .int .i64 lo, .int .i64 hi] w fun e w' => e = .returned (.bool (inR n lo hi)) ∧ w = w' := by
  by_cases h : lo ≤ n
  all_goals
    go_enter Tryd.func67, Tryd.ntmps67
    go_wp2
    go_ret
    exact ⟨by simp [inR, h]; try omega, rfl⟩
theorem rIn_is {n lo hi : Int} {b : Bool} (h : inR n lo hi = b) (w : World) :
    Calls Tryd.prog 67 #[.int .i64 n, .int .i64 lo, .int .i64 hi] w fun e w' => e = .returned (.bool b) ∧ w = w' := h ▸ rIn_calls n lo hi w
theorem rAt_calls (c i : Int) (w : World) :
    Calls Tryd.prog 15 #[.int .i64 c, .int .i64 i] w fun e w' => e = .returned (.agg #[.int .i64 c, .int .i64 i]) ∧ Below w.heap.size w w' := by
  have hu := Tryd.underlying25
  go_enter Tryd.func15, Tryd.ntmps15
  go_wp2
  exact bodyPost_ret (by simp [results, Tryd.results15, go_sem]) rfl ⟨rfl, by with_reducible repeat (first | exact Below.refl _ _ | refine below_al ?_ _)⟩
set_option maxRecDepth 20000 in
theorem lower_calls (c : UInt8) (w : World) :
    Calls Tryd.prog 90 #[bv c] w fun e w' => e = .returned (bv (lowC c)) ∧ w = w' := by
  have hu := u8_lt c
  rcases Nat.lt_or_ge c.toNat 65 with h1 | h1
  · have e := lowC_no (c := c) (.inl h1)
    rw [e]
    have g1 : (c.toNat : Int) < 65 := by omega
    clear h1 e
    go_enter Tryd.func90, Tryd.ntmps90
    go_wp2
    go_ret
    exact ⟨rfl, rfl⟩
  · rcases Nat.lt_or_ge 90 c.toNat with h2 | h2
    · have e := lowC_no (c := c) (.inr h2)
      rw [e]
      have g1 : 65 ≤ (c.toNat : Int) := by omega
      have g2 : 90 < (c.toNat : Int) := by omega
      clear h1 h2 e
      go_enter Tryd.func90, Tryd.ntmps90
      go_wp2
      go_ret
      exact ⟨rfl, rfl⟩
    · have e := lowC_up h1 h2
      have g1 : 65 ≤ (c.toNat : Int) := by omega
      have g2 : (c.toNat : Int) ≤ 90 := by omega
      clear h1 h2
      generalize lowC c = x at *
      go_enter Tryd.func90, Tryd.ntmps90
      go_wp2
      go_ret
      exact ⟨ret_int (by omega), rfl⟩
set_option maxHeartbeats 1000000 in
set_option maxRecDepth 20000 in
theorem same_calls (a b : ByteArray) (w : World) (ha : a.size ≤ maxLen) (hb : b.size ≤ maxLen) :
    Calls Tryd.prog 60 #[.string a, .string b] w fun e w' => e = .returned (.bool (alike a b)) ∧ Below w.heap.size w w' := by
  unfold maxLen at ha hb
  by_cases hs : a.size = b.size
  · have g0 : ((a.size : Int) != (b.size : Int)) = false := by simp [hs]
    generalize hv : alike a b = v
    have HV := Lib.hid hv
    clear hv
    go_enter Tryd.func60, Tryd.ntmps60
    go_upto_region 4 with fail
    go_loopw [13] (fun s13 wr => ∃ k : Nat, k ≤ a.size ∧ s13 = .int .i64 k ∧ Hid (∀ j (h1 : j < a.size) (h2 : j < b.size), j < k → lowC a[j] = lowC b[j]) ∧ Hid (Below w.heap.size w wr)) (fun s13 _ => a.size - (intOf s13).toNat)
    case atStart => exact ⟨0, by omega, rfl, Lib.hid (fun j h1 h2 h => by omega), Lib.hid (Below.refl _ _)⟩
    case round =>
      obtain ⟨k, hk, rfl, HA, HB⟩ := hrel
      by_cases hlt : k < a.size
      · have hlt2 : k < b.size := by omega
        have i1 : (0 : Int) ≤ (k : Int) := by omega
        have i2 : (k : Int) < (a.size : Int) := by omega
        have i3 : (k : Int) < (b.size : Int) := by omega
        go_upto_region 6 with fail
        refine wp_region_bel (by kernel_rfl) (by kernel_rfl) ?_
        by_cases hc : lowC a[k] = lowC b[k]
        · have q1 : (((lowC a[k]).toNat : Int) != ((lowC b[k]).toNat : Int)) = false := by rw [hc]; simp
          repeat (go_big_quiet_step ((go_at_call 90; exact bel_eq (lower_calls _ _))))
          refine wpQuiet_nil ?_
          rintro _ ⟨s0, rfl⟩
          have hb2 := Lib.hid (below_go HB.out s0.below)
          generalize s0.w = w2 at *
          go_wp2
          exact ⟨⟨k + 1, by omega, by go_num, Lib.hid (fun j h1 h2 h => by
            rcases Nat.lt_or_ge j k with h3 | h3
            · exact HA.out j h1 h2 h3
            · have : j = k := by omega
              subst this
              exact hc), hb2⟩, by simp [intOf]; omega⟩
        · have q1 : (((lowC a[k]).toNat : Int) != ((lowC b[k]).toNat : Int)) = true := by
            simp only [bne_iff_ne, ne_eq]
            intro h
            exact hc (UInt8.toNat_inj.1 (by omega))
          have hv := alike_no hlt hlt2 hc
          rw [HV.out] at hv
          subst hv
          repeat (go_big_quiet_step ((go_at_call 90; exact bel_eq (lower_calls _ _))))
          refine wpQuiet_nil ?_
          rintro _ ⟨s0, rfl⟩
          have hb2 := Lib.hid (below_go HB.out s0.below)
          generalize s0.w = w2 at *
          go_wp2
          go_ret
          exact ⟨rfl, hb2.out⟩
      · have hv := alike_yes hs (fun j h1 h2 => HA.out j h1 h2 (by omega))
        rw [HV.out] at hv
        subst hv
        go_wp2
        go_ret
        exact ⟨rfl, HB.out⟩
  · have g0 : ((a.size : Int) != (b.size : Int)) = true := by simp; omega
    rw [alike_len hs]
    clear hs
    go_enter Tryd.func60, Tryd.ntmps60
    go_wp2
    go_ret
    exact ⟨rfl, Below.refl _ _⟩
end Go.Proofs.YtjgohmfmalcjoaaDoor.TrW
