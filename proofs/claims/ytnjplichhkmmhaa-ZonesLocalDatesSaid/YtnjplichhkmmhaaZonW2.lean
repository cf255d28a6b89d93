/- Walks: zones.Validate and what it calls; the reference's names and turns. -/
import Derived.Test.YtnjplichhkmmhaaZonW1
namespace Go.Proofs.Ytnjplichhkmmhaa.CalW
open Go.RowKit Go.Proofs.Ytnjplichhkmmhaa.Base Go.Proofs.Ytnjplichhkmmhaa.Cal
set_option linter.unusedVariables false
set_option linter.unusedSimpArgs false

theorem zwithin_calls (n lo hi : Int) (w : World) :
    Calls Try.prog 35 #[.int .i64 n, .int .i64 lo, .int .i64 hi] w fun e w' => e = .returned (.bool (inR n lo hi)) ∧ w = w' := by
  by_cases h : lo ≤ n
  all_goals
    go_enter Try.func35, Try.ntmps35
    go_wp2
    go_ret
    exact ⟨by simp [inR, h]; try omega, rfl⟩
theorem zwithin_is {n lo hi : Int} {b : Bool} (h : inR n lo hi = b) (w : World) :
    Calls Try.prog 35 #[.int .i64 n, .int .i64 lo, .int .i64 hi] w fun e w' => e = .returned (.bool b) ∧ w = w' := h ▸ zwithin_calls n lo hi w
theorem zturn_calls (m k d t : Int) (w : World) :
    Calls Try.prog 36 #[.agg #[.int .i64 m, .int .i64 k, .int .i64 d, .int .i64 t]] w fun e w' => e = .returned (.bool (Turn.ok ⟨m, k, d, t⟩)) ∧ Below w.heap.size w w' := by
  have hu := Try.underlying23
  have hv : Turn.ok ⟨m, k, d, t⟩ = (inR m 1 12 && (inR k 1 5 && (inR d 0 6 && inR t 0 1439))) := rfl
  rw [hv]
  clear hv
  generalize h1 : inR m 1 12 = b1
  generalize h2 : inR k 1 5 = b2
  generalize h3 : inR d 0 6 = b3
  cases b1 <;> cases b2 <;> cases b3
  all_goals
    go_enter Try.func36, Try.ntmps36
    go_wp2_with (go_at_call 35; refine (zwithin_calls _ _ _ _).mono ?_; rintro e w' ⟨rfl, rfl⟩)
    go_ret
    exact ⟨by simp, below_al (Below.refl _ _) _⟩
theorem rturn_calls (m k d t : Int) (w : World) :
    Calls Try.prog 39 #[.agg #[.int .i64 m, .int .i64 k, .int .i64 d, .int .i64 t]] w fun e w' => e = .returned (.bool (Turn.ok ⟨m, k, d, t⟩)) ∧ Below w.heap.size w w' := by
  have hu := Try.underlying23
  have hv : Turn.ok ⟨m, k, d, t⟩ = (inR m 1 12 && (inR k 1 5 && (inR d 0 6 && inR t 0 1439))) := rfl
  rw [hv]
  clear hv
  generalize h1 : inR m 1 12 = b1
  generalize h2 : inR k 1 5 = b2
  generalize h3 : inR d 0 6 = b3
  cases b1 <;> cases b2 <;> cases b3
  all_goals
    go_enter Try.func39, Try.ntmps39
    go_wp2_with (go_at_call 24; refine (rIn_calls _ _ _ _).mono ?_; rintro e w' ⟨rfl, rfl⟩)
    go_ret
    exact ⟨by simp, below_al (Below.refl _ _) _⟩

set_option maxHeartbeats 2000000 in
theorem zoneName_calls (s : ByteArray) (w : World) (hs : s.size ≤ maxLen) :
    Calls Try.prog 37 #[.string s] w fun e w' => e = .returned (.bool (isName s)) ∧ w = w' := by
  unfold maxLen at hs
  generalize hv : isName s = v
  have HV := Lib.hid hv
  clear hv
  go_enter Try.func37, Try.ntmps37
  go_wp2
  go_loop [3] (fun i => ∃ k : Nat, k ≤ s.size ∧ i = .int .i64 k ∧ Hid ((s.data.toList.take k).all nameC = true)) (fun i => s.size - (intOf i).toNat)
  case atStart => exact ⟨0, Nat.zero_le _, rfl, by simp [Hid]⟩
  case round =>
    obtain ⟨k, hk, rfl, HA⟩ := hrel
    by_cases hlt : k < s.size
    · have hu : (s[k].toNat : Int) < 256 := by have := s[k].toNat_lt; omega
      have hc : (0 ≤ (s[k].toNat : Int) ∧ (s[k].toNat : Int) ≤ 44) ∨ (45 ≤ (s[k].toNat : Int) ∧ (s[k].toNat : Int) ≤ 45) ∨ (46 ≤ (s[k].toNat : Int) ∧ (s[k].toNat : Int) ≤ 46) ∨ (47 ≤ (s[k].toNat : Int) ∧ (s[k].toNat : Int) ≤ 47) ∨ (48 ≤ (s[k].toNat : Int) ∧ (s[k].toNat : Int) ≤ 57) ∨ (58 ≤ (s[k].toNat : Int) ∧ (s[k].toNat : Int) ≤ 64) ∨ (65 ≤ (s[k].toNat : Int) ∧ (s[k].toNat : Int) ≤ 90) ∨ (91 ≤ (s[k].toNat : Int) ∧ (s[k].toNat : Int) ≤ 94) ∨ (95 ≤ (s[k].toNat : Int) ∧ (s[k].toNat : Int) ≤ 95) ∨ (96 ≤ (s[k].toNat : Int) ∧ (s[k].toNat : Int) ≤ 96) ∨ (97 ≤ (s[k].toNat : Int) ∧ (s[k].toNat : Int) ≤ 122) ∨ (123 ≤ (s[k].toNat : Int) ∧ (s[k].toNat : Int) ≤ 255) := by omega
      rcases hc with ⟨c1, c2⟩ | ⟨c1, c2⟩ | ⟨c1, c2⟩ | ⟨c1, c2⟩ | ⟨c1, c2⟩ | ⟨c1, c2⟩ | ⟨c1, c2⟩ | ⟨c1, c2⟩ | ⟨c1, c2⟩ | ⟨c1, c2⟩ | ⟨c1, c2⟩ | ⟨c1, c2⟩
      all_goals
        first | (have i1 := inR_no (n := (s[k].toNat : Int)) (lo := 97) (hi := 122) (by omega)) | (have i1 := inR_mk (n := (s[k].toNat : Int)) (lo := 97) (hi := 122) (by omega) (by omega))
        first | (have i2 := inR_no (n := (s[k].toNat : Int)) (lo := 65) (hi := 90) (by omega)) | (have i2 := inR_mk (n := (s[k].toNat : Int)) (lo := 65) (hi := 90) (by omega) (by omega))
        first | (have i3 := inR_no (n := (s[k].toNat : Int)) (lo := 48) (hi := 57) (by omega)) | (have i3 := inR_mk (n := (s[k].toNat : Int)) (lo := 48) (hi := 57) (by omega) (by omega))
        first
          | (have hn := Lib.hid (nameC_f (c := s[k]) (by omega))
             have hf := Lib.hid (all_no s k hlt nameC hn.out)
             have q1 : ((s[k].toNat : Int) != 45) = true := by (simp; omega)
             have q2 : ((s[k].toNat : Int) != 95) = true := by (simp; omega)
             have q3 : ((s[k].toNat : Int) != 46) = true := by (simp; omega)
             go_wp2_with (go_at_call 24; refine (rIn_calls _ _ _ _).mono ?_; rintro e w' ⟨rfl, rfl⟩)
             go_ret
             exact ⟨ret_bool (by rw [← HV.out]; simp [isName, hf.out]), rfl⟩)
          | (have hn := Lib.hid (nameC_t (c := s[k]) (by omega))
             (first | (have q1 : ((s[k].toNat : Int) != 45) = true := by (simp; omega)) | (have q1 : ((s[k].toNat : Int) != 45) = false := by (simp; omega)))
             (first | (have q2 : ((s[k].toNat : Int) != 95) = true := by (simp; omega)) | (have q2 : ((s[k].toNat : Int) != 95) = false := by (simp; omega)))
             (first | (have q3 : ((s[k].toNat : Int) != 46) = true := by (simp; omega)) | (have q3 : ((s[k].toNat : Int) != 46) = false := by (simp; omega)))
             go_wp2_with (go_at_call 24; refine (rIn_calls _ _ _ _).mono ?_; rintro e w' ⟨rfl, rfl⟩)
             go_round
             case rel => exact ⟨k + 1, by omega, by go_num, by unfold Hid; rw [all_snoc s k hlt, HA.out, hn.out]; rfl⟩
             case measure => simp [intOf]; omega)
    · have e : k = s.size := by omega
      have hall : s.data.toList.all nameC = true := by
        have := HA.out
        rwa [e, List.take_of_length_le (by simp)] at this
      have HL := Lib.hid hall
      clear hall e
      go_wp2_with (go_at_call 24; refine (rIn_calls _ _ _ _).mono ?_; rintro e w' ⟨rfl, rfl⟩)
      go_ret
      exact ⟨ret_bool (by rw [← HV.out]; simp [isName, HL.out]), rfl⟩
end Go.Proofs.Ytnjplichhkmmhaa.CalW
