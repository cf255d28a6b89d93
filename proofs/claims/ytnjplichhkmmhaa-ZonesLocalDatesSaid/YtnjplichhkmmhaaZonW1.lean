/- Walks: names, turns and faults of zones. -/
import Derived.Test.YtnjplichhkmmhaaCalEq
import Derived.Test.YtnjplichhkmmhaaCal
import Derived.Test.YtnjplichhkmmhaaCalW4
namespace Go.Proofs.Ytnjplichhkmmhaa.CalW
open Go.RowKit Go.Proofs.Ytnjplichhkmmhaa.Base Go.Proofs.Ytnjplichhkmmhaa.Cal
set_option linter.unusedVariables false
set_option linter.unusedSimpArgs false

theorem take_snoc (s : ByteArray) (k : Nat) (h : k < s.size) : s.data.toList.take (k + 1) = s.data.toList.take k ++ [s[k]] := by
  rw [List.take_succ_eq_append_getElem (by simpa using h)]; rfl
theorem all_snoc (s : ByteArray) (k : Nat) (h : k < s.size) (p : UInt8 → Bool) : (s.data.toList.take (k + 1)).all p = ((s.data.toList.take k).all p && p s[k]) := by
  rw [take_snoc s k h]; simp
theorem all_no (s : ByteArray) (k : Nat) (h : k < s.size) (p : UInt8 → Bool) (hp : p s[k] = false) : s.data.toList.all p = false := by
  rw [← Bool.not_eq_true, List.all_eq_true]
  intro hall
  have := hall s[k] (by
    have : s[k] = s.data.toList[k]'(by simpa using h) := rfl
    rw [this]; exact List.getElem_mem _)
  rw [hp] at this; cases this
theorem nameC_t {c : UInt8} (h : (97 ≤ (c.toNat : Int) ∧ (c.toNat : Int) ≤ 122) ∨ (65 ≤ (c.toNat : Int) ∧ (c.toNat : Int) ≤ 90) ∨ (48 ≤ (c.toNat : Int) ∧ (c.toNat : Int) ≤ 57) ∨ (c.toNat : Int) = 45 ∨ (c.toNat : Int) = 95 ∨ (c.toNat : Int) = 46) : nameC c = true := by
  have e : ∀ n : UInt8, (c == n) = decide ((c.toNat : Int) = (n.toNat : Int)) := fun n => by
    rw [Bool.eq_iff_iff]; simp [← UInt8.toNat_inj]; omega
  unfold nameC inR
  rw [e, e, e]
  simp; omega
theorem nameC_f {c : UInt8} (h : ¬ ((97 ≤ (c.toNat : Int) ∧ (c.toNat : Int) ≤ 122) ∨ (65 ≤ (c.toNat : Int) ∧ (c.toNat : Int) ≤ 90) ∨ (48 ≤ (c.toNat : Int) ∧ (c.toNat : Int) ≤ 57) ∨ (c.toNat : Int) = 45 ∨ (c.toNat : Int) = 95 ∨ (c.toNat : Int) = 46)) : nameC c = false := by
  have e : ∀ n : UInt8, (c == n) = decide ((c.toNat : Int) = (n.toNat : Int)) := fun n => by
    rw [Bool.eq_iff_iff]; simp [← UInt8.toNat_inj]; omega
  unfold nameC inR
  rw [e, e, e]
  simp; omega
set_option maxHeartbeats 2000000 in
theorem isName_calls (s : ByteArray) (w : World) (hs : s.size ≤ maxLen) :
    Calls Try.prog 34 #[.string s] w fun e w' => e = .returned (.bool (isName s)) ∧ w = w' := by
  unfold maxLen at hs
  generalize hv : isName s = v
  have HV := Lib.hid hv
  clear hv
  go_enter Try.func34, Try.ntmps34
  go_wp2
  go_loop [7] (fun i => ∃ k : Nat, k ≤ s.size ∧ i = .int .i64 k ∧ Hid ((s.data.toList.take k).all nameC = true)) (fun i => s.size - (intOf i).toNat)
  case atStart => exact ⟨0, Nat.zero_le _, rfl, by simp [Hid]⟩
  case round =>
    obtain ⟨k, hk, rfl, HA⟩ := hrel
    by_cases hlt : k < s.size
    · have hu : (s[k].toNat : Int) < 256 := by have := s[k].toNat_lt; omega
      have hc : (0 ≤ (s[k].toNat : Int) ∧ (s[k].toNat : Int) ≤ 44) ∨ (45 ≤ (s[k].toNat : Int) ∧ (s[k].toNat : Int) ≤ 45) ∨ (46 ≤ (s[k].toNat : Int) ∧ (s[k].toNat : Int) ≤ 46) ∨ (47 ≤ (s[k].toNat : Int) ∧ (s[k].toNat : Int) ≤ 47) ∨ (48 ≤ (s[k].toNat : Int) ∧ (s[k].toNat : Int) ≤ 57) ∨ (58 ≤ (s[k].toNat : Int) ∧ (s[k].toNat : Int) ≤ 64) ∨ (65 ≤ (s[k].toNat : Int) ∧ (s[k].toNat : Int) ≤ 90) ∨ (91 ≤ (s[k].toNat : Int) ∧ (s[k].toNat : Int) ≤ 94) ∨ (95 ≤ (s[k].toNat : Int) ∧ (s[k].toNat : Int) ≤ 95) ∨ (96 ≤ (s[k].toNat : Int) ∧ (s[k].toNat : Int) ≤ 96) ∨ (97 ≤ (s[k].toNat : Int) ∧ (s[k].toNat : Int) ≤ 122) ∨ (123 ≤ (s[k].toNat : Int) ∧ (s[k].toNat : Int) ≤ 255) := by omega
      clear hu
      rcases hc with ⟨c1, c2⟩ | ⟨c1, c2⟩ | ⟨c1, c2⟩ | ⟨c1, c2⟩ | ⟨c1, c2⟩ | ⟨c1, c2⟩ | ⟨c1, c2⟩ | ⟨c1, c2⟩ | ⟨c1, c2⟩ | ⟨c1, c2⟩ | ⟨c1, c2⟩ | ⟨c1, c2⟩
      all_goals
        first
          | (have hn := Lib.hid (nameC_f (c := s[k]) (by omega))
             have hf := Lib.hid (all_no s k hlt nameC hn.out)
             (first | (have p1 : decide ((s[k].toNat : Int) ≤ 57) = false := by (simp; omega)) | (have p1 : decide ((s[k].toNat : Int) ≤ 57) = true := by (simp; omega)))
             (first | (have p2 : decide ((s[k].toNat : Int) ≤ 90) = false := by (simp; omega)) | (have p2 : decide ((s[k].toNat : Int) ≤ 90) = true := by (simp; omega)))
             (first | (have p3 : decide ((s[k].toNat : Int) ≤ 122) = false := by (simp; omega)) | (have p3 : decide ((s[k].toNat : Int) ≤ 122) = true := by (simp; omega)))
             (first | (have q1 : ((s[k].toNat : Int) == 45) = false := by (simp; omega)) | (have q1 : ((s[k].toNat : Int) == 45) = true := by (simp; omega)))
             (first | (have q2 : ((s[k].toNat : Int) == 95) = false := by (simp; omega)) | (have q2 : ((s[k].toNat : Int) == 95) = true := by (simp; omega)))
             (first | (have q3 : ((s[k].toNat : Int) == 46) = false := by (simp; omega)) | (have q3 : ((s[k].toNat : Int) == 46) = true := by (simp; omega)))
             go_wp2
             go_ret
             exact ⟨ret_bool (by rw [← HV.out]; simp [isName, hf.out]), rfl⟩)
          | (have hn := Lib.hid (nameC_t (c := s[k]) (by omega))
             (first | (have p1 : decide ((s[k].toNat : Int) ≤ 57) = false := by (simp; omega)) | (have p1 : decide ((s[k].toNat : Int) ≤ 57) = true := by (simp; omega)))
             (first | (have p2 : decide ((s[k].toNat : Int) ≤ 90) = false := by (simp; omega)) | (have p2 : decide ((s[k].toNat : Int) ≤ 90) = true := by (simp; omega)))
             (first | (have p3 : decide ((s[k].toNat : Int) ≤ 122) = false := by (simp; omega)) | (have p3 : decide ((s[k].toNat : Int) ≤ 122) = true := by (simp; omega)))
             (first | (have q1 : ((s[k].toNat : Int) == 45) = false := by (simp; omega)) | (have q1 : ((s[k].toNat : Int) == 45) = true := by (simp; omega)))
             (first | (have q2 : ((s[k].toNat : Int) == 95) = false := by (simp; omega)) | (have q2 : ((s[k].toNat : Int) == 95) = true := by (simp; omega)))
             (first | (have q3 : ((s[k].toNat : Int) == 46) = false := by (simp; omega)) | (have q3 : ((s[k].toNat : Int) == 46) = true := by (simp; omega)))
             go_wp2
             go_round
             case rel => exact ⟨k + 1, by omega, by go_num, by unfold Hid; rw [all_snoc s k hlt, HA.out, hn.out]; rfl⟩
             case measure => simp [intOf]; omega)
    · have e : k = s.size := by omega
      have hall : s.data.toList.all nameC = true := by
        have := HA.out
        rwa [e, List.take_of_length_le (by simp)] at this
      have HL := Lib.hid hall
      clear hall e
      have hv : isName s = inR s.size 1 60 := by simp [isName, HL.out]
      have HV2 := Lib.hid hv
      clear hv
      refine (tf (decide ((1 : Int) ≤ (s.size : Int)))).elim (fun h1 => ?_) fun h1 => (tf (decide ((s.size : Int) ≤ 60))).elim (fun h2 => ?_) fun h2 => ?_
      all_goals
        go_wp2
        go_ret
        exact ⟨ret_bool (by rw [← HV.out, HV2.out]; simp only [inR, *]; try rfl), rfl⟩
end Go.Proofs.Ytnjplichhkmmhaa.CalW
