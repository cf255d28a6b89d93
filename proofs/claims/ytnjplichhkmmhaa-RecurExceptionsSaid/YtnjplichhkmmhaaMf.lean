import Derived.Test.YtnjplichhkmmhaaMb
import Derived.Test.YtnjplichhkmmhaaMd
/- Walks: names, turns and faults of zones. -/
namespace Go.Proofs.Ytnjplichhkmmhaa.CalW
open Go.RowKit Go.Proofs.Ytnjplichhkmmhaa.Base Go.Proofs.Ytnjplichhkmmhaa.Cal
set_option linter.unusedVariables false
set_option linter.unusedSimpArgs false

theorem take_snoc (s : ByteArray) (k : Nat) (h : k < s.size) : s.data.toList.take (k + 1) = s.data.toList.take k ++ [s[k]] := by
  rw [List.take_succ_eq_append_getElem (by simpa using h)]; rfl
theorem all_snoc (s : ByteArray) (k : Nat) (h : k < s.size) (p : UInt8 → Bool) : (s.data.toList.take (k + 1)).all p = ((s.data.toList.take k).all p && p s[k]) := by
  rw [take_snoc s k h]; simp
theorem all_no (s : ByteArray) (k : Nat) (h : k < s.size) (p : UInt8 → Bool) (hp : p s[k] = false) : s.data.toList.all p = false := by
  rw [← Bool.not_eq_true, List.all_eq_true]
  intro hall
  have := hall s[k] (by
    have : s[k] = s.data.toList[k]'(by simpa using h) := rfl
    rw [this]; exact List.getElem_mem _)
  rw [hp] at this; cases this
theorem nameC_t {c : UInt8} (h : (97 ≤ (c.toNat : Int) ∧ (c.toNat : Int) ≤ 122) ∨ (65 ≤ (c.toNat : Int) ∧ (c.toNat : Int) ≤ 90) ∨ (48 ≤ (c.toNat : Int) ∧ (c.toNat : Int) ≤ 57) ∨ (c.toNat : Int) = 45 ∨ (c.toNat : Int) = 95 ∨ (c.toNat : Int) = 46) : nameC c = true := by
  have e : ∀ n : UInt8, (c == n) = decide ((c.toNat : Int) = (n.toNat : Int)) := fun n => by
    rw [Bool.eq_iff_iff]; simp [← UInt8.toNat_inj]; omega
  unfold nameC inR
  rw [e, e, e]
  simp; omega
theorem nameC_f {c : UInt8} (h : ¬ ((97 ≤ (c.toNat : Int) ∧ (c.toNat : Int) ≤ 122) ∨ (65 ≤ (c.toNat : Int) ∧ (c.toNat : Int) ≤ 90) ∨ (48 ≤ (c.toNat : Int) ∧ (c.toNat : Int) ≤ 57) ∨ (c.toNat : Int) = 45 ∨ (c.toNat : Int) = 95 ∨ (c.toNat : Int) = 46)) : nameC c = false := by
  have e : ∀ n : UInt8, (c == n) = decide ((c.toNat : Int) = (n.toNat : Int)) := fun n => by
    rw [Bool.eq_iff_iff]; simp [← UInt8.toNat_inj]; omega
  unfold nameC inR
  rw [e, e, e]
  simp; omega
set_option maxHeartbeats 2000000 in
theorem isName_calls (s : ByteArray) (w : World) (hs : s.size ≤ maxLen) :
    Calls Try.prog 34 #[.string s] w fun e w' => e = .returned (.bool (isName s)) ∧ w = w' := by
  unfold maxLen at hs
  generalize hv : isName s = v
  have HV := Lib.hid hv
  clear hv
  go_enter Try.func34, Try.ntmps34
  go_wp2
  go_loop [7] (fun i => ∃ k : Nat, k ≤ s.size ∧ i = .int .i64 k ∧ Hid ((s.data.toList.take k).all nameC = true)) (fun i => s.size - (intOf i).toNat)
  case atStart => exact ⟨0, Nat.zero_le _, rfl, by simp [Hid]⟩
  case round =>
    obtain ⟨k, hk, rfl, HA⟩ := hrel
    by_cases hlt : k < s.size
    · have hu : (s[k].toNat : Int) < 256 := by have := s[k].toNat_lt; omega
      have hc : (0 ≤ (s[k].toNat : Int) ∧ (s[k].toNat : Int) ≤ 44) ∨ (45 ≤ (s[k].toNat : Int) ∧ (s[k].toNat : Int) ≤ 45) ∨ (46 ≤ (s[k].toNat : Int) ∧ (s[k].toNat : Int) ≤ 46) ∨ (47 ≤ (s[k].toNat : Int) ∧ (s[k].toNat : Int) ≤ 47) ∨ (48 ≤ (s[k].toNat : Int) ∧ (s[k].toNat : Int) ≤ 57) ∨ (58 ≤ (s[k].toNat : Int) ∧ (s[k].toNat : Int) ≤ 64) ∨ (65 ≤ (s[k].toNat : Int) ∧ (s[k].toNat : Int) ≤ 90) ∨ (91 ≤ (s[k].toNat : Int) ∧ (s[k].toNat : Int) ≤ 94) ∨ (95 ≤ (s[k].toNat : Int) ∧ (s[k].toNat : Int) ≤ 95) ∨ (96 ≤ (s[k].toNat : Int) ∧ (s[k].toNat : Int) ≤ 96) ∨ (97 ≤ (s[k].toNat : Int) ∧ (s[k].toNat : Int) ≤ 122) ∨ (123 ≤ (s[k].toNat : Int) ∧ (s[k].toNat : Int) ≤ 255) := by omega
      clear hu
      rcases hc with ⟨c1, c2⟩ | ⟨c1, c2⟩ | ⟨c1, c2⟩ | ⟨c1, c2⟩ | ⟨c1, c2⟩ | ⟨c1, c2⟩ | ⟨c1, c2⟩ | ⟨c1, c2⟩ | ⟨c1, c2⟩ | ⟨c1, c2⟩ | ⟨c1, c2⟩ | ⟨c1, c2⟩
      all_goals
        first
          | (have hn := Lib.hid (nameC_f (c := s[k]) (by omega))
             have hf := Lib.hid (all_no s k hlt nameC hn.out)
             (first | (have p1 : decide ((s[k].toNat : Int) ≤ 57) = false := by (simp; omega)) | (have p1 : decide ((s[k].toNat : Int) ≤ 57) = true := by (simp; omega)))
             (first | (have p2 : decide ((s[k].toNat : Int) ≤ 90) = false := by (simp; omega)) | (have p2 : decide ((s[k].toNat : Int) ≤ 90) = true := by (simp; omega)))
             (first | (have p3 : decide ((s[k].toNat : Int) ≤ 122) = false := by (simp; omega)) | (have p3 : decide ((s[k].toNat : Int) ≤ 122) = true := by (simp; omega)))
             (first | (have q1 : ((s[k].toNat : Int) == 45) = false := by (simp; omega)) | (have q1 : ((s[k].toNat : Int) == 45) = true := by (simp; omega)))
             (first | (have q2 : ((s[k].toNat : Int) == 95) = false := by (simp; omega)) | (have q2 : ((s[k].toNat : Int) == 95) = true := by (simp; omega)))
             (first | (have q3 : ((s[k].toNat : Int) == 46) = false := by (simp; omega)) | (have q3 : ((s[k].toNat : Int) == 46) = true := by (simp; omega)))
             go_wp2
             go_ret
             exact ⟨ret_bool (by rw [← HV.out]; simp [isName, hf.out]), rfl⟩)
          | (have hn := Lib.hid (nameC_t (c := s[k]) (by omega))
             (first | (have p1 : decide ((s[k].toNat : Int) ≤ 57) = false := by (simp; omega)) | (have p1 : decide ((s[k].toNat : Int) ≤ 57) = true := by (simp; omega)))
             (first | (have p2 : decide ((s[k].toNat : Int) ≤ 90) = false := by (simp; omega)) | (have p2 : decide ((s[k].toNat : Int) ≤ 90) = true := by (simp; omega)))
             (first | (have p3 : decide ((s[k].toNat : Int) ≤ 122) = false := by (simp; omega)) | (have p3 : decide ((s[k].toNat : Int) ≤ 122) = true := by (simp; omega)))
             (first | (have q1 : ((s[k].toNat : Int) == 45) = false := by (simp; omega)) | (have q1 : ((s[k].toNat : Int) == 45) = true := by (simp; omega)))
             (first | (have q2 : ((s[k].toNat : Int) == 95) = false := by (simp; omega)) | (have q2 : ((s[k].toNat : Int) == 95) = true := by (simp; omega)))
             (first | (have q3 : ((s[k].toNat : Int) == 46) = false := by (simp; omega)) | (have q3 : ((s[k].toNat : Int) == 46) = true := by (simp; omega)))
             go_wp2
             go_round
             case rel => exact ⟨k + 1, by omega, by go_num, by unfold Hid; rw [all_snoc s k hlt, HA.out, hn.out]; rfl⟩
             case measure => simp [intOf]; omega)
    · have e : k = s.size := by omega
      have hall : s.data.toList.all nameC = true := by
        have := HA.out
        rwa [e, List.take_of_length_le (by simp)] at this
      have HL := Lib.hid hall
      clear hall e
      have hv : isName s = inR s.size 1 60 := by simp [isName, HL.out]
      have HV2 := Lib.hid hv
      clear hv
      refine (tf (decide ((1 : Int) ≤ (s.size : Int)))).elim (fun h1 => ?_) fun h1 => (tf (decide ((s.size : Int) ≤ 60))).elim (fun h2 => ?_) fun h2 => ?_
      all_goals
        go_wp2
        go_ret
        exact ⟨ret_bool (by rw [← HV.out, HV2.out]; simp only [inR, *]; try rfl), rfl⟩
end Go.Proofs.Ytnjplichhkmmhaa.CalW
/- Walks: zones.Validate and what it calls; the reference's names and turns. -/
namespace Go.Proofs.Ytnjplichhkmmhaa.CalW
open Go.RowKit Go.Proofs.Ytnjplichhkmmhaa.Base Go.Proofs.Ytnjplichhkmmhaa.Cal
set_option linter.unusedVariables false
set_option linter.unusedSimpArgs false

theorem zwithin_calls (n lo hi : Int) (w : World) :
    Calls Try.prog 35 #[.int .i64 n, .int .i64 lo, .int .i64 hi] w fun e w' => e = .returned (.bool (inR n lo hi)) ∧ w = w' := by
  by_cases h : lo ≤ n
  all_goals
    go_enter Try.func35, Try.ntmps35
    go_wp2
    go_ret
    exact ⟨by simp [inR, h]; try omega, rfl⟩
theorem zwithin_is {n lo hi : Int} {b : Bool} (h : inR n lo hi = b) (w : World) :
    Calls Try.prog 35 #[.int .i64 n, .int .i64 lo, .int .i64 hi] w fun e w' => e = .returned (.bool b) ∧ w = w' := h ▸ zwithin_calls n lo hi w
theorem zturn_calls (m k d t : Int) (w : World) :
    Calls Try.prog 36 #[.agg #[.int .i64 m, .int .i64 k, .int .i64 d, .int .i64 t]] w fun e w' => e = .returned (.bool (Turn.ok ⟨m, k, d, t⟩)) ∧ Below w.heap.size w w' := by
  have hu := Try.underlying23
  have hv : Turn.ok ⟨m, k, d, t⟩ = (inR m 1 12 && (inR k 1 5 && (inR d 0 6 && inR t 0 1439))) := rfl
  rw [hv]
  clear hv
  generalize h1 : inR m 1 12 = b1
  generalize h2 : inR k 1 5 = b2
  generalize h3 : inR d 0 6 = b3
  cases b1 <;> cases b2 <;> cases b3
  all_goals
    go_enter Try.func36, Try.ntmps36
    go_wp2_with (go_at_call 35; refine (zwithin_calls _ _ _ _).mono ?_; rintro e w' ⟨rfl, rfl⟩)
    go_ret
    exact ⟨by simp, below_al (Below.refl _ _) _⟩
theorem rturn_calls (m k d t : Int) (w : World) :
    Calls Try.prog 39 #[.agg #[.int .i64 m, .int .i64 k, .int .i64 d, .int .i64 t]] w fun e w' => e = .returned (.bool (Turn.ok ⟨m, k, d, t⟩)) ∧ Below w.heap.size w w' := by
  have hu := Try.underlying23
  have hv : Turn.ok ⟨m, k, d, t⟩ = (inR m 1 12 && (inR k 1 5 && (inR d 0 6 && inR t 0 1439))) := rfl
  rw [hv]
  clear hv
  generalize h1 : inR m 1 12 = b1
  generalize h2 : inR k 1 5 = b2
  generalize h3 : inR d 0 6 = b3
  cases b1 <;> cases b2 <;> cases b3
  all_goals
    go_enter Try.func39, Try.ntmps39
    go_wp2_with (go_at_call 24; refine (rIn_calls _ _ _ _).mono ?_; rintro e w' ⟨rfl, rfl⟩)
    go_ret
    exact ⟨by simp, below_al (Below.refl _ _) _⟩

set_option maxHeartbeats 2000000 in
theorem zoneName_calls (s : ByteArray) (w : World) (hs : s.size ≤ maxLen) :
    Calls Try.prog 37 #[.string s] w fun e w' => e = .returned (.bool (isName s)) ∧ w = w' := by
  unfold maxLen at hs
  generalize hv : isName s = v
  have HV := Lib.hid hv
  clear hv
  go_enter Try.func37, Try.ntmps37
  go_wp2
  go_loop [3] (fun i => ∃ k : Nat, k ≤ s.size ∧ i = .int .i64 k ∧ Hid ((s.data.toList.take k).all nameC = true)) (fun i => s.size - (intOf i).toNat)
  case atStart => exact ⟨0, Nat.zero_le _, rfl, by simp [Hid]⟩
  case round =>
    obtain ⟨k, hk, rfl, HA⟩ := hrel
    by_cases hlt : k < s.size
    · have hu : (s[k].toNat : Int) < 256 := by have := s[k].toNat_lt; omega
      have hc : (0 ≤ (s[k].toNat : Int) ∧ (s[k].toNat : Int) ≤ 44) ∨ (45 ≤ (s[k].toNat : Int) ∧ (s[k].toNat : Int) ≤ 45) ∨ (46 ≤ (s[k].toNat : Int) ∧ (s[k].toNat : Int) ≤ 46) ∨ (47 ≤ (s[k].toNat : Int) ∧ (s[k].toNat : Int) ≤ 47) ∨ (48 ≤ (s[k].toNat : Int) ∧ (s[k].toNat : Int) ≤ 57) ∨ (58 ≤ (s[k].toNat : Int) ∧ (s[k].toNat : Int) ≤ 64) ∨ (65 ≤ (s[k].toNat : Int) ∧ (s[k].toNat : Int) ≤ 90) ∨ (91 ≤ (s[k].toNat : Int) ∧ (s[k].toNat : Int) ≤ 94) ∨ (95 ≤ (s[k].toNat : Int) ∧ (s[k].toNat : Int) ≤ 95) ∨ (96 ≤ (s[k].toNat : Int) ∧ (s[k].toNat : Int) ≤ 96) ∨ (97 ≤ (s[k].toNat : Int) ∧ (s[k].toNat : Int) ≤ 122) ∨ (123 ≤ (s[k].toNat : Int) ∧ (s[k].toNat : Int) ≤ 255) := by omega
      rcases hc with ⟨c1, c2⟩ | ⟨c1, c2⟩ | ⟨c1, c2⟩ | ⟨c1, c2⟩ | ⟨c1, c2⟩ | ⟨c1, c2⟩ | ⟨c1, c2⟩ | ⟨c1, c2⟩ | ⟨c1, c2⟩ | ⟨c1, c2⟩ | ⟨c1, c2⟩ | ⟨c1, c2⟩
      all_goals
        first | (have i1 := inR_no (n := (s[k].toNat : Int)) (lo := 97) (hi := 122) (by omega)) | (have i1 := inR_mk (n := (s[k].toNat : Int)) (lo := 97) (hi := 122) (by omega) (by omega))
        first | (have i2 := inR_no (n := (s[k].toNat : Int)) (lo := 65) (hi := 90) (by omega)) | (have i2 := inR_mk (n := (s[k].toNat : Int)) (lo := 65) (hi := 90) (by omega) (by omega))
        first | (have i3 := inR_no (n := (s[k].toNat : Int)) (lo := 48) (hi := 57) (by omega)) | (have i3 := inR_mk (n := (s[k].toNat : Int)) (lo := 48) (hi := 57) (by omega) (by omega))
        first
          | (have hn := Lib.hid (nameC_f (c := s[k]) (by omega))
             have hf := Lib.hid (all_no s k hlt nameC hn.out)
             have q1 : ((s[k].toNat : Int) != 45) = true := by (simp; omega)
             have q2 : ((s[k].toNat : Int) != 95) = true := by (simp; omega)
             have q3 : ((s[k].toNat : Int) != 46) = true := by (simp; omega)
             go_wp2_with (go_at_call 24; refine (rIn_calls _ _ _ _).mono ?_; rintro e w' ⟨rfl, rfl⟩)
             go_ret
             exact ⟨ret_bool (by rw [← HV.out]; simp [isName, hf.out]), rfl⟩)
          | (have hn := Lib.hid (nameC_t (c := s[k]) (by omega))
             (first | (have q1 : ((s[k].toNat : Int) != 45) = true := by (simp; omega)) | (have q1 : ((s[k].toNat : Int) != 45) = false := by (simp; omega)))
             (first | (have q2 : ((s[k].toNat : Int) != 95) = true := by (simp; omega)) | (have q2 : ((s[k].toNat : Int) != 95) = false := by (simp; omega)))
             (first | (have q3 : ((s[k].toNat : Int) != 46) = true := by (simp; omega)) | (have q3 : ((s[k].toNat : Int) != 46) = false := by (simp; omega)))
             go_wp2_with (go_at_call 24; refine (rIn_calls _ _ _ _).mono ?_; rintro e w' ⟨rfl, rfl⟩)
             go_round
             case rel => exact ⟨k + 1, by omega, by go_num, by unfold Hid; rw [all_snoc s k hlt, HA.out, hn.out]; rfl⟩
             case measure => simp [intOf]; omega)
    · have e : k = s.size := by omega
      have hall : s.data.toList.all nameC = true := by
        have := HA.out
        rwa [e, List.take_of_length_le (by simp)] at this
      have HL := Lib.hid hall
      clear hall e
      go_wp2_with (go_at_call 24; refine (rIn_calls _ _ _ _).mono ?_; rintro e w' ⟨rfl, rfl⟩)
      go_ret
      exact ⟨ret_bool (by rw [← HV.out]; simp [isName, HL.out]), rfl⟩
end Go.Proofs.Ytnjplichhkmmhaa.CalW
/- Walk: zones.Validate. -/
namespace Go.Proofs.Ytnjplichhkmmhaa.CalW
open Go.RowKit Go.Proofs.Ytnjplichhkmmhaa.Base Go.Proofs.Ytnjplichhkmmhaa.Cal
set_option linter.unusedVariables false
set_option linter.unusedSimpArgs false

abbrev zval (z : Zone) : Value := .agg #[.string z.name, .int .i64 z.st, .int .i64 z.su, .int .i64 z.b.mo, .int .i64 z.b.wk, .int .i64 z.b.wd, .int .i64 z.b.mi, .int .i64 z.e.mo, .int .i64 z.e.wk, .int .i64 z.e.wd, .int .i64 z.e.mi]
attribute [local go_sem high] eqA23
set_option maxHeartbeats 4000000 in
set_option maxRecDepth 20000 in
theorem zvalidate_calls (z : Zone) (w : World) (hs : z.name.size ≤ maxLen) :
    Calls Try.prog 15 #[zval z] w fun e w' => e = .returned (.agg #[.int .i64 z.fault.1, .int .i64 z.fault.2]) ∧ Below w.heap.size w w' := by
  obtain ⟨nm, st, su, ⟨b0, b1, b2, b3⟩, ⟨e0, e1, e2, e3⟩⟩ := z
  dsimp only at *
  have hu25 := Try.underlying25
  have hu28 := Try.underlying28
  have hu23 := Try.underlying23
  generalize hf : Zone.fault ⟨nm, st, su, ⟨b0, b1, b2, b3⟩, ⟨e0, e1, e2, e3⟩⟩ = f
  have HF := Lib.hid hf
  clear hf
  go_enter Try.func15, Try.ntmps15
  go_upto_region 1 with fail
  have HZ := Lib.hid ((Bk.new w 25 #[.string nm, .int .i64 st, .int .i64 su, .int .i64 b0, .int .i64 b1, .int .i64 b2, .int .i64 b3, .int .i64 e0, .int .i64 e1, .int .i64 e2, .int .i64 e3]).al (.cells #[.int .i64 0, .int .i64 0] 28))
  have HE := Lib.hid (Bk.new' (n := w.heap.size + 1) (w.alloc (.cells #[.string nm, .int .i64 st, .int .i64 su, .int .i64 b0, .int .i64 b1, .int .i64 b2, .int .i64 b3, .int .i64 e0, .int .i64 e1, .int .i64 e2, .int .i64 e3] 25)) 28 #[.int .i64 0, .int .i64 0] (by simp))
  have HB := Lib.hid (below_al (below_al (Below.refl w.heap.size w) (.cells #[.string nm, .int .i64 st, .int .i64 su, .int .i64 b0, .int .i64 b1, .int .i64 b2, .int .i64 b3, .int .i64 e0, .int .i64 e1, .int .i64 e2, .int .i64 e3] 25)) (.cells #[.int .i64 0, .int .i64 0] 28))
  generalize (w.alloc (.cells #[.string nm, .int .i64 st, .int .i64 su, .int .i64 b0, .int .i64 b1, .int .i64 b2, .int .i64 b3, .int .i64 e0, .int .i64 e1, .int .i64 e2, .int .i64 e3] 25)).alloc (.cells #[.int .i64 0, .int .i64 0] 28) = w0 at *
  have cz := HZ.out.cell
  have ce := HE.out.cell
  have fe := HE.out.frozen
  refine (tf (isName nm)).elim (fun h1 => ?_) fun h1 => (tf (inR st (-900) 900)).elim (fun h2 => ?_) fun h2 => (tf (b0 == 0 && (b1 == 0 && (b2 == 0 && b3 == 0)))).elim (fun h3 => (tf (inR su (-900) 900)).elim (fun h6 => ?_) fun h6 => (tf (decide (su ≤ st))).elim (fun h7 => (tf (decide (st + 180 < su))).elim (fun h7' => (tf (Turn.ok ⟨b0, b1, b2, b3⟩)).elim (fun h8 => ?_) fun h8 => (tf (Turn.ok ⟨e0, e1, e2, e3⟩)).elim (fun h9 => ?_) fun h9 => (tf (b0 == e0)).elim (fun h10 => ?_) fun h10 => ?_) fun h7' => ?_) fun h7 => ?_) (fun h3 => (tf (su == 0)).elim (fun h4 => ?_) fun h4 => (tf (e0 == 0 && (e1 == 0 && (e2 == 0 && e3 == 0)))).elim (fun h5 => ?_) fun h5 => ?_)
  all_goals
    try have h21 := (inR_t h2).1
    try have h22 := (inR_t h2).2
    try have h71 : st < su := by simpa using h7
    try have h72 : su ≤ st + 180 := by simpa using h7'
    try have h73 : su ≤ st := by simpa using h7
    try have h74 : st + 180 < su := by simpa using h7'
    try have h41 : (su != 0) = true := by simpa using h4
    try have h42 : (su != 0) = false := by simpa using h4
    try have h51 : (!(e0 == 0) || (!(e1 == 0) || (!(e2 == 0) || !(e3 == 0)))) = true := by simpa using h5
    try have h52 : (!(e0 == 0) || (!(e1 == 0) || (!(e2 == 0) || !(e3 == 0)))) = false := by simpa using h5
    try have h43 : ¬ su = 0 := by simpa using h4
    try have h44 : 0 ≤ su ∧ su ≤ 0 := by (have : su = 0 := by simpa using h4); omega
    try have h53 : ¬ (e0 = 0 ∧ e1 = 0 ∧ e2 = 0 ∧ e3 = 0) := by simpa using h5
    try have h101 : ¬ b0 = e0 := by simpa using h10
    try (have h102 := eq_of_beq h10; subst h102)
    have hf := HF.out
    clear HF
    simp [Zone.fault, Turn.zero, *] at hf
    subst hf
    go_wp2_with (first | (go_at_call 34; refine (isName_calls nm _ hs).mono ?_; rintro e w' ⟨rfl, rfl⟩) | (go_at_call 35; refine (zwithin_calls _ _ _ _).mono ?_; rintro e w' ⟨rfl, rfl⟩) | (go_at_call 36; refine (zturn_calls _ _ _ _ _).mono ?_; rintro e w1 ⟨rfl, hb⟩; have KZ := Lib.hid (HZ.out.bel hb); have KE := Lib.hid (HE.out.bel hb); have KB := Lib.hid (below_go HB.out hb); clear cz ce fe HZ HE HB hb; have HZ := KZ; have HE := KE; have HB := KB; clear KZ KE KB; have cz := HZ.out.cell; have ce := HE.out.cell; have fe := HE.out.frozen))
    all_goals first | (exfalso; clear hs; omega) | exact bodyPost_ret (res_c Try.results15 rfl (by (with_reducible repeat (first | exact HE.out | apply Bk.al | apply Bk.put' | (apply Bk.far; case hp => (simp <;> omega)))); all_goals rfl) hu28 rfl (by kernel_rfl)) rfl ⟨rfl, by with_reducible repeat (first | exact HB.out | refine below_al ?_ _ | refine below_set ?_ (by simp <;> omega) _)⟩ | (exfalso; simp_all; done)
end Go.Proofs.Ytnjplichhkmmhaa.CalW
