import Derived.Test.YtnjplichhkmmhaaMa
/- Walks: lists of numbers: slices.Index, slices.Contains, Ints, Has. -/
namespace Go.Proofs.Ytnjplichhkmmhaa.CalW
open Go.RowKit Go.Proofs.Ytnjplichhkmmhaa.Base
set_option linter.unusedVariables false
set_option linter.unusedSimpArgs false

/-- the place of the first n, or -1. -/
def idxI (l : List Int) (n : Int) : Int := match l.findIdx? (· == n) with | some i => (i : Int) | none => -1
theorem idxI_none {l : List Int} {n : Int} (h : l.contains n = false) : idxI l n = -1 := by
  unfold idxI
  have : l.findIdx? (· == n) = none := by
    rw [List.findIdx?_eq_none_iff]
    intro x hx
    cases hc : x == n
    · rfl
    · have := eq_of_beq hc
      subst this
      have : l.contains x = true := by simpa using hx
      rw [h] at this; cases this
  rw [this]
theorem idxI_at {l : List Int} {n : Int} {k : Nat} (hk : k < l.length) (h : (l.take k).contains n = false) (hn : l[k] = n) : idxI l n = (k : Int) := by
  unfold idxI
  have : l.findIdx? (· == n) = some k := by
    rw [List.findIdx?_eq_some_iff_getElem]
    refine ⟨hk, by simp [hn], fun j hj => ?_⟩
    cases hc : l[j] == n
    · simp [hc]
    · have e := eq_of_beq hc
      have : (l.take k).contains n = true := by
        rw [List.contains_iff_mem]
        rw [← e, List.mem_take_iff_getElem]
        exact ⟨j, by omega, rfl⟩
      rw [h] at this; cases this
  rw [this]
theorem idxI_has (l : List Int) (n : Int) : decide (0 ≤ idxI l n) = l.contains n := by
  unfold idxI
  cases h : l.findIdx? (· == n) with
  | none =>
    rw [List.findIdx?_eq_none_iff] at h
    have : l.contains n = false := by
      rw [← Bool.not_eq_true, List.contains_iff_mem]
      intro hm
      have := h n hm
      simp at this
    rw [this]; simp
  | some k =>
    rw [List.findIdx?_eq_some_iff_getElem] at h
    obtain ⟨hk, hp, _⟩ := h
    have : l.contains n = true := by
      rw [List.contains_iff_mem]
      have e := eq_of_beq hp
      rw [← e]; exact List.getElem_mem _
    rw [this]; simp
theorem take_no {l : List Int} {n : Int} {k : Nat} (hk : k < l.length) (h : (l.take k).contains n = false) (hn : ¬ l[k] = n) : (l.take (k + 1)).contains n = false := by
  rw [List.take_succ_eq_append_getElem hk]
  rw [← Bool.not_eq_true, List.contains_iff_mem] at h ⊢
  simp only [List.mem_append, List.mem_singleton, not_or]
  exact ⟨h, fun e => hn e.symm⟩
set_option maxHeartbeats 1000000 in
theorem index_calls (A : Option Addr) (l : List Int) (c : Nat) (n : Int) (w : World) (h : Rd w iv A l) (hl : l.length ≤ maxLen) :
    Calls Try.prog 74 #[.slice A l.length c, .int .i64 n] w fun e w' => e = .returned (.int .i64 (idxI l n)) ∧ w = w' := by
  unfold maxLen at hl
  generalize hv : idxI l n = v
  have HV := Lib.hid hv
  have HR := Lib.hid h
  clear hv h
  go_enter Try.func74, Try.ntmps74
  go_wp2
  go_loop [8] (fun i => ∃ k : Nat, k ≤ l.length ∧ i = .int .i64 k ∧ Hid ((l.take k).contains n = false)) (fun i => l.length - (intOf i).toNat)
  case atStart => exact ⟨0, Nat.zero_le _, rfl, by simp [Hid]⟩
  case round =>
    obtain ⟨k, hk, rfl, HA⟩ := hrel
    by_cases hlt : k < l.length
    · obtain ⟨ad, rfl, hb, hc⟩ := HR.out.at_ hlt
      clear hb
      by_cases hn : l[k] = n
      · have hi := idxI_at hlt HA.out hn
        have HI := Lib.hid hi
        have hq : (n == l[k]) = true := by simp [hn]
        have HN := Lib.hid hn
        clear hi hn
        go_wp2
        go_ret
        exact ⟨ret_int (by rw [← HV.out, HI.out]), rfl⟩
      · have hs := take_no hlt HA.out hn
        have HS := Lib.hid hs
        have hq : (n == l[k]) = false := by simpa using fun e => hn (Eq.symm e)
        clear hs hn
        go_wp2
        go_round
        case rel => exact ⟨k + 1, by omega, by go_num, HS⟩
        case measure => simp [intOf]; omega
    · have hf : l.contains n = false := by
        have := HA.out
        rwa [List.take_of_length_le (by omega)] at this
      have HF := Lib.hid (idxI_none hf)
      clear hf
      go_wp2
      go_ret
      exact ⟨ret_int (by rw [← HV.out, HF.out]), rfl⟩
theorem contains_calls (A : Option Addr) (l : List Int) (c : Nat) (n : Int) (w : World) (h : Rd w iv A l) (hl : l.length ≤ maxLen) :
    Calls Try.prog 59 #[.slice A l.length c, .int .i64 n] w fun e w' => e = .returned (.bool (l.contains n)) ∧ w = w' := by
  have hi := idxI_has l n
  have HI := Lib.hid hi
  have HR := Lib.hid h
  clear hi h
  go_enter Try.func59, Try.ntmps59
  go_wp2_with (go_at_call 74; refine (index_calls A l c n _ HR.out hl).mono ?_; rintro e w' ⟨rfl, rfl⟩)
  go_ret
  exact ⟨ret_bool HI.out, rfl⟩
theorem contains_is {A : Option Addr} {l : List Int} {c : Nat} {n : Int} {w : World} {b : Bool} (hb : l.contains n = b) (h : Rd w iv A l) (hl : l.length ≤ maxLen) :
    Calls Try.prog 59 #[.slice A l.length c, .int .i64 n] w fun e w' => e = .returned (.bool b) ∧ w = w' := hb ▸ contains_calls A l c n w h hl
set_option maxHeartbeats 1000000 in
theorem has_calls (A : Option Addr) (l : List Int) (c : Nat) (n : Int) (w : World) (h : Rd w iv A l) (hl : l.length ≤ maxLen) :
    Calls Try.prog 26 #[.slice A l.length c, .int .i64 n] w fun e w' => e = .returned (.bool (l.contains n)) ∧ w = w' := by
  unfold maxLen at hl
  generalize hv : l.contains n = v
  have HV := Lib.hid hv
  have HR := Lib.hid h
  clear hv h
  go_enter Try.func26, Try.ntmps26
  go_wp2
  go_loop [5] (fun i => ∃ k : Nat, k ≤ l.length ∧ i = .int .i64 k ∧ Hid ((l.take k).contains n = false)) (fun i => l.length - (intOf i).toNat)
  case atStart => exact ⟨0, Nat.zero_le _, rfl, by simp [Hid]⟩
  case round =>
    obtain ⟨k, hk, rfl, HA⟩ := hrel
    by_cases hlt : k < l.length
    · obtain ⟨ad, rfl, hb, hc⟩ := HR.out.at_ hlt
      clear hb
      by_cases hn : l[k] = n
      · have hi : l.contains n = true := by rw [List.contains_iff_mem, ← hn]; exact List.getElem_mem _
        have HI := Lib.hid hi
        have hq : (l[k] == n) = true := by simp [hn]
        clear hi hn
        go_wp2
        go_ret
        exact ⟨ret_bool (by rw [← HV.out, HI.out]), rfl⟩
      · have hs := take_no hlt HA.out hn
        have HS := Lib.hid hs
        have hq : (l[k] == n) = false := by simpa using hn
        clear hs hn
        go_wp2
        go_round
        case rel => exact ⟨k + 1, by omega, by go_num, HS⟩
        case measure => simp [intOf]; omega
    · have hf : l.contains n = false := by
        have := HA.out
        rwa [List.take_of_length_le (by omega)] at this
      have HF := Lib.hid hf
      clear hf
      go_wp2
      go_ret
      exact ⟨ret_bool (by rw [← HV.out, HF.out]), rfl⟩
theorem ints_eq {a b : List Int} (h : a.length = b.length) {k : Nat} (hk : k < a.length) (h1 : a.take k = b.take k) (h2 : a[k] = b[k]) : a.take (k + 1) = b.take (k + 1) := by
  rw [List.take_succ_eq_append_getElem hk, List.take_succ_eq_append_getElem (by omega), h1, h2]
set_option maxHeartbeats 1000000 in
theorem ints_calls (A B : Option Addr) (a b : List Int) (c d : Nat) (w : World) (h : Rd w iv A a) (h' : Rd w iv B b) (hl : a.length ≤ maxLen) (hl' : b.length ≤ maxLen) :
    Calls Try.prog 21 #[.slice A a.length c, .slice B b.length d] w fun e w' => e = .returned (.bool (decide (a = b))) ∧ Below w.heap.size w w' := by
  unfold maxLen at hl hl'
  generalize hv : decide (a = b) = v
  have HV := Lib.hid hv
  have HR := Lib.hid h
  have HR' := Lib.hid h'
  clear hv h h'
  by_cases hlen : a.length = b.length
  · have hq : ((a.length : Int) != (b.length : Int)) = false := by simp [hlen]
    have HL := Lib.hid hlen
    have hlen1 : a.length ≤ b.length := by omega
    have hlen2 : b.length ≤ a.length := by omega
    clear hlen
    go_enter Try.func21, Try.ntmps21
    go_wp2
    go_loopw [5] (fun i wr => ∃ k : Nat, k ≤ a.length ∧ i = .int .i64 k ∧ Hid (a.take k = b.take k) ∧ Hid (Below w.heap.size w wr)) (fun i _ => a.length - (intOf i).toNat)
    case atStart => exact ⟨0, Nat.zero_le _, rfl, by simp [Hid], Lib.hid (Below.refl _ _)⟩
    case round =>
      obtain ⟨k, hk, rfl, HA, HB⟩ := hrel
      by_cases hlt : k < a.length
      · have hlt' : k < b.length := by omega
        have i1 : (0 : Int) ≤ (k : Int) := by omega
        have i2 : (k : Int) < (a.length : Int) := by omega
        have i3 : (k : Int) < (b.length : Int) := by omega
        obtain ⟨ad, rfl, hb, -⟩ := HR.out.at_ hlt
        obtain ⟨bd, rfl, hb', -⟩ := HR'.out.at_ hlt'
        clear hb hb'
        go_wp2_with fail
        refine wp_region_bel (by kernel_rfl) (by kernel_rfl) ?_
        have cs : ∀ s : Bel wr, s.w.cell? (ad.add k) = some (.int .i64 a[k]) := fun s => by
          obtain ⟨ad', e, _, hc⟩ := ((HR.out.bel HB.out).bel s.below).at_ hlt
          injection e with e; subst e; exact hc
        have cs' : ∀ s : Bel wr, s.w.cell? (bd.add k) = some (.int .i64 b[k]) := fun s => by
          obtain ⟨ad', e, _, hc⟩ := ((HR'.out.bel HB.out).bel s.below).at_ hlt'
          injection e with e; subst e; exact hc
        repeat (go_big_quiet_step (fail))
        refine wpQuiet_nil ?_
        rintro _ ⟨s0, rfl⟩
        have hb0 := Lib.hid (below_go HB.out s0.below)
        generalize s0.w = w1 at *
        clear s0 cs cs'
        by_cases hn : a[k] = b[k]
        · have hq : (a[k] != b[k]) = false := by simp [hn]
          have HS := Lib.hid (ints_eq HL.out hlt HA.out hn)
          clear hn
          go_wp2
          go_roundw
          case rel => exact ⟨k + 1, by omega, by go_num, HS, hb0⟩
          case measure => simp [intOf]; omega
        · have hq : (a[k] != b[k]) = true := by simp [hn]
          have hf : ¬ a = b := fun e => hn (by subst e; rfl)
          have HF := Lib.hid hf
          clear hn hf
          go_wp2
          go_ret
          exact ⟨ret_bool (by rw [← HV.out]; simp [HF.out]), hb0.out⟩
      · have he : a = b := by
          have := HA.out
          rwa [List.take_of_length_le (by omega), List.take_of_length_le (by omega)] at this
        have HE := Lib.hid he
        clear he
        go_wp2
        go_ret
        exact ⟨ret_bool (by rw [← HV.out]; simp [HE.out]), HB.out⟩
  · have hq : ((a.length : Int) != (b.length : Int)) = true := by simp; omega
    have hf : ¬ a = b := fun e => hlen (by rw [e])
    have HF := Lib.hid hf
    clear hf
    go_enter Try.func21, Try.ntmps21
    go_wp2
    go_ret
    exact ⟨ret_bool (by rw [← HV.out]; simp [HF.out]), Below.refl _ _⟩
end Go.Proofs.Ytnjplichhkmmhaa.CalW
