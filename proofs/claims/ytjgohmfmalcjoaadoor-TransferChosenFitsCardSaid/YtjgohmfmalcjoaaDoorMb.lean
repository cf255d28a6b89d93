import Derived.Test.YtjgohmfmalcjoaaDoorMa
/- Plain: bytes and letters. -/
namespace Go.Proofs.YtjgohmfmalcjoaaDoor.Tr
open Go.RowKit Go.Proofs.YtjgohmfmalcjoaaDoor.Base
set_option linter.unusedVariables false
set_option linter.unusedSimpArgs false
/-- a byte in memory. -/
abbrev bv (b : UInt8) : Value := .int .u8 (b.toNat : Int)
def inR (n lo hi : Int) : Bool := decide (lo ≤ n) && decide (n ≤ hi)
theorem inR_t {n lo hi : Int} (h : inR n lo hi = true) : lo ≤ n ∧ n ≤ hi := by simpa [inR] using h
theorem inR_f {n lo hi : Int} (h : inR n lo hi = false) : n < lo ∨ hi < n := by
  simp [inR] at h; omega
theorem inR_mk {n lo hi : Int} (h : lo ≤ n) (h' : n ≤ hi) : inR n lo hi = true := by simp [inR, h, h']
theorem tf (c : Bool) : c = false ∨ c = true := by cases c <;> simp
theorem u8_lt (c : UInt8) : (c.toNat : Int) < 256 := by have := c.toNat_lt; omega
theorem u8_nat (c : UInt8) : c.toNat < 256 := c.toNat_lt
/-- a letter in lower case. -/
def lowC (c : UInt8) : UInt8 := if 65 ≤ c.toNat ∧ c.toNat ≤ 90 then c + 32 else c
theorem lowC_up {c : UInt8} (h1 : 65 ≤ c.toNat) (h2 : c.toNat ≤ 90) : ((lowC c).toNat : Int) = (c.toNat : Int) + 32 := by
  unfold lowC
  rw [if_pos ⟨h1, h2⟩, UInt8.toNat_add]
  have : (32 : UInt8).toNat = 32 := rfl
  rw [this]
  omega
theorem lowC_no {c : UInt8} (h : c.toNat < 65 ∨ 90 < c.toNat) : lowC c = c := by unfold lowC; rw [if_neg (by omega)]
def lowL (s : ByteArray) : List UInt8 := s.data.toList.map lowC
def lowS (s : ByteArray) : ByteArray := ⟨(lowL s).toArray⟩
theorem lowL_len (s : ByteArray) : (lowL s).length = s.size := by unfold lowL; simp
theorem lowL_at (s : ByteArray) (k : Nat) (h : k < s.size) : (lowL s)[k]? = some (lowC s[k]) := by
  unfold lowL
  rw [List.getElem?_map, List.getElem?_eq_getElem (by simpa using h)]
  rfl
/-- alike but for the case of letters. -/
def alike (a b : ByteArray) : Bool := lowL a == lowL b
theorem alike_len {a b : ByteArray} (h : a.size ≠ b.size) : alike a b = false := by
  unfold alike
  rw [beq_eq_false_iff_ne]
  intro e
  have := congrArg List.length e
  rw [lowL_len, lowL_len] at this
  exact h this
theorem alike_no {a b : ByteArray} {k : Nat} (ha : k < a.size) (hb : k < b.size) (h : lowC a[k] ≠ lowC b[k]) : alike a b = false := by
  unfold alike
  rw [beq_eq_false_iff_ne]
  intro e
  have := congrArg (·[k]?) e
  simp only [lowL_at a k ha, lowL_at b k hb, Option.some.injEq] at this
  exact h this
theorem alike_yes {a b : ByteArray} (hs : a.size = b.size) (h : ∀ k (ha : k < a.size) (hb : k < b.size), lowC a[k] = lowC b[k]) : alike a b = true := by
  unfold alike
  rw [beq_iff_eq]
  apply List.ext_getElem?
  intro k
  by_cases hk : k < a.size
  · rw [lowL_at a k hk, lowL_at b k (by omega), h k hk (by omega)]
  · rw [List.getElem?_eq_none (by rw [lowL_len]; omega), List.getElem?_eq_none (by rw [lowL_len]; omega)]
/-- the names of encodings. -/
def nm7 : ByteArray := ⟨#[55, 98, 105, 116]⟩
def nm8 : ByteArray := ⟨#[56, 98, 105, 116]⟩
def nm64 : ByteArray := ⟨#[98, 97, 115, 101, 54, 52]⟩
def nmQ : ByteArray := ⟨#[113, 117, 111, 116, 101, 100, 45, 112, 114, 105, 110, 116, 97, 98, 108, 101]⟩
def codingOf (n : ByteArray) : Int := if alike nm7 n = true then 0 else if alike nm8 n = true then 1 else if alike nm64 n = true then 2 else if alike nmQ n = true then 3 else -1
end Go.Proofs.YtjgohmfmalcjoaaDoor.Tr
/- Walks: letters without regard to case. -/
namespace Go.Proofs.YtjgohmfmalcjoaaDoor.TrW
open Go.RowKit Go.Proofs.YtjgohmfmalcjoaaDoor.Base Go.Proofs.YtjgohmfmalcjoaaDoor.Tr
set_option linter.unusedVariables false
set_option linter.unusedSimpArgs false
theorem rIn_calls (n lo hi : Int) (w : World) :
    Calls Tryd.prog 67 #[.int .i64 n, .int .i64 lo, .int .i64 hi] w fun e w' => e = .returned (.bool (inR n lo hi)) ∧ w = w' := by
  by_cases h : lo ≤ n
  all_goals
    go_enter Tryd.func67, Tryd.ntmps67
    go_wp2
    go_ret
    exact ⟨by simp [inR, h]; try omega, rfl⟩
theorem rIn_is {n lo hi : Int} {b : Bool} (h : inR n lo hi = b) (w : World) :
    Calls Tryd.prog 67 #[.int .i64 n, .int .i64 lo, .int .i64 hi] w fun e w' => e = .returned (.bool b) ∧ w = w' := h ▸ rIn_calls n lo hi w
theorem rAt_calls (c i : Int) (w : World) :
    Calls Tryd.prog 15 #[.int .i64 c, .int .i64 i] w fun e w' => e = .returned (.agg #[.int .i64 c, .int .i64 i]) ∧ Below w.heap.size w w' := by
  have hu := Tryd.underlying25
  go_enter Tryd.func15, Tryd.ntmps15
  go_wp2
  exact bodyPost_ret (by simp [results, Tryd.results15, go_sem]) rfl ⟨rfl, by with_reducible repeat (first | exact Below.refl _ _ | refine below_al ?_ _)⟩
set_option maxRecDepth 20000 in
theorem lower_calls (c : UInt8) (w : World) :
    Calls Tryd.prog 90 #[bv c] w fun e w' => e = .returned (bv (lowC c)) ∧ w = w' := by
  have hu := u8_lt c
  rcases Nat.lt_or_ge c.toNat 65 with h1 | h1
  · have e := lowC_no (c := c) (.inl h1)
    rw [e]
    have g1 : (c.toNat : Int) < 65 := by omega
    clear h1 e
    go_enter Tryd.func90, Tryd.ntmps90
    go_wp2
    go_ret
    exact ⟨rfl, rfl⟩
  · rcases Nat.lt_or_ge 90 c.toNat with h2 | h2
    · have e := lowC_no (c := c) (.inr h2)
      rw [e]
      have g1 : 65 ≤ (c.toNat : Int) := by omega
      have g2 : 90 < (c.toNat : Int) := by omega
      clear h1 h2 e
      go_enter Tryd.func90, Tryd.ntmps90
      go_wp2
      go_ret
      exact ⟨rfl, rfl⟩
    · have e := lowC_up h1 h2
      have g1 : 65 ≤ (c.toNat : Int) := by omega
      have g2 : (c.toNat : Int) ≤ 90 := by omega
      clear h1 h2
      generalize lowC c = x at *
      go_enter Tryd.func90, Tryd.ntmps90
      go_wp2
      go_ret
      exact ⟨ret_int (by omega), rfl⟩
set_option maxHeartbeats 1000000 in
set_option maxRecDepth 20000 in
theorem same_calls (a b : ByteArray) (w : World) (ha : a.size ≤ maxLen) (hb : b.size ≤ maxLen) :
    Calls Tryd.prog 60 #[.string a, .string b] w fun e w' => e = .returned (.bool (alike a b)) ∧ Below w.heap.size w w' := by
  unfold maxLen at ha hb
  by_cases hs : a.size = b.size
  · have g0 : ((a.size : Int) != (b.size : Int)) = false := by simp [hs]
    generalize hv : alike a b = v
    have HV := Lib.hid hv
    clear hv
    go_enter Tryd.func60, Tryd.ntmps60
    go_upto_region 4 with fail
    go_loopw [13] (fun s13 wr => ∃ k : Nat, k ≤ a.size ∧ s13 = .int .i64 k ∧ Hid (∀ j (h1 : j < a.size) (h2 : j < b.size), j < k → lowC a[j] = lowC b[j]) ∧ Hid (Below w.heap.size w wr)) (fun s13 _ => a.size - (intOf s13).toNat)
    case atStart => exact ⟨0, by omega, rfl, Lib.hid (fun j h1 h2 h => by omega), Lib.hid (Below.refl _ _)⟩
    case round =>
      obtain ⟨k, hk, rfl, HA, HB⟩ := hrel
      by_cases hlt : k < a.size
      · have hlt2 : k < b.size := by omega
        have i1 : (0 : Int) ≤ (k : Int) := by omega
        have i2 : (k : Int) < (a.size : Int) := by omega
        have i3 : (k : Int) < (b.size : Int) := by omega
        go_upto_region 6 with fail
        refine wp_region_bel (by kernel_rfl) (by kernel_rfl) ?_
        by_cases hc : lowC a[k] = lowC b[k]
        · have q1 : (((lowC a[k]).toNat : Int) != ((lowC b[k]).toNat : Int)) = false := by rw [hc]; simp
          repeat (go_big_quiet_step ((go_at_call 90; exact bel_eq (lower_calls _ _))))
          refine wpQuiet_nil ?_
          rintro _ ⟨s0, rfl⟩
          have hb2 := Lib.hid (below_go HB.out s0.below)
          generalize s0.w = w2 at *
          go_wp2
          exact ⟨⟨k + 1, by omega, by go_num, Lib.hid (fun j h1 h2 h => by
            rcases Nat.lt_or_ge j k with h3 | h3
            · exact HA.out j h1 h2 h3
            · have : j = k := by omega
              subst this
              exact hc), hb2⟩, by simp [intOf]; omega⟩
        · have q1 : (((lowC a[k]).toNat : Int) != ((lowC b[k]).toNat : Int)) = true := by
            simp only [bne_iff_ne, ne_eq]
            intro h
            exact hc (UInt8.toNat_inj.1 (by omega))
          have hv := alike_no hlt hlt2 hc
          rw [HV.out] at hv
          subst hv
          repeat (go_big_quiet_step ((go_at_call 90; exact bel_eq (lower_calls _ _))))
          refine wpQuiet_nil ?_
          rintro _ ⟨s0, rfl⟩
          have hb2 := Lib.hid (below_go HB.out s0.below)
          generalize s0.w = w2 at *
          go_wp2
          go_ret
          exact ⟨rfl, hb2.out⟩
      · have hv := alike_yes hs (fun j h1 h2 => HA.out j h1 h2 (by omega))
        rw [HV.out] at hv
        subst hv
        go_wp2
        go_ret
        exact ⟨rfl, HB.out⟩
  · have g0 : ((a.size : Int) != (b.size : Int)) = true := by simp; omega
    rw [alike_len hs]
    clear hs
    go_enter Tryd.func60, Tryd.ntmps60
    go_wp2
    go_ret
    exact ⟨rfl, Below.refl _ _⟩
end Go.Proofs.YtjgohmfmalcjoaaDoor.TrW
