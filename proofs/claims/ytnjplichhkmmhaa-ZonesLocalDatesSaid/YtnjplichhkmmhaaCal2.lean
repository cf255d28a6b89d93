/- Plain laws: turns. -/
import Derived.Test.YtnjplichhkmmhaaCal
namespace Go.Proofs.Ytnjplichhkmmhaa.Cal
set_option linter.unusedVariables false

theorem Turn.ok_bd {t : Turn} (h : t.ok = true) : 1 ≤ t.mo ∧ t.mo ≤ 12 ∧ 1 ≤ t.wk ∧ t.wk ≤ 5 ∧ 0 ≤ t.wd ∧ t.wd ≤ 6 ∧ 0 ≤ t.mi ∧ t.mi ≤ 1439 := by
  unfold Turn.ok at h
  simp only [Bool.and_eq_true] at h
  obtain ⟨h1, h2, h3, h4⟩ := h
  have := inR_t h1
  have := inR_t h2
  have := inR_t h3
  have := inR_t h4
  omega
theorem wday_bd (y m d : Int) : 0 ≤ wday y m d ∧ wday y m d ≤ 6 := by unfold wday; omega
theorem tday_bd {t : Turn} (h : t.ok = true) (y : Int) : 1 ≤ tday t y ∧ tday t y ≤ 31 := by
  have b := Turn.ok_bd h
  have m := mlen_bd y t.mo
  unfold tday
  split <;> omega
/-- a turn's day lies in its month, at its weekday, and is told by that. -/
theorem wday_add (y m d k : Int) : wday y m (d + k) = (wday y m d + k) % 7 := by unfold wday dnum; omega
/-- a zone whose turns can be reckoned. -/
def Zone.good (z : Zone) : Prop := z.b.zero = true ∨ (z.b.ok = true ∧ z.e.ok = true ∧ -900 ≤ z.st ∧ z.st ≤ 900 ∧ -900 ≤ z.su ∧ z.su ≤ 900)
theorem Zone.good_of {z : Zone} (h : z.fault = (0, 0)) : z.good := by
  unfold Zone.fault at h
  split at h
  · simp at h
  split at h
  · simp at h
  rename_i hst
  split at h
  · exact .inl ‹_›
  split at h
  · simp at h
  rename_i hsu
  split at h
  · simp at h
  split at h
  · simp at h
  have h1 := inR_t (by simpa using hst)
  have h2 : inR z.su (-900) 900 = true := by
    cases hc : inR z.su (-900) 900
    · exact absurd (.inl hc) hsu
    · rfl
  have h2 := inR_t h2
  refine .inr ⟨by simpa using ‹¬z.b.ok = false›, by simpa using ‹¬z.e.ok = false›, h1.1, h1.2, h2.1, h2.2⟩
def curTo (z : Zone) (t y : Int) : Nat → Int × Int
  | 0 => (z.st, -4611686018427387904)
  | k + 1 => stepY z t (y - 1 + k) (curTo z t y k)
theorem cur_to (z : Zone) (t y : Int) (h : z.b.zero = false) : cur z t y = (curTo z t y 3).1 := by
  unfold cur
  rw [if_neg (by simp [h])]
  simp only [curTo]
  have e1 : y - 1 + ((0 : Nat) : Int) = y - 1 := by omega
  have e2 : y - 1 + ((1 : Nat) : Int) = y := by omega
  have e3 : y - 1 + ((2 : Nat) : Int) = y + 1 := by omega
  rw [e1, e2, e3]
theorem stepB_t {z : Zone} {t n : Int} {p : Int × Int} (h : n ≤ t) (h' : p.2 < n) : stepB z t n p = (z.su, n) := if_pos ⟨h, h'⟩
theorem stepB_f {z : Zone} {t n : Int} {p : Int × Int} (h : t < n ∨ n ≤ p.2) : stepB z t n p = p := if_neg (by omega)
theorem stepE_t {z : Zone} {t n : Int} {p : Int × Int} (h : n ≤ t) (h' : p.2 ≤ n) : stepE z t n p = (z.st, n) := if_pos ⟨h, h'⟩
theorem stepE_f {z : Zone} {t n : Int} {p : Int × Int} (h : t < n ∨ n < p.2) : stepE z t n p = p := if_neg (by omega)
theorem Zone.st_of {z : Zone} (h : z.fault = (0, 0)) : -900 ≤ z.st ∧ z.st ≤ 900 := by
  unfold Zone.fault at h
  split at h
  · simp at h
  split at h
  · simp at h
  rename_i hst
  exact inR_t (by simpa using hst)
theorem Zone.name_of {z : Zone} (h : z.fault = (0, 0)) : isName z.name = true := by
  unfold Zone.fault at h
  split at h
  · simp at h
  · simpa using ‹¬isName z.name = false›
/-- what Offset hands back. -/
def offR (z : Zone) (t : Int) : Int × (Int × Int) :=
  if z.fault ≠ (0, 0) then (0, z.fault)
  else if chk t ≠ (0, 0) then (0, chk t)
  else if inR (civ t z.st).y 2 3999 = false then (0, (3, -8))
  else (cur z t (civ t z.st).y, (0, 0))
theorem chk_of {t : Int} (h : chk t = (0, 0)) : -68719476736 ≤ t ∧ t ≤ 68719476736 := by
  unfold chk at h
  split at h
  · exact inR_t ‹_›
  · simp at h
/-- '==' of faults, as the walk has it. -/
theorem pair_no {k : Int × Int} (h : k ≠ (0, 0)) : (k.1 == 0 && k.2 == 0) = false := by
  obtain ⟨a, b⟩ := k
  simp at h ⊢
  exact h
theorem pair_no' {k : Int × Int} (h : k ≠ (0, 0)) : (!(k.1 == 0) || !(k.2 == 0)) = true := by
  obtain ⟨a, b⟩ := k
  simp at h ⊢
  by_cases h1 : a = 0
  · exact .inr (h h1)
  · exact .inl h1
end Go.Proofs.Ytnjplichhkmmhaa.Cal
