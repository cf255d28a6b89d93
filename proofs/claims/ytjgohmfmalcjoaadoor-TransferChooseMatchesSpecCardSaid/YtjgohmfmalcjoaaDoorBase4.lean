/- The first code that is not zero; lists of instants. -/
import Derived.Test.YtjgohmfmalcjoaaDoorBase3
namespace Go.Proofs.YtjgohmfmalcjoaaDoor.Base
open Go.RowKit
set_option linter.unusedVariables false
/-- the first of f 0 .. f (n - 1) that is not 0. -/
def firstC (f : Nat → Int) : Nat → Int
  | 0 => 0
  | n + 1 => if firstC f n ≠ 0 then firstC f n else f n
theorem firstC_step {f : Nat → Int} {k : Nat} (h : firstC f k = 0) : firstC f (k + 1) = f k := by
  show (if firstC f k ≠ 0 then _ else _) = _
  rw [if_neg (by rw [h]; simp)]
theorem firstC_stop {f : Nat → Int} {k : Nat} (h : firstC f k ≠ 0) : ∀ n, k ≤ n → firstC f n = firstC f k
  | n, hk => by
    rcases Nat.lt_or_ge k n with hlt | hge
    · obtain ⟨m, rfl⟩ : ∃ m, n = m + 1 := ⟨n - 1, by omega⟩
      have ih := firstC_stop h m (by omega)
      show (if firstC f m ≠ 0 then _ else _) = _
      rw [if_pos (by rw [ih]; exact h), ih]
    · have : n = k := by omega
      rw [this]
theorem firstC_at {f : Nat → Int} {k n : Nat} (h : firstC f k = 0) (hk : k < n) (hf : f k ≠ 0) : firstC f n = f k := by
  have e := firstC_step h
  rw [firstC_stop (k := k + 1) (by rw [e]; exact hf) n (by omega), e]
theorem firstC_congr {f g : Nat → Int} : ∀ n, (∀ k, k < n → f k = g k) → firstC f n = firstC g n
  | 0, _ => rfl
  | n + 1, h => by
    show (if firstC f n ≠ 0 then _ else _) = (if firstC g n ≠ 0 then _ else _)
    rw [firstC_congr n (fun k hk => h k (by omega)), h n (by omega)]
/-- the code of element k of a list that is to increase within bounds. -/
def incC (lo hi : Int) (l : List Int) (k : Nat) : Int :=
  match l[k]? with
  | none => 0
  | some t => if t < lo ∨ hi < t then 3 else match (if k = 0 then none else l[k - 1]?) with
    | none => 0
    | some q => if t ≤ q then 19 else 0
theorem incC_out {lo hi : Int} {l : List Int} {k : Nat} (hk : k < l.length) (h : l[k] < lo ∨ hi < l[k]) : incC lo hi l k = 3 := by
  unfold incC
  rw [List.getElem?_eq_getElem hk]
  dsimp only
  rw [if_pos h]
theorem incC_zero {lo hi : Int} {l : List Int} (hk : 0 < l.length) (h1 : lo ≤ l[0]) (h2 : l[0] ≤ hi) : incC lo hi l 0 = 0 := by
  unfold incC
  rw [List.getElem?_eq_getElem hk]
  dsimp only
  rw [if_neg (by omega), if_pos rfl]
theorem incC_in {lo hi : Int} {l : List Int} {k : Nat} (hk : k < l.length) (h0 : 0 < k) (h1 : lo ≤ l[k]) (h2 : l[k] ≤ hi) : incC lo hi l k = if l[k] ≤ l[k - 1] then 19 else 0 := by
  unfold incC
  rw [List.getElem?_eq_getElem hk]
  dsimp only
  rw [if_neg (by omega), if_neg (by omega), List.getElem?_eq_getElem (by omega)]
/-- a list without a code increases, and lies within the bounds. -/
theorem incC_ok {lo hi : Int} {l : List Int} : ∀ n, n ≤ l.length → firstC (incC lo hi l) n = 0 → (∀ k (hk : k < l.length), k < n → lo ≤ l[k] ∧ l[k] ≤ hi) ∧ (∀ k (hk : k < l.length), k < n → 0 < k → l[k - 1] < l[k])
  | 0, _, _ => ⟨fun k _ h => by omega, fun k _ h => by omega⟩
  | n + 1, hn, h => by
    have h' : (if firstC (incC lo hi l) n ≠ 0 then firstC (incC lo hi l) n else incC lo hi l n) = 0 := h
    have h0 : firstC (incC lo hi l) n = 0 := by
      rcases Classical.em (firstC (incC lo hi l) n = 0) with h1 | h1
      · exact h1
      · rw [if_pos h1] at h'; exact h'
    have hc : incC lo hi l n = 0 := by rw [if_neg (by rw [h0]; simp)] at h'; exact h'
    obtain ⟨a, b⟩ := incC_ok n (by omega) h0
    have hb : lo ≤ l[n] ∧ l[n] ≤ hi := by
      rcases Classical.em (l[n] < lo ∨ hi < l[n]) with h1 | h1
      · rw [incC_out (by omega) h1] at hc; cases hc
      · omega
    refine ⟨fun k hk hkn => ?_, fun k hk hkn hk0 => ?_⟩
    · rcases Nat.lt_or_ge k n with h1 | h1
      · exact a k hk h1
      · have : k = n := by omega
        subst this; exact hb
    · rcases Nat.lt_or_ge k n with h1 | h1
      · exact b k hk h1 hk0
      · have : k = n := by omega
        subst this
        rw [incC_in (by omega) hk0 hb.1 hb.2] at hc
        split at hc
        · cases hc
        · omega
end Go.Proofs.YtjgohmfmalcjoaaDoor.Base
