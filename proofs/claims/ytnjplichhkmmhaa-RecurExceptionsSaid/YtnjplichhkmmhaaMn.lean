import Derived.Test.YtnjplichhkmmhaaMm
import Derived.Test.YtnjplichhkmmhaaBase4
import Derived.RangeFuncNested
import Derived.RangeFuncBox
import Derived.RangeFuncBound
import Derived.RangeFuncCalls
import Derived.RangeFuncLeaves
import Derived.Shelf.Abstract
import Derived.Shelf.RegionOpen
import Derived.OwnWalkIn
import Derived.TacticsInMore
import Derived.LoopNIn
import Derived.LoopIn
import Derived.Maps.AppendAt
/- Plain laws: the days of a recurrence, come to by steps. No Go. -/
namespace Go.Proofs.Ytnjplichhkmmhaa.Cal
open Go.Proofs.Ytnjplichhkmmhaa.Base
set_option linter.unusedVariables false
/-- how many days of the span lie before the day n. -/
def clipD (d : Date) (n : Int) : Nat := min 1501 (n - firstD d).toNat
/-- the days of the rule before the day n. -/
def befL (d : Date) (r : Rule) (n : Int) : List Int := dayL d r (clipD d n)
section
variable {d : Date} {r : Rule}
theorem befL_first {n : Int} (h : n ≤ firstD d) : befL d r n = [] := by
  unfold befL clipD
  rw [show min 1501 (n - firstD d).toNat = 0 by omega]
  rfl
theorem befL_full {n : Int} (h : firstD d + 1500 < n) : befL d r n = daysL d r := by
  unfold befL clipD
  rw [show min 1501 (n - firstD d).toNat = 1501 by omega]
  rfl
theorem befL_len (n : Int) : (befL d r n).length ≤ 1501 := by
  have := dayL_le d r (clipD d n)
  have h2 : clipD d n ≤ 1501 := by unfold clipD; omega
  unfold befL
  omega
theorem befL_lt {n : Int} (h : n ≤ firstD d + 1500) : (befL d r n).length < 1501 := by
  have := dayL_le d r (clipD d n)
  have h2 : clipD d n ≤ 1500 := by unfold clipD; omega
  unfold befL
  omega
theorem befL_pre (n : Int) : befL d r n <+: daysL d r := by
  have h2 : clipD d n ≤ 1501 := by unfold clipD; omega
  obtain ⟨rest, e⟩ := dayL_pre d r (clipD d n) (1501 - clipD d n)
  rw [show clipD d n + (1501 - clipD d n) = 1501 by omega] at e
  exact ⟨rest, e.symm⟩
theorem befL_hit {n : Int} (h0 : firstD d ≤ n) (h1 : n ≤ firstD d + 1500) (h : onD d r n = true) : befL d r (n + 1) = befL d r n ++ [n] := by
  unfold befL clipD
  rw [show min 1501 (n + 1 - firstD d).toNat = (n - firstD d).toNat + 1 by omega, show min 1501 (n - firstD d).toNat = (n - firstD d).toNat by omega]
  exact dayL_yes (by omega) h
theorem befL_miss {n : Int} (h : firstD d ≤ n → n ≤ firstD d + 1500 → onD d r n = false) : befL d r (n + 1) = befL d r n := by
  by_cases h0 : firstD d ≤ n
  · by_cases h1 : n ≤ firstD d + 1500
    · unfold befL clipD
      rw [show min 1501 (n + 1 - firstD d).toNat = (n - firstD d).toNat + 1 by omega, show min 1501 (n - firstD d).toNat = (n - firstD d).toNat by omega]
      exact dayL_no (by omega) (h h0 h1)
    · rw [befL_full (by omega), befL_full (by omega)]
  · rw [befL_first (by omega), befL_first (by omega)]
/-- no day of the rule from a on, before b. -/
theorem befL_gap {a : Int} : ∀ (k : Nat), (∀ n, a ≤ n → n < a + k → firstD d ≤ n → n ≤ firstD d + 1500 → onD d r n = false) → befL d r (a + k) = befL d r a
  | 0, _ => by simp
  | k + 1, h => by
    have e : a + ((k + 1 : Nat) : Int) = a + (k : Int) + 1 := by push_cast; omega
    rw [e, befL_miss (h (a + k) (by omega) (by push_cast; omega)), befL_gap k (fun n h1 h2 => h n h1 (by push_cast; omega))]
theorem befL_to {a b : Int} (hab : a ≤ b) (h : ∀ n, a ≤ n → n < b → firstD d ≤ n → n ≤ firstD d + 1500 → onD d r n = false) : befL d r b = befL d r a := by
  have := befL_gap (d := d) (r := r) (a := a) (b - a).toNat (fun n h1 h2 => h n h1 (by omega))
  rwa [show a + ((b - a).toNat : Int) = b by omega] at this
theorem mod_add {q e c : Int} (h : q % e = 0) : (q + c) % e = c % e := by
  rw [Int.add_emod, h, Int.zero_add, Int.emod_emod_of_dvd _ (Int.dvd_refl e)]
theorem mod_small {e c : Int} (h0 : 0 < c) (h1 : c < e) : c % e ≠ 0 := by
  rw [Int.emod_eq_of_lt (by omega) h1]
  omega
/-! once -/
theorem once_hit (hf : r.fr = 0) (n : Int) : onD d r n = (n == firstD d) := by
  unfold onD
  rw [if_pos hf]
theorem once_full (hf : r.fr = 0) : daysL d r = [firstD d] := by
  have h1 := befL_hit (d := d) (r := r) (n := firstD d) (by omega) (by omega) (by rw [once_hit hf]; simp)
  rw [befL_first (d := d) (r := r) (n := firstD d) (Int.le_refl _)] at h1
  have h2 := befL_to (d := d) (r := r) (a := firstD d + 1) (b := firstD d + 1501) (by omega) (fun n h1 h2 _ _ => by rw [once_hit hf]; simp; omega)
  rw [befL_full (d := d) (r := r) (n := firstD d + 1501) (by omega)] at h2
  rw [h2, h1]
  rfl
/-! daily -/
theorem daily_on (hf : r.fr = 1) (n : Int) : onD d r n = ((n - firstD d) % r.ev == 0) := by
  unfold onD
  rw [if_neg (by omega), if_pos hf]
theorem daily_hit (hf : r.fr = 1) {n : Int} (hq : (n - firstD d) % r.ev = 0) (h0 : firstD d ≤ n) (h1 : n ≤ firstD d + 1500) (he : 1 ≤ r.ev) : befL d r (n + r.ev) = befL d r n ++ [n] := by
  rw [← befL_hit h0 h1 (by rw [daily_on hf, hq]; rfl)]
  refine befL_to (by omega) (fun m h2 h3 _ _ => ?_)
  rw [daily_on hf]
  have e : m - firstD d = (n - firstD d) + (m - n) := by omega
  rw [e, mod_add hq]
  have := mod_small (e := r.ev) (c := m - n) (by omega) (by omega)
  simp [this]
theorem daily_next {n : Int} (hq : (n - firstD d) % r.ev = 0) : (n + r.ev - firstD d) % r.ev = 0 := by
  have e : n + r.ev - firstD d = (n - firstD d) + r.ev := by omega
  rw [e, mod_add hq, Int.emod_self]
/-! weekly -/
def wlD (d : Date) (r : Rule) : List Int := if r.wd = [] then [wdD d] else r.wd
theorem weekly_on (hf : r.fr = 2) {q t : Int} (ht : 0 ≤ t) : onD d r (firstD d - wdD d + 7 * q + t) = ((wlD d r).contains (t % 7) && (q + t / 7) % r.ev == 0) := by
  unfold onD wlD
  rw [if_neg (by omega), if_neg (by omega), if_pos hf]
  have e1 : (firstD d - wdD d + 7 * q + t - firstD d + wdD d) % 7 = t % 7 := by omega
  have e2 : (firstD d - wdD d + 7 * q + t - firstD d + wdD d) / 7 = q + t / 7 := by omega
  rw [e1, e2]
  by_cases hw : r.wd = []
  · rw [if_pos hw, hw]
    by_cases h7 : t % 7 = wdD d <;> simp [h7]
  · rw [if_neg hw]
    have hl : ((r.wd.length : Int) == 0) = false := by
      have := List.length_pos_iff.2 hw
      simp; exact hw
    rw [hl]
    simp
structure WOk (l : List Int) : Prop where
  bd : ∀ k (hk : k < l.length), 0 ≤ l[k] ∧ l[k] ≤ 6
  inc : ∀ k (hk : k < l.length), 0 < k → l[k - 1] < l[k]
theorem WOk.of (h : r.fault = (0, 0)) : WOk (wlD d r) := by
  have key : wdF r = 0 := by
    unfold Rule.fault at h
    split at h
    · simp at h
    split at h
    · simp at h
    split at h
    · simp at h
    split at h
    · simp at h
    split at h
    · simp at h
    split at h
    · rename_i h1; simp only [Prod.mk.injEq] at h; exact absurd h.1 h1
    · rename_i h1; simpa using h1
  unfold wlD
  by_cases hw : r.wd = []
  · rw [if_pos hw]
    have := wdD_bd d
    exact ⟨fun k hk => by simp at hk; subst hk; exact this, fun k hk h0 => by simp at hk; omega⟩
  · rw [if_neg hw]
    unfold wdF at key
    split at key
    · simp at key
    · obtain ⟨a, b⟩ := incC_ok _ (Nat.le_refl _) key
      exact ⟨fun k hk => a k hk hk, fun k hk h0 => b k hk hk h0⟩
theorem WOk.mono {l : List Int} (h : WOk l) {j : Nat} : ∀ k (hk : k < l.length) (hj : j ≤ k), l[j] ≤ l[k]
  | 0, hk, hj => by have : j = 0 := by omega
                    subst this; exact Int.le_refl _
  | k + 1, hk, hj => by
    rcases Nat.lt_or_ge j (k + 1) with h1 | h1
    · have a := h.mono k (by omega) (by omega : j ≤ k)
      have b := h.inc (k + 1) hk (by omega)
      simp at b
      omega
    · have : j = k + 1 := by omega
      subst this; exact Int.le_refl _
/-- behind the weekday k - 1. -/
def loW (l : List Int) (k : Nat) : Int := if k = 0 then 0 else (l[k - 1]?.getD 0) + 1
theorem loW_succ {l : List Int} {k : Nat} (hk : k < l.length) : loW l (k + 1) = l[k] + 1 := by
  unfold loW
  rw [if_neg (by omega)]
  simp [List.getElem?_eq_getElem hk]
theorem loW_bd {l : List Int} (h : WOk l) {k : Nat} (hk : k ≤ l.length) : 0 ≤ loW l k ∧ loW l k ≤ 7 := by
  unfold loW
  split
  · omega
  · rw [List.getElem?_eq_getElem (by omega)]
    have := h.bd (k - 1) (by omega)
    simp
    omega
theorem loW_le {l : List Int} (h : WOk l) {k : Nat} (hk : k < l.length) : loW l k ≤ l[k] := by
  unfold loW
  split
  · have := h.bd k hk; omega
  · rw [List.getElem?_eq_getElem (by omega)]
    have := h.inc k hk (by omega)
    simp
    omega
theorem not_in {l : List Int} (h : WOk l) {k : Nat} (hk : k ≤ l.length) {t : Int} (h0 : loW l k ≤ t) (h1 : ∀ hk' : k < l.length, t < l[k]) : l.contains t = false := by
  rw [← Bool.not_eq_true, List.contains_iff_mem]
  intro hm
  obtain ⟨j, hj, e⟩ := List.getElem_of_mem hm
  rcases Nat.lt_or_ge j k with hlt | hge
  · have a := h.mono (k - 1) (by omega) (by omega : j ≤ k - 1)
    unfold loW at h0
    rw [if_neg (by omega), List.getElem?_eq_getElem (by omega)] at h0
    simp at h0
    omega
  · have a := h.mono j hj hge
    have := h1 (by omega)
    omega
theorem weekly_gap (hf : r.fr = 2) (hw : WOk (wlD d r)) {q : Int} {k : Nat} (hk : k < (wlD d r).length) :
    befL d r (firstD d - wdD d + 7 * q + (wlD d r)[k]) = befL d r (firstD d - wdD d + 7 * q + loW (wlD d r) k) := by
  have h1 := loW_le hw hk
  have h2 := loW_bd hw (Nat.le_of_lt hk)
  have h3 := hw.bd k hk
  refine befL_to (by omega) (fun n a b _ _ => ?_)
  have e : n = firstD d - wdD d + 7 * q + (n - (firstD d - wdD d + 7 * q)) := by omega
  rw [e, weekly_on hf (by omega)]
  rw [show (n - (firstD d - wdD d + 7 * q)) % 7 = n - (firstD d - wdD d + 7 * q) by omega]
  rw [not_in hw (Nat.le_of_lt hk) (by omega) (fun _ => by omega)]
  rfl
theorem weekly_hit (hf : r.fr = 2) (hw : WOk (wlD d r)) {q : Int} (hq : q % r.ev = 0) {k : Nat} (hk : k < (wlD d r).length) : onD d r (firstD d - wdD d + 7 * q + (wlD d r)[k]) = true := by
  have h3 := hw.bd k hk
  rw [weekly_on hf h3.1, show (wlD d r)[k] % 7 = (wlD d r)[k] by omega, show q + (wlD d r)[k] / 7 = q by omega, hq]
  have : (wlD d r).contains (wlD d r)[k] = true := by rw [List.contains_iff_mem]; exact List.getElem_mem _
  rw [this]; rfl
theorem weekly_end (hf : r.fr = 2) (hw : WOk (wlD d r)) {q : Int} (hq : q % r.ev = 0) (he : 1 ≤ r.ev) :
    befL d r (firstD d - wdD d + 7 * (q + r.ev)) = befL d r (firstD d - wdD d + 7 * q + loW (wlD d r) (wlD d r).length) := by
  have h2 := loW_bd hw (Nat.le_refl _)
  refine befL_to (by omega) (fun n a b _ _ => ?_)
  have e : n = firstD d - wdD d + 7 * q + (n - (firstD d - wdD d + 7 * q)) := by omega
  rw [e, weekly_on hf (by omega)]
  generalize n - (firstD d - wdD d + 7 * q) = t at *
  have t0 : loW (wlD d r) (wlD d r).length ≤ t := by omega
  have t1 : t < 7 * r.ev := by omega
  rcases Int.lt_or_le t 7 with h7 | h7
  · rw [show t % 7 = t by omega, not_in hw (Nat.le_refl _) t0 (fun h => by omega)]
    rfl
  · have hm : (q + t / 7) % r.ev ≠ 0 := by
      rw [mod_add hq]
      exact mod_small (by omega) (by omega)
    have : ((q + t / 7) % r.ev == 0) = false := by simpa using hm
    rw [this]; simp
/-! monthly and yearly -/
/-- the first day of month k, counted from January of the first year. -/
def moF (d : Date) (k : Int) : Int := dnum (d.y + k / 12) (k % 12 + 1) 1
def kOf (d : Date) (n : Int) : Int := 12 * (ymdY n - d.y) + ymdM n - 1
def stepM (r : Rule) : Int := if r.fr = 4 then 12 * r.ev else r.ev
theorem moF_succ (k : Int) : moF d (k + 1) = moF d k + mlen (d.y + k / 12) (k % 12 + 1) := by
  unfold moF dnum
  by_cases h : k % 12 = 11
  · rw [show (k + 1) / 12 = k / 12 + 1 by omega, show (k + 1) % 12 = 0 by omega, h, show d.y + (k / 12 + 1) = d.y + k / 12 + 1 by omega]
    have a := ystart_step (d.y + k / 12)
    have b := mstart_12 (d.y + k / 12)
    have c := mstart_1 (d.y + k / 12 + 1)
    rw [show (0 : Int) + 1 = 1 by omega, show (11 : Int) + 1 = 12 by omega]
    omega
  · rw [show (k + 1) / 12 = k / 12 by omega, show (k + 1) % 12 = k % 12 + 1 by omega]
    have a := mlen_step (d.y + k / 12) (k % 12 + 1) (by omega) (by omega)
    omega
theorem moF_up (k : Int) : ∀ j : Nat, moF d k + 28 * j ≤ moF d (k + j)
  | 0 => by simp
  | j + 1 => by
    have ih := moF_up k j
    have s := moF_succ (d := d) (k + j)
    have m := mlen_bd (d.y + (k + j) / 12) ((k + j) % 12 + 1)
    have e : k + ((j + 1 : Nat) : Int) = k + j + 1 := by push_cast; omega
    rw [e]
    push_cast
    omega
theorem moF_mono {k k' : Int} (h : k ≤ k') : moF d k + 28 * (k' - k) ≤ moF d k' := by
  have := moF_up (d := d) k (k' - k).toNat
  rw [show k + ((k' - k).toNat : Int) = k' by omega] at this
  omega
theorem moF_of (n : Int) : moF d (kOf d n) + ymdD n - 1 = n := by
  have e := (dnum_ymd n).1
  have mb := ymdM_bd n
  unfold moF kOf
  rw [show d.y + (12 * (ymdY n - d.y) + ymdM n - 1) / 12 = ymdY n by omega, show (12 * (ymdY n - d.y) + ymdM n - 1) % 12 + 1 = ymdM n by omega]
  unfold dnum at e ⊢
  omega
theorem kOf_len (n : Int) : 1 ≤ ymdD n ∧ ymdD n ≤ mlen (d.y + kOf d n / 12) (kOf d n % 12 + 1) := by
  have e := (dnum_ymd n).2
  have mb := ymdM_bd n
  unfold kOf
  rw [show d.y + (12 * (ymdY n - d.y) + ymdM n - 1) / 12 = ymdY n by omega, show (12 * (ymdY n - d.y) + ymdM n - 1) % 12 + 1 = ymdM n by omega]
  exact e
theorem kOf_at {k n : Int} (h0 : moF d k ≤ n) (h1 : n < moF d (k + 1)) : kOf d n = k ∧ ymdD n = n - moF d k + 1 := by
  have e := moF_of (d := d) n
  have l := kOf_len (d := d) n
  have s := moF_succ (d := d) (kOf d n)
  have hk : kOf d n = k := by
    rcases Int.lt_trichotomy (kOf d n) k with h | h | h
    · have := moF_mono (d := d) (k := kOf d n + 1) (k' := k) (by omega); omega
    · exact h
    · have := moF_mono (d := d) (k := k + 1) (k' := kOf d n) (by omega); omega
  rw [hk] at e
  exact ⟨hk, by omega⟩
theorem months_k (n : Int) : monthsD d n = kOf d n - (d.mo - 1) := by unfold monthsD kOf; omega
theorem monthly_on (hf : r.fr = 3 ∨ r.fr = 4) (n : Int) : onD d r n = (ymdD n == d.d && (kOf d n - (d.mo - 1)) % stepM r == 0) := by
  unfold onD stepM
  rcases hf with hf | hf
  · rw [if_neg (by omega), if_neg (by omega), if_neg (by omega), if_pos hf, if_neg (by omega), months_k]
  · rw [if_neg (by omega), if_neg (by omega), if_neg (by omega), if_neg (by omega), if_pos hf, months_k]
theorem moF_first (F : FirstOk d) : moF d (d.mo - 1) = firstD d - d.d + 1 := by
  have := F.m0
  have := F.m1
  unfold moF firstD dnum
  rw [show (d.mo - 1) / 12 = 0 by omega, show (d.mo - 1) % 12 + 1 = d.mo by omega]
  simp
  omega
/-- the days of the months from k on, before month k + step, other than the day d of month k. -/
theorem monthly_no (hf : r.fr = 3 ∨ r.fr = 4) {k n : Int} (hk : (k - (d.mo - 1)) % stepM r = 0) (h0 : moF d k ≤ n) (h1 : n < moF d (k + stepM r)) (h2 : n = moF d k + d.d - 1 → moF d (k + 1) ≤ n) : onD d r n = false := by
  rw [monthly_on hf]
  have e := moF_of (d := d) n
  have l := kOf_len (d := d) n
  have s := moF_succ (d := d) (kOf d n)
  have k0 : k ≤ kOf d n := by
    rcases Int.lt_or_le (kOf d n) k with h | h
    · have := moF_mono (d := d) (k := kOf d n + 1) (k' := k) (by omega); omega
    · exact h
  have k1 : kOf d n < k + stepM r := by
    rcases Int.lt_or_le (kOf d n) (k + stepM r) with h | h
    · exact h
    · have := moF_mono (d := d) (k := k + stepM r) (k' := kOf d n) h; omega
  by_cases hkk : kOf d n = k
  · by_cases hd : ymdD n = d.d
    · exfalso
      rw [hkk, hd] at e
      rw [hkk] at s l
      have := h2 (by omega)
      omega
    · have : (ymdD n == d.d) = false := by simpa using hd
      rw [this]; rfl
  · have hm : (kOf d n - (d.mo - 1)) % stepM r ≠ 0 := by
      have e2 : kOf d n - (d.mo - 1) = (k - (d.mo - 1)) + (kOf d n - k) := by omega
      rw [e2, mod_add hk]
      exact mod_small (by omega) (by omega)
    have : ((kOf d n - (d.mo - 1)) % stepM r == 0) = false := by simpa using hm
    rw [this]; simp
theorem stepM_pos (he : 1 ≤ r.ev) : 1 ≤ stepM r := by unfold stepM; split <;> omega
theorem monthly_skip (hf : r.fr = 3 ∨ r.fr = 4) (he : 1 ≤ r.ev) {k : Int} (hk : (k - (d.mo - 1)) % stepM r = 0) (hl : mlen (d.y + k / 12) (k % 12 + 1) < d.d) : befL d r (moF d (k + stepM r)) = befL d r (moF d k) := by
  have sp := stepM_pos he
  have m1 := moF_mono (d := d) (k := k) (k' := k + stepM r) (by omega)
  have s := moF_succ (d := d) k
  exact befL_to (by omega) (fun n h0 h1 _ _ => monthly_no hf hk h0 h1 (fun hn => by omega))
theorem monthly_hit (hf : r.fr = 3 ∨ r.fr = 4) (he : 1 ≤ r.ev) {k : Int} (hk : (k - (d.mo - 1)) % stepM r = 0) (hl : d.d ≤ mlen (d.y + k / 12) (k % 12 + 1)) (h1 : 1 ≤ d.d) :
    onD d r (moF d k + d.d - 1) = true ∧ befL d r (moF d k + d.d - 1) = befL d r (moF d k) ∧ befL d r (moF d (k + stepM r)) = befL d r (moF d k + d.d - 1 + 1) := by
  have sp := stepM_pos he
  have s := moF_succ (d := d) k
  have m1 := moF_mono (d := d) (k := k + 1) (k' := k + stepM r) (by omega)
  have ka := kOf_at (d := d) (k := k) (n := moF d k + d.d - 1) (by omega) (by omega)
  refine ⟨?_, ?_, ?_⟩
  · rw [monthly_on hf, ka.1, ka.2, hk]
    have : (moF d k + d.d - 1 - moF d k + 1 == d.d) = true := by simp; omega
    rw [this]; rfl
  · exact befL_to (by omega) (fun n a b _ _ => monthly_no hf hk a (by omega) (fun hn => by omega))
  · exact befL_to (by omega) (fun n a b _ _ => monthly_no hf hk (by omega) b (fun hn => by omega))
theorem monthly_next {k : Int} (hk : (k - (d.mo - 1)) % stepM r = 0) : (k + stepM r - (d.mo - 1)) % stepM r = 0 := by
  have e : k + stepM r - (d.mo - 1) = (k - (d.mo - 1)) + stepM r := by omega
  rw [e, mod_add hk, Int.emod_self]
end
end Go.Proofs.Ytnjplichhkmmhaa.Cal
/- Loops over iterators: what a round keeps; a region that draws its order within a round. -/
namespace Go.Proofs.Ytnjplichhkmmhaa.Base
open Go.RowKit Go.Shelf
set_option linter.unusedVariables false
set_option linter.unusedSimpArgs false
/-- the row of the slice that the variable in block go holds. -/
def rowOf (W : World) (go : Nat) : Option Nat := match W.cell? ⟨go, 0, none⟩ with | some v => v.ownBlock | none => none
/-- what a round keeps: all cells but the caller's two variables and the row of its list. -/
structure Kq (go gr : Nat) (W W' : World) : Prop where
  size : W.heap.size ≤ W'.heap.size
  same : ∀ k o, W.heap[k]? = some o → o.isCells = true → k ≠ go → k ≠ gr → rowOf W go ≠ some k → W'.heap[k]? = some o
  row : ∀ g, rowOf W' go = some g → rowOf W go = some g ∨ W.heap.size ≤ g
section
variable {go gr : Nat} {A B C W W' : World}
theorem Kq.refl (go gr : Nat) (W : World) : Kq go gr W W := ⟨Nat.le_refl _, fun _ _ h _ _ _ _ => h, fun _ h => .inl h⟩
theorem Kq.trans (h : Kq go gr A B) (k : Kq go gr B C) : Kq go gr A C := by
  refine ⟨Nat.le_trans h.size k.size, fun x o hx ho h1 h2 h3 => ?_, fun g hg => ?_⟩
  · refine k.same x o (h.same x o hx ho h1 h2 h3) ho h1 h2 (fun hr => ?_)
    rcases h.row x hr with h4 | h4
    · exact h3 h4
    · have := (Array.getElem?_eq_some_iff.1 hx).1
      omega
  · rcases k.row g hg with h1 | h1
    · exact h.row g h1
    · exact .inr (Nat.le_trans h.size h1)
theorem rowOf_same (h : W'.heap[go]? = W.heap[go]?) : rowOf W' go = rowOf W go := by
  unfold rowOf
  rw [World.cell?_of_block (a := ⟨go, 0, none⟩) h]
theorem Kq.put {l : Nat} {o : Obj} (o' : Obj) (hg : go < l) (hl : W.heap[l]? = some o) (ho : o.isCells = false) : Kq go gr W (W.putObj l o') := by
  refine ⟨by simp, fun k x hk hx h1 h2 h3 => ?_, fun g hr => .inl ?_⟩
  · rw [World.putObj_heap_other (fun e => by subst e; rw [hl] at hk; cases hk; rw [ho] at hx; cases hx)]
    exact hk
  · rw [rowOf_same (World.putObj_heap_other (by omega))] at hr
    exact hr
theorem Kq.of_below (hg : go < W.heap.size) (hb : Below W.heap.size W W') : Kq go gr W W' :=
  ⟨hb.size, fun k o hk _ _ _ _ => (hb.block k (Array.getElem?_eq_some_iff.1 hk).1).trans hk, fun g hr => .inl (by rw [rowOf_same (hb.block go hg)] at hr; exact hr)⟩
theorem Kq.bk {g : Nat} {t : TypeId} {cs : Array Value} (h : Kq go gr W W') (hr : rowOf W go = none) (hB : Bk W g t cs) (h1 : g ≠ go) (h2 : g ≠ gr) : Bk W' g t cs :=
  h.same g _ hB rfl h1 h2 (by rw [hr]; simp)
theorem Kq.cell {a : Addr} {v : Value} (h : Kq go gr W W') (hr : rowOf W go = none) (hc : W.cell? a = some v) (h1 : a.block ≠ go) (h2 : a.block ≠ gr) : W'.cell? a = some v := by
  obtain ⟨o, ho, hi⟩ := cells_of_cell hc
  rw [World.cell?_of_block (a := a) ((h.same a.block o ho hi h1 h2 (by rw [hr]; simp)).trans ho.symm)]
  exact hc
end
/-- the rounds of a loop in which no depth is asked. -/
def YieldsQ {α : Type} (P : Program) (l : Nat) (go gr N : Nat) (encs : α → Array Value) (J Jx : List α → World → Prop) : Prop :=
  ∀ (m : Nat) (pre : List α) (x : α) (W : World), J pre W → pre.length < N → YieldAt Fence.wide m P l (encs x) W fun e W' =>
    (e = .returned (.bool true) ∧ J (pre ++ [x]) W' ∧ Kq go gr W W') ∨ (e = .returned (.bool false) ∧ Jx (pre ++ [x]) W')
theorem roundIn_any {m m' : Nat} {P : Program} {l : Nat} {f : FuncId} {tmps : Array Value} {assign body : Code} {w : World} {R : Ending → World → Prop}
    (h : RoundIn Fence.wide m P l f tmps assign body w R) : RoundIn Fence.wide m' P l f tmps assign body w R := ⟨h.1, fun c cs _ => h.2 c cs (room_wide _)⟩
theorem yieldAt_any {m : Nat} (m' : Nat) {P : Program} {l : Nat} {args : Array Value} {W : World} {R : Ending → World → Prop} (h : YieldAt Fence.wide m P l args W R) : YieldAt Fence.wide m' P l args W R := by
  obtain ⟨fn, tmps, assign, body, hy, hR⟩ := h
  exact ⟨fn, tmps, assign, body, hy, roundIn_any hR⟩
/-- a fence that asks nothing, within a round or not. -/
def Open (F : Fence) : Prop := (∀ f, F.fn f) ∧ F.depth = none ∧ ∀ n P f args w R, Calls P f args w R → CallsIn F n P f args w R
theorem open_wide : Open Fence.wide := ⟨fun _ => trivial, rfl, fun _ _ _ _ _ _ h => callsIn_wide.2 h⟩
theorem open_round (l : Nat) : Open (Fence.wide.inRound l) := ⟨fun _ => trivial, rfl, fun _ _ _ _ _ _ h => CallsIn.inRound l (callsIn_wide.2 h)⟩
section
variable {F : Fence} {n : Nat} {P : Program} {ops : Array Oper} {md : Region.Mode} {C : World → Prop}
def noDefer (ops : Array Oper) : Bool := ops.all fun o => match o.op with | .defer _ => false | _ => true
theorem noDefer_at (h : noDefer ops = true) {i : Nat} {o : Oper} (hi : ops[i]? = some o) : ∀ c, o.op ≠ .defer c := fun c hc => by
  unfold noDefer at h
  rw [Array.all_eq_true] at h
  obtain ⟨hlt, he⟩ := Array.getElem?_eq_some_iff.1 hi
  have := h i hlt
  rw [he, hc] at this
  cases this
theorem semAt_any (r : Option Nat) (ρ : Operand → Value) (o : Oper) (h : ∀ c, o.op ≠ .defer c) : Oper.semAt r ρ o = execOp ρ o := by
  cases r with
  | none => exact Oper.semAt_none _ _
  | some l => exact Oper.semAt_some l ρ o h
theorem wpIn_of_quiet {o : Oper} {a : Act} {K : Act → Prop} {K' : Act → World → Prop} {Q' : Exit → Act → World → Prop} {w : World} (hF : Open F) (hd : ∀ c, o.op ≠ .defer c) (hw : C w) (h : ∀ a w', C w' → K a → K' a w') (hh : o.quiet P a C K) : o.wpIn F n P a w K' Q' := by
  obtain ⟨v, h1, h2⟩ := hh
  have h3 := h1 w hw
  unfold Oper.quietAt at h3
  refine ⟨fun f _ => hF.1 f, ?_⟩
  rw [semAt_any _ _ _ hd]
  generalize (execOp a.eval o).run P w = r at *
  cases r with
  | ok nx w' =>
    cases nx <;> simp only [Oper.quietUpon] at h3
    case value u =>
      obtain ⟨e1, e2⟩ := h3
      rw [e1, e2, Oper.uponIn_value]
      exact h _ _ hw h2
    case skip =>
      obtain ⟨e1, e2⟩ := h3
      rw [e1, Oper.uponIn_skip]
      rw [e2] at h2
      exact h _ _ hw h2
    case enter f args =>
      obtain ⟨e1, hc⟩ := h3
      rw [e1, Oper.uponIn_enter]
      refine ⟨(fun hs => by rw [hF.2.1] at hs; cases hs), hF.2.2 _ _ _ _ _ _ (hc.mono ?_)⟩
      intro e w'' hw''
      obtain ⟨he, hc2⟩ := hw''
      subst he
      exact h _ _ hc2 h2
  | halt x w' => simp only [Oper.quietUpon] at h3
theorem wpOpIn_of_qOp {i : Nat} {a : Act} {K : Act → Prop} {K' : Act → World → Prop} {Q' : Exit → Act → World → Prop} {w : World} (hF : Open F) (hd : noDefer ops = true) (hC : C w) (h : ∀ a w', C w' → K a → K' a w') (hh : qOp P ops C i K a) : wpOpIn F n P ops Q' i K' a w := by
  unfold qOp at hh
  unfold wpOpIn
  split
  · rename_i ho
    simp only [ho] at hh
    exact h _ _ hC hh
  · rename_i o ho
    simp only [ho] at hh
    split
    · rename_i hw
      simp only [hw, if_true] at hh
      exact wpIn_of_quiet hF (noDefer_at hd ho) hC h hh
    · rename_i hw
      simp only [hw] at hh
      exact ⟨fun f _ => hF.1 f, h _ _ hC hh⟩
theorem wpAnyIn_of_quiet {Q : Act → Prop} {Q' : Exit → Act → World → Prop} (hF : Open F) (hd : noDefer ops = true) (hQ : ∀ a w, C w → Q a → Q' .normal a w) : ∀ (fuel : Nat) (listed : Array Bool) (a : Act) (w : World), C w →
    wpAnyQ P md ops C Q fuel listed a → wpAnyIn F n P md ops Q' fuel listed a w
  | 0, _, _, _, hw, h => ⟨h.1, hQ _ _ hw h.2⟩
  | fuel + 1, _, _, _, hw, h => ⟨fun h0 => hQ _ _ hw (h.1 h0), fun i hi => wpOpIn_of_qOp hF hd hw (fun a' w' hw' => wpAnyIn_of_quiet hF hd hQ fuel _ a' w' hw') (h.2 i hi)⟩
theorem wpIn_region_quiet {id : Nat} {Q : Exit → Act → World → Prop} {a : Act} {w : World} (hF : Open F) (hm : P.follows .mixedOrders = true) (hd : noDefer ops = true) (hB : Region.lexB .any ops = true) (hC : C { w with drawn := w.drawn + 1 })
    (h : wpQuiet P ops C (fun a' => ∀ w', C w' → Q .normal a' w') ops.toList a) : (Code.region id ops true).wpIn F n P Q a w := by
  simp only [Region.lexB, Bool.and_eq_true] at hB
  refine wpIn_region_any hm (wpAnyIn_of_quiet hF hd (Q := fun a' => ∀ w', C w' → Q .normal a' w') (fun _ w' hw' h => h w' hw') _ _ _ _ hC ?_)
  have := wpAnyQ_lex (C := C) (md := .any) hB.1 ops.toList 0 (Array.replicate ops.size false) a (by simp) (by simpa using hB.2) h
  simpa using this
/-- a region that draws its order, whose operations read and whose callees may make memory, in a fence that asks nothing. -/
theorem wpIn_region_bel {id : Nat} {Q : Exit → Act → World → Prop} {a : Act} {w : World} {l : List Oper} (hF : Open F) (hm : P.follows .mixedOrders = true) (hd : noDefer l.toArray = true) (hB : Region.lexB .any l.toArray = true)
    (h : wpQuiet P l.toArray (fun w' => ∃ s : Bel w, w' = s.w) (fun a' => ∀ w', (∃ s : Bel w, w' = s.w) → Q .normal a' w') l a) : (Code.region id l.toArray true).wpIn F n P Q a w :=
  wpIn_region_quiet (C := fun w' => ∃ s : Bel w, w' = s.w) hF hm hd hB ⟨Bel.mk' w.drew (below_drew1 (Below.refl _ _)), rfl⟩ (by simpa using h)
end
end Go.Proofs.Ytnjplichhkmmhaa.Base
