/- Plain laws: the offset changes at most twice within 350 days. -/
import Derived.Test.YtnjplichhkmmhaaCal4
namespace Go.Proofs.Ytnjplichhkmmhaa.Cal
set_option linter.unusedVariables false

theorem ymdY_lo (n : Int) (h : -300000 ≤ n) : 1000 ≤ ymdY n := by
  have := ymdY_in n
  rcases Int.lt_or_le (ymdY n) 1000 with hy | hy
  · have := ystart_mono (ymdY n + 1) 1000 (by omega)
    have e : ystart 1000 = -354285 := by decide
    omega
  · exact hy
theorem ymdY_hi (n : Int) (h : n ≤ 300000) : ymdY n ≤ 3000 := by
  have := ymdY_in n
  rcases Int.lt_or_le 3000 (ymdY n) with hy | hy
  · have := ystart_mono 3000 (ymdY n) (by omega)
    have e : ystart 3000 = 376200 := by decide
    omega
  · exact hy
theorem off_val {z : Zone} (h : z.fault = (0, 0)) (t : Int) (ht : -21000000000 ≤ t) (ht' : t ≤ 21000000000) :
    offR z t = (cur z t (ymdY (lday t z.st)), (0, 0)) ∧ 1000 ≤ ymdY (lday t z.st) ∧ ymdY (lday t z.st) ≤ 3000 := by
  have hs := Zone.st_of h
  have l1 : -300000 ≤ lday t z.st := by unfold lday; omega
  have l2 : lday t z.st ≤ 300000 := by unfold lday; omega
  have y1 := ymdY_lo _ l1
  have y2 := ymdY_hi _ l2
  refine ⟨?_, y1, y2⟩
  have hc : chk t = (0, 0) := by unfold chk; rw [if_pos (inR_mk (by omega) (by omega))]
  have hy : (civ t z.st).y = ymdY (lday t z.st) := rfl
  unfold offR
  rw [if_neg (by rw [h]; simp), if_neg (by rw [hc]; simp), hy, if_neg (by rw [inR_mk (by omega) (by omega)]; simp)]
/-- no turn between two instants a day apart: the offset stays. -/
theorem off_same {z : Zone} (h : z.fault = (0, 0)) (t : Int) (ht : -20000000000 ≤ t) (ht' : t ≤ 20500000000)
    (hb : ∀ y, ¬ (t < tat z.b y z.st ∧ tat z.b y z.st ≤ t + 86400)) (he : ∀ y, ¬ (t < tat z.e y z.su ∧ tat z.e y z.su ≤ t + 86400)) : (offR z (t + 86400)).1 = (offR z t).1 := by
  obtain ⟨e1, a1, a2⟩ := off_val h t (by omega) (by omega)
  obtain ⟨e2, b1, b2⟩ := off_val h (t + 86400) (by omega) (by omega)
  rw [e1, e2]
  dsimp only
  cases hz : z.b.zero
  · have hs := Zone.sum_of h hz
    have hl : lday (t + 86400) z.st = lday t z.st + 1 := by unfold lday; omega
    rw [hl] at b1 b2 ⊢
    have i1 := ymdY_in (lday t z.st)
    generalize hY : ymdY (lday t z.st) = Y at *
    have same : ∀ y, 2 ≤ y → y ≤ 7000 → cur z (t + 86400) y = cur z t y := fun y hy hy' => by
      rw [cur_to z t y hz, cur_to z (t + 86400) y hz]
      refine seen_one (cur_seen hs.b hs.e hs.s1 hs.s2 hs.u1 hs.u2 (t + 86400) y hy (by omega)) (seen_tr (cur_seen hs.b hs.e hs.s1 hs.s2 hs.u1 hs.u2 t y hy (by omega)) (fun e he' => ?_)) (fun e => Iff.rfl)
      have key : ¬ (t < e.1 ∧ e.1 ≤ t + 86400) := by
        unfold turns at he'
        simp only [List.mem_cons, List.not_mem_nil, or_false] at he'
        rcases he' with rfl | rfl | rfl | rfl | rfl | rfl
        · exact he _
        · exact hb _
        · exact he _
        · exact hb _
        · exact he _
        · exact hb _
      omega
    by_cases hd : lday t z.st + 1 < ystart (Y + 1)
    · rw [ymdY_of (lday t z.st + 1) Y (by omega) hd]
      exact same Y (by omega) (by omega)
    · have hn : lday t z.st + 1 = ystart (Y + 1) := by omega
      have s2 := ystart_step (Y + 1)
      have l2 := lp_01 (Y + 1)
      rw [ymdY_of (lday t z.st + 1) (Y + 1) (by omega) (by omega), same (Y + 1) (by omega) (by omega)]
      refine (cur_next hz hs t Y (by omega) (by omega) ?_ ?_).symm
      · rw [← hn]; unfold lday; omega
      · rw [← hn]; unfold lday; omega
  · unfold cur
    rw [if_pos hz, if_pos hz]
def offD (z : Zone) (T : Int) (k : Nat) : Int := (offR z (T + 86400 * k)).1
/-- the changes that are counted ahead of round k. -/
def chgH (z : Zone) (T : Int) : Nat → Int
  | 0 => 0
  | 1 => 0
  | k + 2 => chgH z T (k + 1) + (if offD z T (k + 1) ≠ offD z T k then 1 else 0)
open Classical in
/-- whether a turn has come. -/
noncomputable def come (f : Int → Int) (T : Int) (n : Nat) : Int := if ∃ y, T < f y ∧ f y ≤ T + 86400 * n then 1 else 0
theorem come_01 (f : Int → Int) (T : Int) (n : Nat) : 0 ≤ come f T n ∧ come f T n ≤ 1 := by unfold come; split <;> omega
theorem come_mono (f : Int → Int) (T : Int) (n : Nat) : come f T n ≤ come f T (n + 1) := by
  unfold come
  split
  · rename_i h
    obtain ⟨y, h1, h2⟩ := h
    rw [if_pos ⟨y, h1, by push_cast; omega⟩]
    omega
  · split <;> omega
theorem come_new (f : Int → Int) (T : Int) (n : Nat) (hn : n ≤ 350) (hf : ∀ y y', y < y' → f y + 350 * 86400 < f y') (y : Int) (h1 : T + 86400 * n < f y) (h2 : f y ≤ T + 86400 * (n + 1 : Nat)) (hn' : n + 1 ≤ 350) : come f T n + 1 ≤ come f T (n + 1) := by
  have hp : come f T (n + 1) = 1 := by
    unfold come
    rw [if_pos ⟨y, by omega, h2⟩]
  have hm : come f T n = 0 := by
    unfold come
    rw [if_neg]
    rintro ⟨y', k1, k2⟩
    rcases Int.lt_trichotomy y y' with hh | hh | hh
    · have := hf y y' hh; omega
    · subst hh; omega
    · have := hf y' y hh; push_cast at h2; omega
  omega
theorem chg_come {z : Zone} (h : z.fault = (0, 0)) (hz : z.b.zero = false) (T : Int) (ht : -20000000000 ≤ T) (ht' : T ≤ 20000000000) : ∀ n : Nat, n ≤ 350 → chgH z T (n + 1) ≤ come (fun y => tat z.b y z.st) T n + come (fun y => tat z.e y z.su) T n
  | 0, _ => by
    have := come_01 (fun y => tat z.b y z.st) T 0
    have := come_01 (fun y => tat z.e y z.su) T 0
    show (0 : Int) ≤ _
    omega
  | n + 1, hn => by
    have ih := chg_come h hz T ht ht' n (by omega)
    have hs := Zone.sum_of h hz
    have sb : ∀ y y', y < y' → (fun y => tat z.b y z.st) y + 350 * 86400 < (fun y => tat z.b y z.st) y' := fun y y' hy => by
      have := tdn_mono hs.b hy
      dsimp only
      rw [tat_tdn, tat_tdn]
      omega
    have se : ∀ y y', y < y' → (fun y => tat z.e y z.su) y + 350 * 86400 < (fun y => tat z.e y z.su) y' := fun y y' hy => by
      have := tdn_mono hs.e hy
      dsimp only
      rw [tat_tdn, tat_tdn]
      omega
    have mb := come_mono (fun y => tat z.b y z.st) T n
    have me := come_mono (fun y => tat z.e y z.su) T n
    show chgH z T (n + 1) + (if offD z T (n + 1) ≠ offD z T n then 1 else 0) ≤ _
    split
    · rename_i hne
      by_cases hb : ∃ y, T + 86400 * n < tat z.b y z.st ∧ tat z.b y z.st ≤ T + 86400 * n + 86400
      · obtain ⟨y, h1, h2⟩ := hb
        have := come_new (fun y => tat z.b y z.st) T n (by omega) sb y h1 (by push_cast; omega) hn
        omega
      · by_cases he : ∃ y, T + 86400 * n < tat z.e y z.su ∧ tat z.e y z.su ≤ T + 86400 * n + 86400
        · obtain ⟨y, h1, h2⟩ := he
          have := come_new (fun y => tat z.e y z.su) T n (by omega) se y h1 (by push_cast; omega) hn
          omega
        · refine absurd ?_ hne
          have := off_same h (T + 86400 * n) (by omega) (by omega) (fun y hy => hb ⟨y, hy⟩) (fun y hy => he ⟨y, hy⟩)
          unfold offD
          rw [show T + 86400 * ((n + 1 : Nat) : Int) = T + 86400 * n + 86400 by push_cast; omega]
          exact this
    · omega
theorem chg_two {z : Zone} (h : z.fault = (0, 0)) (T : Int) (ht : -20000000000 ≤ T) (ht' : T ≤ 20000000000) (n : Nat) (hn : n ≤ 350) : chgH z T (n + 1) ≤ 2 := by
  cases hz : z.b.zero
  · have := chg_come h hz T ht ht' n hn
    have := come_01 (fun y => tat z.b y z.st) T n
    have := come_01 (fun y => tat z.e y z.su) T n
    omega
  · have h0 : ∀ k, k ≤ 350 → offD z T k = z.st := fun k hk => by
      unfold offD
      rw [(off_val h (T + 86400 * k) (by omega) (by omega)).1]
      unfold cur
      rw [if_pos hz]
    have : ∀ k, k ≤ 350 → chgH z T (k + 1) = 0 := fun k => by
      induction k with
      | zero => intro _; rfl
      | succ k ih =>
        intro hk
        show chgH z T (k + 1) + (if offD z T (k + 1) ≠ offD z T k then 1 else 0) = 0
        rw [ih (by omega), h0 (k + 1) hk, h0 k (by omega)]
        simp
    rw [this n hn]
    omega
/-- the offset is one of the two. -/
theorem off_two {z : Zone} (h : z.fault = (0, 0)) (t : Int) (ht : -21000000000 ≤ t) (ht' : t ≤ 21000000000) : (offR z t).2 = (0, 0) ∧ ((offR z t).1 = z.st ∨ (offR z t).1 = z.su) := by
  obtain ⟨e, y1, y2⟩ := off_val h t ht ht'
  rw [e]
  refine ⟨rfl, ?_⟩
  dsimp only
  cases hz : z.b.zero
  · have hs := Zone.sum_of h hz
    rw [cur_to _ _ _ hz]
    rcases cur_seen hs.b hs.e hs.s1 hs.s2 hs.u1 hs.u2 t (ymdY (lday t z.st)) (by omega) (by omega) with ⟨hp, _⟩ | ⟨_, _, _, _, ⟨hp, _⟩ | ⟨hp, _⟩⟩
    · rw [hp]; exact .inl rfl
    · exact .inl hp
    · exact .inr hp
  · unfold cur
    rw [if_pos hz]
    exact .inl rfl
end Go.Proofs.Ytnjplichhkmmhaa.Cal
