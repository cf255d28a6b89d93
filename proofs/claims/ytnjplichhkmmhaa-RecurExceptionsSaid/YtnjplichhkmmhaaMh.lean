import Derived.Test.YtnjplichhkmmhaaMe
import Derived.Test.YtnjplichhkmmhaaZonW14
/- Plain laws: when turns happen; the offset at an instant does not depend on the window of years. -/
namespace Go.Proofs.Ytnjplichhkmmhaa.Cal
set_option linter.unusedVariables false

theorem tday_in {t : Turn} (h : t.ok = true) (y : Int) : 1 ≤ tday t y ∧ tday t y ≤ mlen y t.mo := by
  have b := Turn.ok_bd h
  have g := gap_bd t y
  have m := mlen_bd y t.mo
  rw [tday_gap h]
  split
  · split <;> omega
  · omega
/-- the day of a turn. -/
def tdn (t : Turn) (y : Int) : Int := dnum y t.mo (tday t y)
theorem tdn_in {t : Turn} (h : t.ok = true) (y : Int) : ystart y ≤ tdn t y ∧ tdn t y < ystart (y + 1) := by
  have b := Turn.ok_bd h
  have d := tday_in h y
  have m := mstart_bd y t.mo b.1 b.2.1
  have s := ystart_step y
  unfold tdn dnum
  omega
theorem tdn_mo {t : Turn} (h : t.ok = true) (y : Int) (hm : t.mo ≤ 11) : tdn t y < ystart (y + 1) - 30 := by
  have b := Turn.ok_bd h
  have d := tday_in h y
  have m := mlen_step y t.mo b.1 hm
  have m1 := mstart_mono y (t.mo + 1) 12 (by omega) (by omega) (by omega)
  have m2 := mstart_12 y
  have s := ystart_step y
  have hl : mlen y 12 = 31 := by simp [mlen]
  unfold tdn dnum
  omega
theorem tdn_wd {t : Turn} (h : t.ok = true) (y : Int) : (tdn t y + 4) % 7 = t.wd := by
  have b := Turn.ok_bd h
  have w : (dnum y t.mo (tday t y) + 4) % 7 = wday y t.mo (tday t y) := rfl
  have e := wday_add y t.mo 1 (tday t y - 1)
  rw [show 1 + (tday t y - 1) = tday t y by omega] at e
  unfold tdn
  rw [w, e]
  have g : gap t y = (t.wd - wday y t.mo 1) % 7 := rfl
  have w1 := wday_bd y t.mo 1
  rw [tday_gap h]
  split
  · split <;> omega
  · omega
theorem mlen_next (y m : Int) : mlen (y + 1) m - mlen y m = if m = 2 then lp (y + 1) - lp y else 0 := by
  unfold mlen
  split
  · omega
  · split <;> omega
theorem mstart_next (y m : Int) : mstart (y + 1) m - mstart y m = if m ≤ 2 then 0 else lp (y + 1) - lp y := by
  unfold mstart
  split <;> omega
theorem tdn_step {t : Turn} (h : t.ok = true) (y : Int) : tdn t y + 351 < tdn t (y + 1) := by
  have b := Turn.ok_bd h
  have g := gap_bd t y
  have g' := gap_bd t (y + 1)
  have s := ystart_step y
  have l := lp_01 y
  have l' := lp_01 (y + 1)
  have m := mlen_bd y t.mo
  have m' := mlen_bd (y + 1) t.mo
  have n1 := mlen_next y t.mo
  have n2 := mstart_next y t.mo
  have d := tday_gap h y
  have d' := tday_gap h (y + 1)
  unfold tdn dnum
  split at n1 <;> split at n2 <;> split at d <;> split at d' <;> (try split at d) <;> (try split at d') <;> omega
theorem tdn_mono {t : Turn} (h : t.ok = true) {y y' : Int} (hy : y < y') : tdn t y + 351 < tdn t y' := by
  by_cases he : y' = y + 1
  · subst he; exact tdn_step h y
  · have a := tdn_step h y
    have b := (tdn_in h (y + 1)).2
    have c := (tdn_in h y').1
    have d := ystart_mono (y + 1 + 1) y' (by omega)
    omega
theorem tat_tdn (t : Turn) (y o : Int) : tat t y o = tdn t y * 86400 + (t.mi - o) * 60 := rfl
theorem seen_tr {z : Zone} {t t' L : Int} {S : List (Int × Bool)} {p : Int × Int} (h : Seen z t L S p) (hS : ∀ e ∈ S, e.1 ≤ t ↔ e.1 ≤ t') : Seen z t' L S p := by
  rcases h with ⟨rfl, h⟩ | ⟨h1, h2, ⟨e, he, hep⟩, h3, h4⟩
  · exact .inl ⟨rfl, fun e he => by have := h e he; have := hS e he; omega⟩
  · refine .inr ⟨h1, by have := hS e he; omega, ⟨e, he, hep⟩, fun e' he' hle => h3 e' he' ((hS e' he').2 hle), ?_⟩
    rcases h4 with h4 | ⟨h4, h5⟩
    · exact .inl h4
    · exact .inr ⟨h4, fun e' he' hb hle => h5 e' he' hb ((hS e' he').2 hle)⟩
/-- turns that are over, or not yet there, can be left out. -/
theorem seen_drop {z : Zone} {t L : Int} {S C : List (Int × Bool)} {p : Int × Int} (h : Seen z t L S p) (hC : ∀ e ∈ C, e ∈ S) (hd : (∀ e ∈ S, e ∈ C ∨ t < e.1) ∨ ∃ c ∈ C, c.1 ≤ t ∧ ∀ e ∈ S, e ∈ C ∨ e.1 < c.1) : Seen z t L C p := by
  rcases h with ⟨rfl, h⟩ | ⟨h1, h2, ⟨e, he, hep⟩, h3, h4⟩
  · exact .inl ⟨rfl, fun e he => h e (hC e he)⟩
  · have key : ∀ e ∈ S, e.1 = p.2 → e ∈ C := fun e he hep => by
      rcases hd with hd | ⟨c, hc, hct, hd⟩
      · rcases hd e he with h | h
        · exact h
        · omega
      · rcases hd e he with h | h
        · exact h
        · have := h3 c (hC c hc) hct
          omega
    refine .inr ⟨h1, h2, ⟨e, key e he hep, hep⟩, fun e' he' => h3 e' (hC e' he'), ?_⟩
    rcases h4 with ⟨h4, e2, he2, hb, hp⟩ | ⟨h4, h5⟩
    · exact .inl ⟨h4, e2, key e2 he2 hp, hb, hp⟩
    · exact .inr ⟨h4, fun e' he' => h5 e' (hC e' he')⟩
/-- what is asked of a zone with summer time. -/
structure Zone.Sum (z : Zone) : Prop where
  b : z.b.ok = true
  e : z.e.ok = true
  s1 : -900 ≤ z.st
  s2 : z.st ≤ 900
  u1 : -900 ≤ z.su
  u2 : z.su ≤ 900
  lt : z.st < z.su
  le : z.su ≤ z.st + 180
  ne : z.b.mo ≠ z.e.mo
theorem Zone.sum_of {z : Zone} (h : z.fault = (0, 0)) (hz : z.b.zero = false) : z.Sum := by
  have hs := Zone.st_of h
  have hu := Zone.su_of h
  rcases Zone.good_of h with hg | ⟨hb, he, _⟩
  · rw [hg] at hz; cases hz
  unfold Zone.fault at h
  split at h
  · simp at h
  split at h
  · simp at h
  rw [if_neg (by simp [hz])] at h
  split at h
  · simp at h
  rename_i hsu
  split at h
  · simp at h
  split at h
  · simp at h
  split at h
  · simp at h
  exact ⟨hb, he, hs.1, hs.2, hu.1, hu.2, by omega, by omega, ‹_›⟩
/-- at the end of a year its window and the next one tell the same. -/
theorem cur_next {z : Zone} (hz : z.b.zero = false) (h : z.Sum) (t y : Int) (hy : 2 ≤ y) (hy' : y ≤ 7000) (ht : ystart (y + 1) * 86400 - 86400 ≤ t + z.st * 60) (ht' : t + z.st * 60 < ystart (y + 1) * 86400) :
    cur z t y = cur z t (y + 1) := by
  have c1 := cur_seen h.b h.e h.s1 h.s2 h.u1 h.u2 t y hy (by omega)
  have c2 := cur_seen h.b h.e h.s1 h.s2 h.u1 h.u2 t (y + 1) (by omega) (by omega)
  rw [cur_to z t y hz, cur_to z t (y + 1) hz]
  have mb := Turn.ok_bd h.b
  have me := Turn.ok_bd h.e
  have lt := h.lt
  have le := h.le
  have b0 := tdn_in h.b (y - 1)
  have b1 := tdn_in h.b y
  have b3 := tdn_in h.b (y + 1 + 1)
  have e0 := tdn_in h.e (y - 1)
  have e1 := tdn_in h.e y
  have e3 := tdn_in h.e (y + 1 + 1)
  have x1 := tdn_step h.b (y - 1)
  have x2 := tdn_step h.e (y - 1)
  have y0 : y - 1 + 1 = y := by omega
  rw [y0] at b0 e0 x1 x2
  have s1 := ystart_step y
  have s2 := ystart_step (y + 1)
  have l1 := lp_01 y
  have l2 := lp_01 (y + 1)
  have w0 := tdn_wd h.b (y - 1)
  have w1 := tdn_wd h.b y
  have t0 := tat_tdn z.b (y - 1) z.st
  have t1 := tat_tdn z.b y z.st
  have t3 := tat_tdn z.b (y + 1 + 1) z.st
  have u0 := tat_tdn z.e (y - 1) z.su
  have u1 := tat_tdn z.e y z.su
  have u3 := tat_tdn z.e (y + 1 + 1) z.su
  have d2 : Seen z t (-4611686018427387904) [(tat z.e (y + 1) z.su, true), (tat z.b (y + 1) z.st, false), (tat z.e y z.su, true), (tat z.b y z.st, false)] (curTo z t (y + 1) 3) := by
    refine seen_drop c2 (fun e he => ?_) (.inl (fun e he => ?_))
    · unfold turns
      rw [show y + 1 - 1 = y by omega]
      exact List.mem_cons_of_mem _ (List.mem_cons_of_mem _ he)
    · unfold turns at he
      rw [show y + 1 - 1 = y by omega] at he
      rcases List.mem_cons.1 he with rfl | he
      · exact .inr (by dsimp only; omega)
      rcases List.mem_cons.1 he with rfl | he
      · exact .inr (by dsimp only; omega)
      · exact .inl he
  have d1 : Seen z t (-4611686018427387904) [(tat z.e (y + 1) z.su, true), (tat z.b (y + 1) z.st, false), (tat z.e y z.su, true), (tat z.b y z.st, false)] (curTo z t y 3) := by
    have key : ∀ c : Int × Bool, c ∈ [(tat z.e (y + 1) z.su, true), (tat z.b (y + 1) z.st, false), (tat z.e y z.su, true), (tat z.b y z.st, false)] → c.1 ≤ t → tat z.e (y - 1) z.su < c.1 → tat z.b (y - 1) z.st < c.1 → Seen z t (-4611686018427387904) [(tat z.e (y + 1) z.su, true), (tat z.b (y + 1) z.st, false), (tat z.e y z.su, true), (tat z.b y z.st, false)] (curTo z t y 3) := fun c hc hct hce hcb => by
      refine seen_drop c1 (fun e he => ?_) (.inr ⟨c, hc, hct, fun e he => ?_⟩)
      · unfold turns
        simp only [List.mem_cons, List.not_mem_nil, or_false] at he ⊢
        rcases he with h | h | h | h <;> simp [h]
      · unfold turns at he
        simp only [List.mem_cons, List.not_mem_nil, or_false] at he ⊢
        rcases he with rfl | rfl | rfl | rfl | rfl | rfl
        · exact .inl (.inl rfl)
        · exact .inl (.inr (.inl rfl))
        · exact .inl (.inr (.inr (.inl rfl)))
        · exact .inl (.inr (.inr (.inr rfl)))
        · exact .inr hce
        · exact .inr hcb
    by_cases hb : tat z.b y z.st ≤ t
    · exact key (tat z.b y z.st, false) (by simp) hb (by dsimp only; omega) (by dsimp only; omega)
    · have hm : ¬ z.b.mo ≤ 11 := fun hm => by
        have := tdn_mo h.b y hm
        omega
      have hm' : z.e.mo ≤ 11 := by have := h.ne; omega
      have q := tdn_mo h.e y hm'
      exact key (tat z.e y z.su, true) (by simp) (by dsimp only; omega) (by dsimp only; omega) (by dsimp only; omega)
  exact seen_one d1 d2 (fun e => Iff.rfl)
end Go.Proofs.Ytnjplichhkmmhaa.Cal
/- Plain laws: the offset changes at most twice within 350 days. -/
namespace Go.Proofs.Ytnjplichhkmmhaa.Cal
set_option linter.unusedVariables false

theorem ymdY_lo (n : Int) (h : -300000 ≤ n) : 1000 ≤ ymdY n := by
  have := ymdY_in n
  rcases Int.lt_or_le (ymdY n) 1000 with hy | hy
  · have := ystart_mono (ymdY n + 1) 1000 (by omega)
    have e : ystart 1000 = -354285 := by decide
    omega
  · exact hy
theorem ymdY_hi (n : Int) (h : n ≤ 300000) : ymdY n ≤ 3000 := by
  have := ymdY_in n
  rcases Int.lt_or_le 3000 (ymdY n) with hy | hy
  · have := ystart_mono 3000 (ymdY n) (by omega)
    have e : ystart 3000 = 376200 := by decide
    omega
  · exact hy
theorem off_val {z : Zone} (h : z.fault = (0, 0)) (t : Int) (ht : -21000000000 ≤ t) (ht' : t ≤ 21000000000) :
    offR z t = (cur z t (ymdY (lday t z.st)), (0, 0)) ∧ 1000 ≤ ymdY (lday t z.st) ∧ ymdY (lday t z.st) ≤ 3000 := by
  have hs := Zone.st_of h
  have l1 : -300000 ≤ lday t z.st := by unfold lday; omega
  have l2 : lday t z.st ≤ 300000 := by unfold lday; omega
  have y1 := ymdY_lo _ l1
  have y2 := ymdY_hi _ l2
  refine ⟨?_, y1, y2⟩
  have hc : chk t = (0, 0) := by unfold chk; rw [if_pos (inR_mk (by omega) (by omega))]
  have hy : (civ t z.st).y = ymdY (lday t z.st) := rfl
  unfold offR
  rw [if_neg (by rw [h]; simp), if_neg (by rw [hc]; simp), hy, if_neg (by rw [inR_mk (by omega) (by omega)]; simp)]
/-- no turn between two instants a day apart: the offset stays. -/
theorem off_same {z : Zone} (h : z.fault = (0, 0)) (t : Int) (ht : -20000000000 ≤ t) (ht' : t ≤ 20500000000)
    (hb : ∀ y, ¬ (t < tat z.b y z.st ∧ tat z.b y z.st ≤ t + 86400)) (he : ∀ y, ¬ (t < tat z.e y z.su ∧ tat z.e y z.su ≤ t + 86400)) : (offR z (t + 86400)).1 = (offR z t).1 := by
  obtain ⟨e1, a1, a2⟩ := off_val h t (by omega) (by omega)
  obtain ⟨e2, b1, b2⟩ := off_val h (t + 86400) (by omega) (by omega)
  rw [e1, e2]
  dsimp only
  cases hz : z.b.zero
  · have hs := Zone.sum_of h hz
    have hl : lday (t + 86400) z.st = lday t z.st + 1 := by unfold lday; omega
    rw [hl] at b1 b2 ⊢
    have i1 := ymdY_in (lday t z.st)
    generalize hY : ymdY (lday t z.st) = Y at *
    have same : ∀ y, 2 ≤ y → y ≤ 7000 → cur z (t + 86400) y = cur z t y := fun y hy hy' => by
      rw [cur_to z t y hz, cur_to z (t + 86400) y hz]
      refine seen_one (cur_seen hs.b hs.e hs.s1 hs.s2 hs.u1 hs.u2 (t + 86400) y hy (by omega)) (seen_tr (cur_seen hs.b hs.e hs.s1 hs.s2 hs.u1 hs.u2 t y hy (by omega)) (fun e he' => ?_)) (fun e => Iff.rfl)
      have key : ¬ (t < e.1 ∧ e.1 ≤ t + 86400) := by
        unfold turns at he'
        simp only [List.mem_cons, List.not_mem_nil, or_false] at he'
        rcases he' with rfl | rfl | rfl | rfl | rfl | rfl
        · exact he _
        · exact hb _
        · exact he _
        · exact hb _
        · exact he _
        · exact hb _
      omega
    by_cases hd : lday t z.st + 1 < ystart (Y + 1)
    · rw [ymdY_of (lday t z.st + 1) Y (by omega) hd]
      exact same Y (by omega) (by omega)
    · have hn : lday t z.st + 1 = ystart (Y + 1) := by omega
      have s2 := ystart_step (Y + 1)
      have l2 := lp_01 (Y + 1)
      rw [ymdY_of (lday t z.st + 1) (Y + 1) (by omega) (by omega), same (Y + 1) (by omega) (by omega)]
      refine (cur_next hz hs t Y (by omega) (by omega) ?_ ?_).symm
      · rw [← hn]; unfold lday; omega
      · rw [← hn]; unfold lday; omega
  · unfold cur
    rw [if_pos hz, if_pos hz]
def offD (z : Zone) (T : Int) (k : Nat) : Int := (offR z (T + 86400 * k)).1
/-- the changes that are counted ahead of round k. -/
def chgH (z : Zone) (T : Int) : Nat → Int
  | 0 => 0
  | 1 => 0
  | k + 2 => chgH z T (k + 1) + (if offD z T (k + 1) ≠ offD z T k then 1 else 0)
open Classical in
/-- whether a turn has come. -/
noncomputable def come (f : Int → Int) (T : Int) (n : Nat) : Int := if ∃ y, T < f y ∧ f y ≤ T + 86400 * n then 1 else 0
theorem come_01 (f : Int → Int) (T : Int) (n : Nat) : 0 ≤ come f T n ∧ come f T n ≤ 1 := by unfold come; split <;> omega
theorem come_mono (f : Int → Int) (T : Int) (n : Nat) : come f T n ≤ come f T (n + 1) := by
  unfold come
  split
  · rename_i h
    obtain ⟨y, h1, h2⟩ := h
    rw [if_pos ⟨y, h1, by push_cast; omega⟩]
    omega
  · split <;> omega
theorem come_new (f : Int → Int) (T : Int) (n : Nat) (hn : n ≤ 350) (hf : ∀ y y', y < y' → f y + 350 * 86400 < f y') (y : Int) (h1 : T + 86400 * n < f y) (h2 : f y ≤ T + 86400 * (n + 1 : Nat)) (hn' : n + 1 ≤ 350) : come f T n + 1 ≤ come f T (n + 1) := by
  have hp : come f T (n + 1) = 1 := by
    unfold come
    rw [if_pos ⟨y, by omega, h2⟩]
  have hm : come f T n = 0 := by
    unfold come
    rw [if_neg]
    rintro ⟨y', k1, k2⟩
    rcases Int.lt_trichotomy y y' with hh | hh | hh
    · have := hf y y' hh; omega
    · subst hh; omega
    · have := hf y' y hh; push_cast at h2; omega
  omega
theorem chg_come {z : Zone} (h : z.fault = (0, 0)) (hz : z.b.zero = false) (T : Int) (ht : -20000000000 ≤ T) (ht' : T ≤ 20000000000) : ∀ n : Nat, n ≤ 350 → chgH z T (n + 1) ≤ come (fun y => tat z.b y z.st) T n + come (fun y => tat z.e y z.su) T n
  | 0, _ => by
    have := come_01 (fun y => tat z.b y z.st) T 0
    have := come_01 (fun y => tat z.e y z.su) T 0
    show (0 : Int) ≤ _
    omega
  | n + 1, hn => by
    have ih := chg_come h hz T ht ht' n (by omega)
    have hs := Zone.sum_of h hz
    have sb : ∀ y y', y < y' → (fun y => tat z.b y z.st) y + 350 * 86400 < (fun y => tat z.b y z.st) y' := fun y y' hy => by
      have := tdn_mono hs.b hy
      dsimp only
      rw [tat_tdn, tat_tdn]
      omega
    have se : ∀ y y', y < y' → (fun y => tat z.e y z.su) y + 350 * 86400 < (fun y => tat z.e y z.su) y' := fun y y' hy => by
      have := tdn_mono hs.e hy
      dsimp only
      rw [tat_tdn, tat_tdn]
      omega
    have mb := come_mono (fun y => tat z.b y z.st) T n
    have me := come_mono (fun y => tat z.e y z.su) T n
    show chgH z T (n + 1) + (if offD z T (n + 1) ≠ offD z T n then 1 else 0) ≤ _
    split
    · rename_i hne
      by_cases hb : ∃ y, T + 86400 * n < tat z.b y z.st ∧ tat z.b y z.st ≤ T + 86400 * n + 86400
      · obtain ⟨y, h1, h2⟩ := hb
        have := come_new (fun y => tat z.b y z.st) T n (by omega) sb y h1 (by push_cast; omega) hn
        omega
      · by_cases he : ∃ y, T + 86400 * n < tat z.e y z.su ∧ tat z.e y z.su ≤ T + 86400 * n + 86400
        · obtain ⟨y, h1, h2⟩ := he
          have := come_new (fun y => tat z.e y z.su) T n (by omega) se y h1 (by push_cast; omega) hn
          omega
        · refine absurd ?_ hne
          have := off_same h (T + 86400 * n) (by omega) (by omega) (fun y hy => hb ⟨y, hy⟩) (fun y hy => he ⟨y, hy⟩)
          unfold offD
          rw [show T + 86400 * ((n + 1 : Nat) : Int) = T + 86400 * n + 86400 by push_cast; omega]
          exact this
    · omega
theorem chg_two {z : Zone} (h : z.fault = (0, 0)) (T : Int) (ht : -20000000000 ≤ T) (ht' : T ≤ 20000000000) (n : Nat) (hn : n ≤ 350) : chgH z T (n + 1) ≤ 2 := by
  cases hz : z.b.zero
  · have := chg_come h hz T ht ht' n hn
    have := come_01 (fun y => tat z.b y z.st) T n
    have := come_01 (fun y => tat z.e y z.su) T n
    omega
  · have h0 : ∀ k, k ≤ 350 → offD z T k = z.st := fun k hk => by
      unfold offD
      rw [(off_val h (T + 86400 * k) (by omega) (by omega)).1]
      unfold cur
      rw [if_pos hz]
    have : ∀ k, k ≤ 350 → chgH z T (k + 1) = 0 := fun k => by
      induction k with
      | zero => intro _; rfl
      | succ k ih =>
        intro hk
        show chgH z T (k + 1) + (if offD z T (k + 1) ≠ offD z T k then 1 else 0) = 0
        rw [ih (by omega), h0 (k + 1) hk, h0 k (by omega)]
        simp
    rw [this n hn]
    omega
/-- the offset is one of the two. -/
theorem off_two {z : Zone} (h : z.fault = (0, 0)) (t : Int) (ht : -21000000000 ≤ t) (ht' : t ≤ 21000000000) : (offR z t).2 = (0, 0) ∧ ((offR z t).1 = z.st ∨ (offR z t).1 = z.su) := by
  obtain ⟨e, y1, y2⟩ := off_val h t ht ht'
  rw [e]
  refine ⟨rfl, ?_⟩
  dsimp only
  cases hz : z.b.zero
  · have hs := Zone.sum_of h hz
    rw [cur_to _ _ _ hz]
    rcases cur_seen hs.b hs.e hs.s1 hs.s2 hs.u1 hs.u2 t (ymdY (lday t z.st)) (by omega) (by omega) with ⟨hp, _⟩ | ⟨_, _, _, _, ⟨hp, _⟩ | ⟨hp, _⟩⟩
    · rw [hp]; exact .inl rfl
    · exact .inl hp
    · exact .inr hp
  · unfold cur
    rw [if_pos hz]
    exact .inl rfl
end Go.Proofs.Ytnjplichhkmmhaa.Cal
/- Plain laws: the local date at an instant, and the instants of a local date. -/
namespace Go.Proofs.Ytnjplichhkmmhaa.Cal
set_option linter.unusedVariables false

def Date.wz (d : Date) (o : Int) : Date := ⟨d.y, d.mo, d.d, d.h, d.mi, d.s, o⟩
theorem secZ_civ (t n : Int) : secZ (civ t n) n = t := by
  have h := (dnum_ymd (lday t n)).1
  have e : secZ (civ t n) n = dnum (ymdY (lday t n)) (ymdM (lday t n)) (ymdD (lday t n)) * 86400 + lsec t n / 3600 * 3600 + (lsec t n / 60 % 60 - n) * 60 + lsec t n % 60 := rfl
  rw [e, h]
  unfold lsec lday
  omega
theorem civ_secZ {d : Date} {o : Int} (h : d.ok = true) (h0 : -900 ≤ o) (h1 : o ≤ 900) : lday (secZ d o) o = dnum d.y d.mo d.d ∧ civ (secZ d o) o = d.wz o := by
  have b := Date.ok_bd h
  have hl : lday (secZ d o) o = dnum d.y d.mo d.d := by unfold lday secZ secs; dsimp only; omega
  have hs : lsec (secZ d o) o = d.h * 3600 + d.mi * 60 + d.s := by unfold lsec secZ secs; dsimp only; omega
  refine ⟨hl, ?_⟩
  have hy := ymd_of (dnum d.y d.mo d.d) d.y d.mo d.d (by omega) (by omega) (by omega) (by omega) rfl
  unfold civ Date.wz
  rw [hl, hs, hy.1, hy.2.1, hy.2.2]
  congr 1 <;> omega
theorem dnum_year {d : Date} (h : d.ok = true) : ystart d.y ≤ dnum d.y d.mo d.d ∧ dnum d.y d.mo d.d < ystart (d.y + 1) := by
  have b := Date.ok_bd h
  have m := mstart_bd d.y d.mo (by omega) (by omega)
  have s := ystart_step d.y
  unfold dnum
  omega
/-- the two years of an instant, by standard and by summer time, tell the same. -/
theorem cur_year {z : Zone} (hz : z.b.zero = false) (h : z.Sum) (t : Int) (hy : 2 ≤ ymdY (lday t z.st)) (hy' : ymdY (lday t z.st) ≤ 7000) : cur z t (ymdY (lday t z.st)) = cur z t (ymdY (lday t z.su)) := by
  have lt := h.lt
  have le := h.le
  have i1 := ymdY_in (lday t z.st)
  have hl : lday t z.su = lday t z.st ∨ lday t z.su = lday t z.st + 1 ∧ lday t z.st * 86400 ≤ t + z.st * 60 := by unfold lday; omega
  have hb : lday t z.st * 86400 ≤ t + z.st * 60 ∧ t + z.st * 60 < lday t z.st * 86400 + 86400 := by unfold lday; omega
  rcases hl with hl | ⟨hl, _⟩
  · rw [hl]
  · rw [hl]
    generalize ymdY (lday t z.st) = Y at *
    by_cases hd : lday t z.st + 1 < ystart (Y + 1)
    · rw [ymdY_of (lday t z.st + 1) Y (by omega) hd]
    · have s2 := ystart_step (Y + 1)
      have l2 := lp_01 (Y + 1)
      rw [ymdY_of (lday t z.st + 1) (Y + 1) (by omega) (by omega)]
      exact cur_next hz h t Y hy hy' (by omega) (by omega)
theorem cur_zero {z : Zone} (hz : z.b.zero = true) (t y : Int) : cur z t y = z.st := by unfold cur; rw [if_pos hz]
theorem offR_of {z : Zone} {t n : Int} (h : offR z t = (n, (0, 0))) : z.fault = (0, 0) ∧ chk t = (0, 0) ∧ inR (ymdY (lday t z.st)) 2 3999 = true ∧ cur z t (ymdY (lday t z.st)) = n := by
  have hy : (civ t z.st).y = ymdY (lday t z.st) := rfl
  unfold offR at h
  rw [hy] at h
  split at h
  · rename_i h1; simp only [Prod.mk.injEq] at h; exact absurd h.2 h1
  split at h
  · rename_i h1; simp only [Prod.mk.injEq] at h; exact absurd h.2 h1
  split at h
  · simp at h
  · rename_i h1 h2 h3
    simp only [Prod.mk.injEq, and_true] at h
    exact ⟨by simpa using h1, by simpa using h2, by simpa using h3, h⟩
theorem cur_or {z : Zone} (h : z.fault = (0, 0)) (t y : Int) (hy : 2 ≤ y) (hy' : y ≤ 8000) : cur z t y = z.st ∨ (cur z t y = z.su ∧ z.b.zero = false) := by
  cases hz : z.b.zero
  · have hs := Zone.sum_of h hz
    rw [cur_to _ _ _ hz]
    rcases cur_seen hs.b hs.e hs.s1 hs.s2 hs.u1 hs.u2 t y hy hy' with ⟨hp, _⟩ | ⟨_, _, _, _, ⟨hp, _⟩ | ⟨hp, _⟩⟩
    · rw [hp]; exact .inl rfl
    · exact .inl hp
    · exact .inr ⟨hp, rfl⟩
  · exact .inl (cur_zero hz t y)
/-- what the law asks of the instants of a date. -/
structure Local (z : Zone) (t : Int) (d : Date) (l : List Int) : Prop where
  has : l.contains t = true
  len : l.length ≤ 2
  each : ∀ s ∈ l, ∃ o, offR z s = (o, (0, 0)) ∧ civilR s o = (d.wz o, (0, 0)) ∧ -68719476736 ≤ s ∧ s ≤ 68719476736 ∧ -900 ≤ o ∧ o ≤ 900
  inc : ∀ a b, l = [a, b] → a < b
theorem local_dates {z : Zone} {t n : Int} {d : Date} (h : offR z t = (n, (0, 0))) (hc : civilR t n = (d, (0, 0))) (hy : inR d.y 3 3998 = true) : locf (d.wz 0) = (0, 0) ∧ Local z t (d.wz 0) (instL z (d.wz 0)) := by
  obtain ⟨hf, hk, hin, hcur⟩ := offR_of h
  have hin := inR_t hin
  have hy := inR_t hy
  have hst := Zone.st_of hf
  have hsu := Zone.su_of hf
  obtain ⟨hdc, hok⟩ : d = civ t n ∧ d.ok = true := by
    unfold civilR at hc
    split at hc
    · simp at hc
    split at hc
    · simp at hc
    split at hc
    · simp at hc
    · rename_i h3
      simp only [Prod.mk.injEq, and_true] at hc
      subst hc
      exact ⟨rfl, by simpa using h3⟩
  have bd := Date.ok_bd hok
  have hdy : d.y = ymdY (lday t n) := by rw [hdc]; rfl
  have hsec : secZ d n = t := by rw [hdc]; exact secZ_civ t n
  have wok : ∀ o, -900 ≤ o → o ≤ 900 → (d.wz o).ok = true := fun o h1 h2 => by
    unfold Date.ok Date.wz at *
    simp only [Bool.and_eq_true] at hok ⊢
    exact ⟨hok.1, hok.2.1, hok.2.2.1, hok.2.2.2.1, hok.2.2.2.2.1, hok.2.2.2.2.2.1, inR_mk h1 h2⟩
  have e0 : ∀ o, secZ (d.wz 0) o = secZ d o := fun o => rfl
  have hyr := dnum_year hok
  have y3 := ystart_mono 3 d.y (by omega)
  have y4 := ystart_mono (d.y + 1) 3999 (by omega)
  have c3 : ystart 3 = -718432 := by decide
  have c4 : ystart 3999 = 741077 := by decide
  have hsb : ∀ o, -900 ≤ o → o ≤ 900 → -68719476736 ≤ secZ d o ∧ secZ d o ≤ 68719476736 := fun o h1 h2 => by unfold secZ secs; dsimp only; omega
  -- the fault of the date
  refine ⟨?_, ?_⟩
  · have h0 : dfault (d.wz 0) = (0, 0) := if_pos (wok 0 (by omega) (by omega))
    unfold locf
    rw [if_neg (by rw [h0]; simp), if_neg (show ¬ (d.wz 0).z ≠ 0 by simp [Date.wz])]
    rw [if_neg (show ¬ inR (d.wz 0).y 3 3998 = false by rw [show (d.wz 0).y = d.y from rfl, inR_mk hy.1 hy.2]; simp)]
  -- each instant
  have key : ∀ o, (o = z.st ∨ o = z.su ∧ z.b.zero = false) → cur z (secZ d o) d.y = o → offR z (secZ d o) = (o, (0, 0)) ∧ civilR (secZ d o) o = (d.wz o, (0, 0)) := fun o ho hcu => by
    have ob : -900 ≤ o ∧ o ≤ 900 := by rcases ho with rfl | ⟨rfl, _⟩ <;> omega
    have hsb' := hsb o ob.1 ob.2
    obtain ⟨hl, hci⟩ := civ_secZ hok ob.1 ob.2
    refine ⟨?_, ?_⟩
    · have hchk : chk (secZ d o) = (0, 0) := by unfold chk; rw [if_pos (inR_mk hsb'.1 hsb'.2)]
      have hyy : (civ (secZ d o) z.st).y = ymdY (lday (secZ d o) z.st) := rfl
      have hsame : ymdY (lday (secZ d o) z.st) = d.y ∨ (ymdY (lday (secZ d o) z.st) = d.y - 1 ∧ z.b.zero = false ∧ o = z.su) := by
        rcases ho with rfl | ⟨rfl, hz⟩
        · left
          rw [hl]
          exact ymdY_of _ _ hyr.1 hyr.2
        · have hs := Zone.sum_of hf hz
          have lt := hs.lt
          have le := hs.le
          have hll : lday (secZ d z.su) z.st = lday (secZ d z.su) z.su ∨ lday (secZ d z.su) z.st = lday (secZ d z.su) z.su - 1 := by unfold lday; omega
          rw [hl] at hll
          rcases hll with hll | hll
          · left; rw [hll]; exact ymdY_of _ _ hyr.1 hyr.2
          · rw [hll]
            by_cases hd : ystart d.y ≤ dnum d.y d.mo d.d - 1
            · left; exact ymdY_of _ _ hd (by omega)
            · right
              have ss := ystart_step (d.y - 1)
              have ls := lp_01 (d.y - 1)
              rw [show d.y - 1 + 1 = d.y by omega] at ss
              exact ⟨ymdY_of _ _ (by omega) (by rw [show d.y - 1 + 1 = d.y by omega]; omega), hz, rfl⟩
      have hval : cur z (secZ d o) (ymdY (lday (secZ d o) z.st)) = o := by
        rcases hsame with hs | ⟨hs, hz, rfl⟩
        · rw [hs]; exact hcu
        · have hss := Zone.sum_of hf hz
          have := cur_year hz hss (secZ d z.su) (by omega) (by omega)
          rw [this, hl, ymdY_of _ _ hyr.1 hyr.2]
          exact hcu
      unfold offR
      rw [if_neg (by rw [hf]; simp), if_neg (by rw [hchk]; simp), hyy, if_neg (by rw [inR_mk (by omega) (by omega)]; simp), hval]
    · unfold civilR
      rw [if_neg (by rw [inR_mk hsb'.1 hsb'.2]; simp), if_neg (by rw [inR_mk ob.1 ob.2]; simp), hci, if_neg (by rw [wok o ob.1 ob.2]; simp)]
  have hmo : z.b.zero = false → 0 < z.b.mo := fun hz => (Zone.lt_of hf hz).2
  have hmo' : 0 < z.b.mo → z.b.zero = false := fun hz => by
    cases hc : z.b.zero
    · rfl
    · have := Zone.mo_of hc; omega
  -- t is one of them
  have ht : (n = z.su ∧ z.b.zero = false ∧ cur z (secZ d z.su) d.y = z.su) ∨ (n = z.st ∧ cur z (secZ d z.st) d.y = z.st) := by
    rcases cur_or hf t (ymdY (lday t z.st)) hin.1 (by omega) with hh | ⟨hh, hz⟩
    · right
      have hn : n = z.st := by rw [← hcur, hh]
      subst hn
      refine ⟨rfl, ?_⟩
      rw [hsec, hdy]
      exact hh
    · left
      have hn : n = z.su := by rw [← hcur, hh]
      subst hn
      refine ⟨rfl, hz, ?_⟩
      rw [hsec, hdy, ← cur_year hz (Zone.sum_of hf hz) t hin.1 (by omega)]
      exact hh
  have hI : instL z (d.wz 0) = (if 0 < z.b.mo ∧ cur z (secZ d z.su) d.y = z.su then [secZ d z.su] else []) ++ (if cur z (secZ d z.st) d.y = z.st then [secZ d z.st] else []) := rfl
  refine ⟨?_, ?_, ?_, ?_⟩
  · rw [hI]
    rcases ht with ⟨hn, hz, hh⟩ | ⟨hn, hh⟩
    · rw [if_pos ⟨hmo hz, hh⟩, ← hn, hsec]; simp
    · rw [if_pos hh, ← hn, hsec]; simp
  · rw [hI, List.length_append]
    split <;> split <;> simp
  · intro s hs
    rw [hI, List.mem_append] at hs
    rcases hs with hs | hs
    · split at hs
      · rename_i hh
        simp at hs
        subst hs
        have := key z.su (.inr ⟨rfl, hmo' hh.1⟩) hh.2
        have hb := hsb z.su hsu.1 hsu.2
        exact ⟨z.su, this.1, this.2, hb.1, hb.2, hsu.1, hsu.2⟩
      · simp at hs
    · split at hs
      · rename_i hh
        simp at hs
        subst hs
        have := key z.st (.inl rfl) hh
        have hb := hsb z.st hst.1 hst.2
        exact ⟨z.st, this.1, this.2, hb.1, hb.2, hst.1, hst.2⟩
      · simp at hs
  · intro a b hab
    rw [hI] at hab
    split at hab
    · rename_i hh
      split at hab
      · simp at hab
        have := Zone.lt_of hf (hmo' hh.1)
        rw [← hab.1, ← hab.2, secZ_sub d z.su, secZ_sub d z.st]
        omega
      · simp at hab
    · split at hab <;> simp at hab
end Go.Proofs.Ytnjplichhkmmhaa.Cal
