/- Plain laws: when turns happen; the offset at an instant does not depend on the window of years. -/
import Derived.Test.YtnjplichhkmmhaaCal3
namespace Go.Proofs.Ytnjplichhkmmhaa.Cal
set_option linter.unusedVariables false

theorem tday_in {t : Turn} (h : t.ok = true) (y : Int) : 1 ≤ tday t y ∧ tday t y ≤ mlen y t.mo := by
  have b := Turn.ok_bd h
  have g := gap_bd t y
  have m := mlen_bd y t.mo
  rw [tday_gap h]
  split
  · split <;> omega
  · omega
/-- the day of a turn. -/
def tdn (t : Turn) (y : Int) : Int := dnum y t.mo (tday t y)
theorem tdn_in {t : Turn} (h : t.ok = true) (y : Int) : ystart y ≤ tdn t y ∧ tdn t y < ystart (y + 1) := by
  have b := Turn.ok_bd h
  have d := tday_in h y
  have m := mstart_bd y t.mo b.1 b.2.1
  have s := ystart_step y
  unfold tdn dnum
  omega
theorem tdn_mo {t : Turn} (h : t.ok = true) (y : Int) (hm : t.mo ≤ 11) : tdn t y < ystart (y + 1) - 30 := by
  have b := Turn.ok_bd h
  have d := tday_in h y
  have m := mlen_step y t.mo b.1 hm
  have m1 := mstart_mono y (t.mo + 1) 12 (by omega) (by omega) (by omega)
  have m2 := mstart_12 y
  have s := ystart_step y
  have hl : mlen y 12 = 31 := by simp [mlen]
  unfold tdn dnum
  omega
theorem tdn_wd {t : Turn} (h : t.ok = true) (y : Int) : (tdn t y + 4) % 7 = t.wd := by
  have b := Turn.ok_bd h
  have w : (dnum y t.mo (tday t y) + 4) % 7 = wday y t.mo (tday t y) := rfl
  have e := wday_add y t.mo 1 (tday t y - 1)
  rw [show 1 + (tday t y - 1) = tday t y by omega] at e
  unfold tdn
  rw [w, e]
  have g : gap t y = (t.wd - wday y t.mo 1) % 7 := rfl
  have w1 := wday_bd y t.mo 1
  rw [tday_gap h]
  split
  · split <;> omega
  · omega
theorem mlen_next (y m : Int) : mlen (y + 1) m - mlen y m = if m = 2 then lp (y + 1) - lp y else 0 := by
  unfold mlen
  split
  · omega
  · split <;> omega
theorem mstart_next (y m : Int) : mstart (y + 1) m - mstart y m = if m ≤ 2 then 0 else lp (y + 1) - lp y := by
  unfold mstart
  split <;> omega
theorem tdn_step {t : Turn} (h : t.ok = true) (y : Int) : tdn t y + 351 < tdn t (y + 1) := by
  have b := Turn.ok_bd h
  have g := gap_bd t y
  have g' := gap_bd t (y + 1)
  have s := ystart_step y
  have l := lp_01 y
  have l' := lp_01 (y + 1)
  have m := mlen_bd y t.mo
  have m' := mlen_bd (y + 1) t.mo
  have n1 := mlen_next y t.mo
  have n2 := mstart_next y t.mo
  have d := tday_gap h y
  have d' := tday_gap h (y + 1)
  unfold tdn dnum
  split at n1 <;> split at n2 <;> split at d <;> split at d' <;> (try split at d) <;> (try split at d') <;> omega
theorem tdn_mono {t : Turn} (h : t.ok = true) {y y' : Int} (hy : y < y') : tdn t y + 351 < tdn t y' := by
  by_cases he : y' = y + 1
  · subst he; exact tdn_step h y
  · have a := tdn_step h y
    have b := (tdn_in h (y + 1)).2
    have c := (tdn_in h y').1
    have d := ystart_mono (y + 1 + 1) y' (by omega)
    omega
theorem tat_tdn (t : Turn) (y o : Int) : tat t y o = tdn t y * 86400 + (t.mi - o) * 60 := rfl
theorem seen_tr {z : Zone} {t t' L : Int} {S : List (Int × Bool)} {p : Int × Int} (h : Seen z t L S p) (hS : ∀ e ∈ S, e.1 ≤ t ↔ e.1 ≤ t') : Seen z t' L S p := by
  rcases h with ⟨rfl, h⟩ | ⟨h1, h2, ⟨e, he, hep⟩, h3, h4⟩
  · exact .inl ⟨rfl, fun e he => by have := h e he; have := hS e he; omega⟩
  · refine .inr ⟨h1, by have := hS e he; omega, ⟨e, he, hep⟩, fun e' he' hle => h3 e' he' ((hS e' he').2 hle), ?_⟩
    rcases h4 with h4 | ⟨h4, h5⟩
    · exact .inl h4
    · exact .inr ⟨h4, fun e' he' hb hle => h5 e' he' hb ((hS e' he').2 hle)⟩
/-- turns that are over, or not yet there, can be left out. -/
theorem seen_drop {z : Zone} {t L : Int} {S C : List (Int × Bool)} {p : Int × Int} (h : Seen z t L S p) (hC : ∀ e ∈ C, e ∈ S) (hd : (∀ e ∈ S, e ∈ C ∨ t < e.1) ∨ ∃ c ∈ C, c.1 ≤ t ∧ ∀ e ∈ S, e ∈ C ∨ e.1 < c.1) : Seen z t L C p := by
  rcases h with ⟨rfl, h⟩ | ⟨h1, h2, ⟨e, he, hep⟩, h3, h4⟩
  · exact .inl ⟨rfl, fun e he => h e (hC e he)⟩
  · have key : ∀ e ∈ S, e.1 = p.2 → e ∈ C := fun e he hep => by
      rcases hd with hd | ⟨c, hc, hct, hd⟩
      · rcases hd e he with h | h
        · exact h
        · omega
      · rcases hd e he with h | h
        · exact h
        · have := h3 c (hC c hc) hct
          omega
    refine .inr ⟨h1, h2, ⟨e, key e he hep, hep⟩, fun e' he' => h3 e' (hC e' he'), ?_⟩
    rcases h4 with ⟨h4, e2, he2, hb, hp⟩ | ⟨h4, h5⟩
    · exact .inl ⟨h4, e2, key e2 he2 hp, hb, hp⟩
    · exact .inr ⟨h4, fun e' he' => h5 e' (hC e' he')⟩
/-- what is asked of a zone with summer time. -/
structure Zone.Sum (z : Zone) : Prop where
  b : z.b.ok = true
  e : z.e.ok = true
  s1 : -900 ≤ z.st
  s2 : z.st ≤ 900
  u1 : -900 ≤ z.su
  u2 : z.su ≤ 900
  lt : z.st < z.su
  le : z.su ≤ z.st + 180
  ne : z.b.mo ≠ z.e.mo
theorem Zone.sum_of {z : Zone} (h : z.fault = (0, 0)) (hz : z.b.zero = false) : z.Sum := by
  have hs := Zone.st_of h
  have hu := Zone.su_of h
  rcases Zone.good_of h with hg | ⟨hb, he, _⟩
  · rw [hg] at hz; cases hz
  unfold Zone.fault at h
  split at h
  · simp at h
  split at h
  · simp at h
  rw [if_neg (by simp [hz])] at h
  split at h
  · simp at h
  rename_i hsu
  split at h
  · simp at h
  split at h
  · simp at h
  split at h
  · simp at h
  exact ⟨hb, he, hs.1, hs.2, hu.1, hu.2, by omega, by omega, ‹_›⟩
/-- at the end of a year its window and the next one tell the same. -/
theorem cur_next {z : Zone} (hz : z.b.zero = false) (h : z.Sum) (t y : Int) (hy : 2 ≤ y) (hy' : y ≤ 7000) (ht : ystart (y + 1) * 86400 - 86400 ≤ t + z.st * 60) (ht' : t + z.st * 60 < ystart (y + 1) * 86400) :
    cur z t y = cur z t (y + 1) := by
  have c1 := cur_seen h.b h.e h.s1 h.s2 h.u1 h.u2 t y hy (by omega)
  have c2 := cur_seen h.b h.e h.s1 h.s2 h.u1 h.u2 t (y + 1) (by omega) (by omega)
  rw [cur_to z t y hz, cur_to z t (y + 1) hz]
  have mb := Turn.ok_bd h.b
  have me := Turn.ok_bd h.e
  have lt := h.lt
  have le := h.le
  have b0 := tdn_in h.b (y - 1)
  have b1 := tdn_in h.b y
  have b3 := tdn_in h.b (y + 1 + 1)
  have e0 := tdn_in h.e (y - 1)
  have e1 := tdn_in h.e y
  have e3 := tdn_in h.e (y + 1 + 1)
  have x1 := tdn_step h.b (y - 1)
  have x2 := tdn_step h.e (y - 1)
  have y0 : y - 1 + 1 = y := by omega
  rw [y0] at b0 e0 x1 x2
  have s1 := ystart_step y
  have s2 := ystart_step (y + 1)
  have l1 := lp_01 y
  have l2 := lp_01 (y + 1)
  have w0 := tdn_wd h.b (y - 1)
  have w1 := tdn_wd h.b y
  have t0 := tat_tdn z.b (y - 1) z.st
  have t1 := tat_tdn z.b y z.st
  have t3 := tat_tdn z.b (y + 1 + 1) z.st
  have u0 := tat_tdn z.e (y - 1) z.su
  have u1 := tat_tdn z.e y z.su
  have u3 := tat_tdn z.e (y + 1 + 1) z.su
  have d2 : Seen z t (-4611686018427387904) [(tat z.e (y + 1) z.su, true), (tat z.b (y + 1) z.st, false), (tat z.e y z.su, true), (tat z.b y z.st, false)] (curTo z t (y + 1) 3) := by
    refine seen_drop c2 (fun e he => ?_) (.inl (fun e he => ?_))
    · unfold turns
      rw [show y + 1 - 1 = y by omega]
      exact List.mem_cons_of_mem _ (List.mem_cons_of_mem _ he)
    · unfold turns at he
      rw [show y + 1 - 1 = y by omega] at he
      rcases List.mem_cons.1 he with rfl | he
      · exact .inr (by dsimp only; omega)
      rcases List.mem_cons.1 he with rfl | he
      · exact .inr (by dsimp only; omega)
      · exact .inl he
  have d1 : Seen z t (-4611686018427387904) [(tat z.e (y + 1) z.su, true), (tat z.b (y + 1) z.st, false), (tat z.e y z.su, true), (tat z.b y z.st, false)] (curTo z t y 3) := by
    have key : ∀ c : Int × Bool, c ∈ [(tat z.e (y + 1) z.su, true), (tat z.b (y + 1) z.st, false), (tat z.e y z.su, true), (tat z.b y z.st, false)] → c.1 ≤ t → tat z.e (y - 1) z.su < c.1 → tat z.b (y - 1) z.st < c.1 → Seen z t (-4611686018427387904) [(tat z.e (y + 1) z.su, true), (tat z.b (y + 1) z.st, false), (tat z.e y z.su, true), (tat z.b y z.st, false)] (curTo z t y 3) := fun c hc hct hce hcb => by
      refine seen_drop c1 (fun e he => ?_) (.inr ⟨c, hc, hct, fun e he => ?_⟩)
      · unfold turns
        simp only [List.mem_cons, List.not_mem_nil, or_false] at he ⊢
        rcases he with h | h | h | h <;> simp [h]
      · unfold turns at he
        simp only [List.mem_cons, List.not_mem_nil, or_false] at he ⊢
        rcases he with rfl | rfl | rfl | rfl | rfl | rfl
        · exact .inl (.inl rfl)
        · exact .inl (.inr (.inl rfl))
        · exact .inl (.inr (.inr (.inl rfl)))
        · exact .inl (.inr (.inr (.inr rfl)))
        · exact .inr hce
        · exact .inr hcb
    by_cases hb : tat z.b y z.st ≤ t
    · exact key (tat z.b y z.st, false) (by simp) hb (by dsimp only; omega) (by dsimp only; omega)
    · have hm : ¬ z.b.mo ≤ 11 := fun hm => by
        have := tdn_mo h.b y hm
        omega
      have hm' : z.e.mo ≤ 11 := by have := h.ne; omega
      have q := tdn_mo h.e y hm'
      exact key (tat z.e y z.su, true) (by simp) (by dsimp only; omega) (by dsimp only; omega) (by dsimp only; omega)
  exact seen_one d1 d2 (fun e => Iff.rfl)
end Go.Proofs.Ytnjplichhkmmhaa.Cal
