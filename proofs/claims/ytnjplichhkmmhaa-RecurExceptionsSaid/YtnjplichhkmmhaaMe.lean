import Derived.Test.YtnjplichhkmmhaaMb
/- Plain laws: turns. -/
namespace Go.Proofs.Ytnjplichhkmmhaa.Cal
set_option linter.unusedVariables false

theorem Turn.ok_bd {t : Turn} (h : t.ok = true) : 1 ≤ t.mo ∧ t.mo ≤ 12 ∧ 1 ≤ t.wk ∧ t.wk ≤ 5 ∧ 0 ≤ t.wd ∧ t.wd ≤ 6 ∧ 0 ≤ t.mi ∧ t.mi ≤ 1439 := by
  unfold Turn.ok at h
  simp only [Bool.and_eq_true] at h
  obtain ⟨h1, h2, h3, h4⟩ := h
  have := inR_t h1
  have := inR_t h2
  have := inR_t h3
  have := inR_t h4
  omega
theorem wday_bd (y m d : Int) : 0 ≤ wday y m d ∧ wday y m d ≤ 6 := by unfold wday; omega
theorem tday_bd {t : Turn} (h : t.ok = true) (y : Int) : 1 ≤ tday t y ∧ tday t y ≤ 31 := by
  have b := Turn.ok_bd h
  have m := mlen_bd y t.mo
  unfold tday
  split <;> omega
/-- a turn's day lies in its month, at its weekday, and is told by that. -/
theorem wday_add (y m d k : Int) : wday y m (d + k) = (wday y m d + k) % 7 := by unfold wday dnum; omega
/-- a zone whose turns can be reckoned. -/
def Zone.good (z : Zone) : Prop := z.b.zero = true ∨ (z.b.ok = true ∧ z.e.ok = true ∧ -900 ≤ z.st ∧ z.st ≤ 900 ∧ -900 ≤ z.su ∧ z.su ≤ 900)
theorem Zone.good_of {z : Zone} (h : z.fault = (0, 0)) : z.good := by
  unfold Zone.fault at h
  split at h
  · simp at h
  split at h
  · simp at h
  rename_i hst
  split at h
  · exact .inl ‹_›
  split at h
  · simp at h
  rename_i hsu
  split at h
  · simp at h
  split at h
  · simp at h
  have h1 := inR_t (by simpa using hst)
  have h2 : inR z.su (-900) 900 = true := by
    cases hc : inR z.su (-900) 900
    · exact absurd (.inl hc) hsu
    · rfl
  have h2 := inR_t h2
  refine .inr ⟨by simpa using ‹¬z.b.ok = false›, by simpa using ‹¬z.e.ok = false›, h1.1, h1.2, h2.1, h2.2⟩
def curTo (z : Zone) (t y : Int) : Nat → Int × Int
  | 0 => (z.st, -4611686018427387904)
  | k + 1 => stepY z t (y - 1 + k) (curTo z t y k)
theorem cur_to (z : Zone) (t y : Int) (h : z.b.zero = false) : cur z t y = (curTo z t y 3).1 := by
  unfold cur
  rw [if_neg (by simp [h])]
  simp only [curTo]
  have e1 : y - 1 + ((0 : Nat) : Int) = y - 1 := by omega
  have e2 : y - 1 + ((1 : Nat) : Int) = y := by omega
  have e3 : y - 1 + ((2 : Nat) : Int) = y + 1 := by omega
  rw [e1, e2, e3]
theorem stepB_t {z : Zone} {t n : Int} {p : Int × Int} (h : n ≤ t) (h' : p.2 < n) : stepB z t n p = (z.su, n) := if_pos ⟨h, h'⟩
theorem stepB_f {z : Zone} {t n : Int} {p : Int × Int} (h : t < n ∨ n ≤ p.2) : stepB z t n p = p := if_neg (by omega)
theorem stepE_t {z : Zone} {t n : Int} {p : Int × Int} (h : n ≤ t) (h' : p.2 ≤ n) : stepE z t n p = (z.st, n) := if_pos ⟨h, h'⟩
theorem stepE_f {z : Zone} {t n : Int} {p : Int × Int} (h : t < n ∨ n < p.2) : stepE z t n p = p := if_neg (by omega)
theorem Zone.st_of {z : Zone} (h : z.fault = (0, 0)) : -900 ≤ z.st ∧ z.st ≤ 900 := by
  unfold Zone.fault at h
  split at h
  · simp at h
  split at h
  · simp at h
  rename_i hst
  exact inR_t (by simpa using hst)
theorem Zone.name_of {z : Zone} (h : z.fault = (0, 0)) : isName z.name = true := by
  unfold Zone.fault at h
  split at h
  · simp at h
  · simpa using ‹¬isName z.name = false›
/-- what Offset hands back. -/
def offR (z : Zone) (t : Int) : Int × (Int × Int) :=
  if z.fault ≠ (0, 0) then (0, z.fault)
  else if chk t ≠ (0, 0) then (0, chk t)
  else if inR (civ t z.st).y 2 3999 = false then (0, (3, -8))
  else (cur z t (civ t z.st).y, (0, 0))
theorem chk_of {t : Int} (h : chk t = (0, 0)) : -68719476736 ≤ t ∧ t ≤ 68719476736 := by
  unfold chk at h
  split at h
  · exact inR_t ‹_›
  · simp at h
/-- '==' of faults, as the walk has it. -/
theorem pair_no {k : Int × Int} (h : k ≠ (0, 0)) : (k.1 == 0 && k.2 == 0) = false := by
  obtain ⟨a, b⟩ := k
  simp at h ⊢
  exact h
theorem pair_no' {k : Int × Int} (h : k ≠ (0, 0)) : (!(k.1 == 0) || !(k.2 == 0)) = true := by
  obtain ⟨a, b⟩ := k
  simp at h ⊢
  by_cases h1 : a = 0
  · exact .inr (h h1)
  · exact .inl h1
end Go.Proofs.Ytnjplichhkmmhaa.Cal
/- Plain laws: a turn's day by counting; the offset does not depend on the order in which the turns are looked at. -/
namespace Go.Proofs.Ytnjplichhkmmhaa.Cal
set_option linter.unusedVariables false

/-- how far the first day of the weekday lies behind the first of the month. -/
def gap (t : Turn) (y : Int) : Int := (t.wd - wday y t.mo 1) % 7
def cnt (a d : Int) : Int := (d + 5 - a) / 7
def lst (a d : Int) : Int := if cnt a d = 0 then 0 else 1 + a + 7 * (cnt a d - 1)
theorem gap_bd (t : Turn) (y : Int) : 0 ≤ gap t y ∧ gap t y ≤ 6 := by unfold gap; omega
theorem tday_gap {t : Turn} (h : t.ok = true) (y : Int) : tday t y = if t.wk = 5 then (if 29 + gap t y ≤ mlen y t.mo then 29 + gap t y else 22 + gap t y) else 1 + gap t y + 7 * (t.wk - 1) := by
  have b := Turn.ok_bd h
  have m := mlen_bd y t.mo
  have w := wday_bd y t.mo 1
  have e := wday_add y t.mo 1 (mlen y t.mo - 1)
  rw [show 1 + (mlen y t.mo - 1) = mlen y t.mo by omega] at e
  unfold tday gap
  rw [e]
  split
  · split <;> omega
  · omega
theorem cnt_step {a d f w : Int} (hf : 0 ≤ f) (hf' : f ≤ 6) (hw : 0 ≤ w) (hw' : w ≤ 6) (ha : a = (w - f) % 7) (hd : 1 ≤ d) :
    ((f + d - 1) % 7 = w → cnt a (d + 1) = cnt a d + 1 ∧ d = 1 + a + 7 * cnt a d) ∧ ((f + d - 1) % 7 ≠ w → cnt a (d + 1) = cnt a d) := by
  unfold cnt
  omega

/-! the offset -/
/-- one turn: its instant, and whether it is an End. -/
def stepT (z : Zone) (t : Int) (p : Int × Int) (e : Int × Bool) : Int × Int := if e.2 = true then stepE z t e.1 p else stepB z t e.1 p
/-- what is known of the offset behind some turns. -/
def Seen (z : Zone) (t L : Int) (S : List (Int × Bool)) (p : Int × Int) : Prop :=
  (p = (z.st, L) ∧ ∀ e ∈ S, t < e.1) ∨
  (L < p.2 ∧ p.2 ≤ t ∧ (∃ e ∈ S, e.1 = p.2) ∧ (∀ e ∈ S, e.1 ≤ t → e.1 ≤ p.2) ∧
    ((p.1 = z.st ∧ ∃ e ∈ S, e.2 = true ∧ e.1 = p.2) ∨ (p.1 = z.su ∧ ∀ e ∈ S, e.2 = true → e.1 ≤ t → e.1 < p.2)))
theorem seen_nil (z : Zone) (t L : Int) : Seen z t L [] (z.st, L) := .inl ⟨rfl, fun _ h => by cases h⟩
theorem seen_step {z : Zone} {t L : Int} {S : List (Int × Bool)} {p : Int × Int} (h : Seen z t L S p) (e : Int × Bool) (hL : L < e.1) : Seen z t L (e :: S) (stepT z t p e) := by
  obtain ⟨n, b⟩ := e
  dsimp only at hL
  by_cases hn : n ≤ t
  · cases b with
    | true =>
      unfold stepT
      rw [if_pos rfl]
      dsimp only
      rcases h with ⟨rfl, h⟩ | ⟨h1, h2, ⟨e', he', hep⟩, h3, h4⟩
      · rw [stepE_t hn (by dsimp only; omega)]
        refine .inr ⟨hL, hn, ⟨_, List.mem_cons_self, rfl⟩, fun e he hle => ?_, .inl ⟨rfl, _, List.mem_cons_self, rfl, rfl⟩⟩
        rcases List.mem_cons.1 he with rfl | he
        · exact Int.le_refl _
        · have := h e he; omega
      · by_cases hp : p.2 ≤ n
        · rw [stepE_t hn hp]
          refine .inr ⟨hL, hn, ⟨_, List.mem_cons_self, rfl⟩, fun e he hle => ?_, .inl ⟨rfl, _, List.mem_cons_self, rfl, rfl⟩⟩
          rcases List.mem_cons.1 he with rfl | he
          · exact Int.le_refl _
          · have := h3 e he hle; dsimp only; omega
        · rw [stepE_f (by omega)]
          refine .inr ⟨h1, h2, ⟨e', List.mem_cons_of_mem _ he', hep⟩, fun e he hle => ?_, ?_⟩
          · rcases List.mem_cons.1 he with rfl | he
            · dsimp only; omega
            · exact h3 e he hle
          · rcases h4 with ⟨h4, e2, he2, h5⟩ | ⟨h4, h5⟩
            · exact .inl ⟨h4, e2, List.mem_cons_of_mem _ he2, h5⟩
            · refine .inr ⟨h4, fun e he hb hle => ?_⟩
              rcases List.mem_cons.1 he with rfl | he
              · dsimp only; omega
              · exact h5 e he hb hle
    | false =>
      unfold stepT
      rw [if_neg (by simp)]
      dsimp only
      rcases h with ⟨rfl, h⟩ | ⟨h1, h2, ⟨e', he', hep⟩, h3, h4⟩
      · rw [stepB_t hn (by dsimp only; omega)]
        refine .inr ⟨hL, hn, ⟨_, List.mem_cons_self, rfl⟩, fun e he hle => ?_, .inr ⟨rfl, fun e he hb hle => ?_⟩⟩
        · rcases List.mem_cons.1 he with rfl | he
          · exact Int.le_refl _
          · have := h e he; omega
        · rcases List.mem_cons.1 he with rfl | he
          · cases hb
          · have := h e he; omega
      · by_cases hp : p.2 < n
        · rw [stepB_t hn hp]
          refine .inr ⟨hL, hn, ⟨_, List.mem_cons_self, rfl⟩, fun e he hle => ?_, .inr ⟨rfl, fun e he hb hle => ?_⟩⟩
          · rcases List.mem_cons.1 he with rfl | he
            · exact Int.le_refl _
            · have := h3 e he hle; dsimp only; omega
          · rcases List.mem_cons.1 he with rfl | he
            · cases hb
            · have := h3 e he hle; dsimp only; omega
        · rw [stepB_f (by omega)]
          refine .inr ⟨h1, h2, ⟨e', List.mem_cons_of_mem _ he', hep⟩, fun e he hle => ?_, ?_⟩
          · rcases List.mem_cons.1 he with rfl | he
            · dsimp only; omega
            · exact h3 e he hle
          · rcases h4 with ⟨h4, e2, he2, h5⟩ | ⟨h4, h5⟩
            · exact .inl ⟨h4, e2, List.mem_cons_of_mem _ he2, h5⟩
            · refine .inr ⟨h4, fun e he hb hle => ?_⟩
              rcases List.mem_cons.1 he with rfl | he
              · cases hb
              · exact h5 e he hb hle
  · have hs : stepT z t p (n, b) = p := by
      unfold stepT
      cases b
      · rw [if_neg (by simp)]; exact stepB_f (by omega)
      · rw [if_pos rfl]; exact stepE_f (by omega)
    rw [hs]
    rcases h with ⟨rfl, h⟩ | ⟨h1, h2, ⟨e', he', hep⟩, h3, h4⟩
    · refine .inl ⟨rfl, fun e he => ?_⟩
      rcases List.mem_cons.1 he with rfl | he
      · dsimp only; omega
      · exact h e he
    · refine .inr ⟨h1, h2, ⟨e', List.mem_cons_of_mem _ he', hep⟩, fun e he hle => ?_, ?_⟩
      · rcases List.mem_cons.1 he with rfl | he
        · exact absurd hle hn
        · exact h3 e he hle
      · rcases h4 with ⟨h4, e2, he2, h5⟩ | ⟨h4, h5⟩
        · exact .inl ⟨h4, e2, List.mem_cons_of_mem _ he2, h5⟩
        · refine .inr ⟨h4, fun e he hb hle => ?_⟩
          rcases List.mem_cons.1 he with rfl | he
          · exact absurd hle hn
          · exact h5 e he hb hle
theorem seen_one {z : Zone} {t L L' : Int} {S S' : List (Int × Bool)} {p p' : Int × Int} (h : Seen z t L S p) (h' : Seen z t L' S' p') (hS : ∀ e, e ∈ S ↔ e ∈ S') : p.1 = p'.1 := by
  rcases h with ⟨rfl, h⟩ | ⟨h1, h2, ⟨e, he, hep⟩, h3, h4⟩
  · rcases h' with ⟨rfl, h'⟩ | ⟨k1, k2, ⟨e', he', hep'⟩, k3, k4⟩
    · rfl
    · have := h e' ((hS _).2 he'); omega
  · rcases h' with ⟨rfl, h'⟩ | ⟨k1, k2, ⟨e', he', hep'⟩, k3, k4⟩
    · have := h' e ((hS _).1 he); omega
    · have a1 := k3 e ((hS _).1 he) (by omega)
      have a2 := h3 e' ((hS _).2 he') (by omega)
      have a3 : p.2 = p'.2 := by omega
      rcases h4 with ⟨h4, e2, he2, hb2, h5⟩ | ⟨h4, h5⟩
      · rcases k4 with ⟨k4, _⟩ | ⟨k4, k5⟩
        · rw [h4, k4]
        · have := k5 e2 ((hS _).1 he2) hb2 (by omega); omega
      · rcases k4 with ⟨k4, e2, he2, hb2, k5⟩ | ⟨k4, k5⟩
        · have := h5 e2 ((hS _).2 he2) hb2 (by omega); omega
        · rw [h4, k4]
/-- the turns of three years. -/
def turns (z : Zone) (y : Int) : List (Int × Bool) := [(tat z.e (y + 1) z.su, true), (tat z.b (y + 1) z.st, false), (tat z.e y z.su, true), (tat z.b y z.st, false), (tat z.e (y - 1) z.su, true), (tat z.b (y - 1) z.st, false)]
theorem stepY_T (z : Zone) (t y : Int) (p : Int × Int) : stepY z t y p = stepT z t (stepT z t p (tat z.b y z.st, false)) (tat z.e y z.su, true) := by
  unfold stepY stepT
  rw [if_pos rfl, if_neg (by simp)]
/-- the reference's way: from the last year on. -/
def refTo (z : Zone) (t y : Int) : Nat → Int × Int
  | 0 => (z.st, -1152921504606846976)
  | k + 1 => stepY z t (y + 1 - k) (refTo z t y k)
theorem tat_bd {t : Turn} (h : t.ok = true) (y o : Int) (hy : 1 ≤ y) (hy' : y ≤ 9000) (ho : -900 ≤ o) (ho' : o ≤ 900) : -80000000000 ≤ tat t y o ∧ tat t y o ≤ 300000000000 := by
  have b := Turn.ok_bd h
  have d := tday_bd h y
  have n := dnum_bd y t.mo (tday t y) hy (by omega) b.1 b.2.1 (by omega) (by omega)
  unfold tat
  omega
theorem cur_seen {z : Zone} (hb : z.b.ok = true) (he : z.e.ok = true) (h1 : -900 ≤ z.st) (h2 : z.st ≤ 900) (h3 : -900 ≤ z.su) (h4 : z.su ≤ 900) (t y : Int) (hy : 2 ≤ y) (hy' : y ≤ 8000) :
    Seen z t (-4611686018427387904) (turns z y) (curTo z t y 3) := by
  have b1 := tat_bd hb (y - 1) z.st (by omega) (by omega) h1 h2
  have b2 := tat_bd hb y z.st (by omega) (by omega) h1 h2
  have b3 := tat_bd hb (y + 1) z.st (by omega) (by omega) h1 h2
  have e1 := tat_bd he (y - 1) z.su (by omega) (by omega) h3 h4
  have e2 := tat_bd he y z.su (by omega) (by omega) h3 h4
  have e3 := tat_bd he (y + 1) z.su (by omega) (by omega) h3 h4
  simp only [curTo, stepY_T]
  rw [show y - 1 + ((0 : Nat) : Int) = y - 1 by omega, show y - 1 + ((1 : Nat) : Int) = y by omega, show y - 1 + ((2 : Nat) : Int) = y + 1 by omega]
  exact seen_step (seen_step (seen_step (seen_step (seen_step (seen_step (seen_nil z t _) _ (by dsimp only; omega)) _ (by dsimp only; omega)) _ (by dsimp only; omega)) _ (by dsimp only; omega)) _ (by dsimp only; omega)) _ (by dsimp only; omega)
theorem ref_seen {z : Zone} (hb : z.b.ok = true) (he : z.e.ok = true) (h1 : -900 ≤ z.st) (h2 : z.st ≤ 900) (h3 : -900 ≤ z.su) (h4 : z.su ≤ 900) (t y : Int) (hy : 2 ≤ y) (hy' : y ≤ 8000) :
    Seen z t (-1152921504606846976) [(tat z.e (y - 1) z.su, true), (tat z.b (y - 1) z.st, false), (tat z.e y z.su, true), (tat z.b y z.st, false), (tat z.e (y + 1) z.su, true), (tat z.b (y + 1) z.st, false)] (refTo z t y 3) := by
  have b1 := tat_bd hb (y - 1) z.st (by omega) (by omega) h1 h2
  have b2 := tat_bd hb y z.st (by omega) (by omega) h1 h2
  have b3 := tat_bd hb (y + 1) z.st (by omega) (by omega) h1 h2
  have e1 := tat_bd he (y - 1) z.su (by omega) (by omega) h3 h4
  have e2 := tat_bd he y z.su (by omega) (by omega) h3 h4
  have e3 := tat_bd he (y + 1) z.su (by omega) (by omega) h3 h4
  simp only [refTo, stepY_T]
  rw [show y + 1 - ((0 : Nat) : Int) = y + 1 by omega, show y + 1 - ((1 : Nat) : Int) = y by omega, show y + 1 - ((2 : Nat) : Int) = y - 1 by omega]
  exact seen_step (seen_step (seen_step (seen_step (seen_step (seen_step (seen_nil z t _) _ (by dsimp only; omega)) _ (by dsimp only; omega)) _ (by dsimp only; omega)) _ (by dsimp only; omega)) _ (by dsimp only; omega)) _ (by dsimp only; omega)
theorem ref_cur {z : Zone} (hz : z.b.zero = false) (hb : z.b.ok = true) (he : z.e.ok = true) (h1 : -900 ≤ z.st) (h2 : z.st ≤ 900) (h3 : -900 ≤ z.su) (h4 : z.su ≤ 900) (t y : Int) (hy : 2 ≤ y) (hy' : y ≤ 8000) :
    (refTo z t y 3).1 = cur z t y := by
  rw [cur_to z t y hz]
  refine seen_one (ref_seen hb he h1 h2 h3 h4 t y hy hy') (cur_seen hb he h1 h2 h3 h4 t y hy hy') (fun e => ?_)
  unfold turns
  simp only [List.mem_cons, List.not_mem_nil, or_false]
  constructor
  · rintro (h | h | h | h | h | h) <;> simp [h]
  · rintro (h | h | h | h | h | h) <;> simp [h]
/-! the instants at which local time is a date -/
def offAt (z : Zone) (n : Nat) : Int := if n = 0 then z.su else z.st
def secZ (d : Date) (o : Int) : Int := secs ⟨d.y, d.mo, d.d, d.h, d.mi, d.s, o⟩
def allTo (z : Zone) (d : Date) : Nat → List Int
  | 0 => []
  | n + 1 => if cur z (secZ d (offAt z n)) d.y = offAt z n ∧ (allTo z d n).contains (secZ d (offAt z n)) = false then allTo z d n ++ [secZ d (offAt z n)] else allTo z d n
def allL (z : Zone) (d : Date) : List Int := allTo z d 2
theorem allTo_len (z : Zone) (d : Date) : ∀ n, (allTo z d n).length ≤ n
  | 0 => by simp [allTo]
  | n + 1 => by
    have := allTo_len z d n
    unfold allTo
    split
    · rw [List.length_append]; simp only [List.length_singleton]; omega
    · omega
theorem Zone.su_of {z : Zone} (h : z.fault = (0, 0)) : -900 ≤ z.su ∧ z.su ≤ 900 := by
  unfold Zone.fault at h
  split at h
  · simp at h
  split at h
  · simp at h
  split at h
  · split at h
    · rename_i hh; omega
    · simp at h
  split at h
  · simp at h
  rename_i hsu
  have h2 : inR z.su (-900) 900 = true := by
    cases hc : inR z.su (-900) 900
    · exact absurd (.inl hc) hsu
    · rfl
  exact inR_t h2
/-- the fault of a local date. -/
def locf (d : Date) : Int × Int :=
  if dfault d ≠ (0, 0) then dfault d
  else if d.z ≠ 0 then (5, -9)
  else if inR d.y 3 3998 = false then (3, -9) else (0, 0)
def instR (z : Zone) (d : Date) : List Int × (Int × Int) :=
  if z.fault ≠ (0, 0) then ([], z.fault) else if locf d ≠ (0, 0) then ([], locf d) else (allL z d, (0, 0))
theorem dfault_ok {d : Date} (h : dfault d = (0, 0)) : d.ok = true := by
  unfold dfault at h
  split at h
  · assumption
  · simp at h
theorem Date.ok_bd {d : Date} (h : d.ok = true) : 1 ≤ d.y ∧ d.y ≤ 4000 ∧ 1 ≤ d.mo ∧ d.mo ≤ 12 ∧ 1 ≤ d.d ∧ d.d ≤ mlen d.y d.mo ∧ 0 ≤ d.h ∧ d.h ≤ 23 ∧ 0 ≤ d.mi ∧ d.mi ≤ 59 ∧ 0 ≤ d.s ∧ d.s ≤ 59 ∧ -900 ≤ d.z ∧ d.z ≤ 900 := by
  unfold Date.ok at h
  simp only [Bool.and_eq_true] at h
  obtain ⟨h1, h2, h3, h4, h5, h6, h7⟩ := h
  have := inR_t h1
  have := inR_t h2
  have := inR_t h3
  have := inR_t h4
  have := inR_t h5
  have := inR_t h6
  have := inR_t h7
  omega
theorem locf_ok {d : Date} (h : locf d = (0, 0)) : d.ok = true ∧ d.z = 0 ∧ 3 ≤ d.y ∧ d.y ≤ 3998 := by
  unfold locf at h
  split at h
  · rename_i hh
    exact absurd h hh
  rename_i h1
  split at h
  · simp at h
  rename_i h2
  split at h
  · simp at h
  rename_i h3
  have := inR_t (by simpa using h3)
  exact ⟨dfault_ok (by simpa using h1), by omega, this.1, this.2⟩
end Go.Proofs.Ytnjplichhkmmhaa.Cal
