import Derived.Test.YtnjplichhkmmhaaMp
import Derived.Test.YtnjplichhkmmhaaMj
/- Plain laws: two ranges that join; a weekly rule of all weekdays. No Go. -/
namespace Go.Proofs.Ytnjplichhkmmhaa.Cal
open Go.Proofs.Ytnjplichhkmmhaa.Base
set_option linter.unusedVariables false
theorem betL_join {z : Zone} {d : Date} {r : Rule} {a b c : Int} (hk : z.fault = (0, 0)) (h1 : a ≤ b) (h2 : b < c) : betL z d r a b ++ betL z d r (b + 1) c = betL z d r a c := by
  obtain ⟨i1, m1⟩ := betL_spec (z := z) (d := d) (r := r) (a := a) (b := b) hk
  obtain ⟨i2, m2⟩ := betL_spec (z := z) (d := d) (r := r) (a := b + 1) (b := c) hk
  obtain ⟨i3, m3⟩ := betL_spec (z := z) (d := d) (r := r) (a := a) (b := c) hk
  refine inc_eq (List.pairwise_append.2 ⟨i1, i2, fun x hx y hy => ?_⟩) i3 (fun u => ?_)
  · have := inR_t ((m1 x).1 hx).1
    have := inR_t ((m2 y).1 hy).1
    omega
  · rw [List.mem_append, m1, m2, m3]
    constructor
    · rintro (⟨h, h'⟩ | ⟨h, h'⟩)
      · have := inR_t h
        exact ⟨inR_mk (by omega) (by omega), h'⟩
      · have := inR_t h
        exact ⟨inR_mk (by omega) (by omega), h'⟩
    · rintro ⟨h, h'⟩
      have := inR_t h
      by_cases hu : u ≤ b
      · exact .inl ⟨inR_mk (by omega) hu, h'⟩
      · exact .inr ⟨inR_mk (by omega) (by omega), h'⟩
theorem btwF_split {z : Zone} {d : Date} {r : Rule} {a b : Int} (h : btwF z d r a b = (0, 0)) : rckF z d r = (0, 0) ∧ inR a (-68719476736) 68719476736 = true ∧ inR b a 68719476736 = true := by
  unfold btwF at h
  split at h
  · simp at h
  · rename_i hn
    refine ⟨h, ?_, ?_⟩
    · cases ha : inR a (-68719476736) 68719476736
      · exact absurd ⟨h, .inl ha⟩ hn
      · rfl
    · cases hb : inR b a 68719476736
      · exact absurd ⟨h, .inr hb⟩ hn
      · rfl
theorem btwF_mk {z : Zone} {d : Date} {r : Rule} {a b : Int} (h : rckF z d r = (0, 0)) (ha : inR a (-68719476736) 68719476736 = true) (hb : inR b a 68719476736 = true) : btwF z d r a b = (0, 0) := by
  unfold btwF
  rw [if_neg, h]
  rintro ⟨_, h | h⟩
  · rw [ha] at h; cases h
  · rw [hb] at h; cases h
theorem btwF_join {z : Zone} {d : Date} {r : Rule} {a b c : Int} (h : btwF z d r a c = (0, 0)) (h1 : a ≤ b) (h2 : b < c) : btwF z d r a b = (0, 0) ∧ btwF z d r (b + 1) c = (0, 0) := by
  obtain ⟨k, ha, hc⟩ := btwF_split h
  have ha' := inR_t ha
  have hc' := inR_t hc
  exact ⟨btwF_mk k ha (inR_mk h1 (by omega)), btwF_mk k (inR_mk (by omega) (by omega)) (inR_mk (by omega) (by omega))⟩
/-- the two rules of the law RecurWeekly. -/
def Rule.daily (r : Rule) : Rule := ⟨1, 1, r.ct, r.un, r.hu, [], r.ex, r.ad⟩
def Rule.week (r : Rule) : Rule := ⟨2, 1, r.ct, r.un, r.hu, [0, 1, 2, 3, 4, 5, 6], r.ex, r.ad⟩
theorem week_fault (r : Rule) : r.week.fault = r.daily.fault := by
  have h1 : wdF r.week = 0 := by
    show (if 0 < ([0, 1, 2, 3, 4, 5, 6] : List Int).length ∧ (2 : Int) ≠ 2 then (5 : Int) else firstC (incC 0 6 [0, 1, 2, 3, 4, 5, 6]) ([0, 1, 2, 3, 4, 5, 6] : List Int).length) = 0
    decide
  have h2 : wdF r.daily = 0 := by
    show (if 0 < ([] : List Int).length ∧ (1 : Int) ≠ 2 then (5 : Int) else firstC (incC 0 6 []) ([] : List Int).length) = 0
    decide
  unfold Rule.fault
  rw [h1, h2]
  rfl
theorem week_on (d : Date) (r : Rule) (n : Int) : onD d r.week n = onD d r.daily n := by
  have hw : ∀ m : Int, 0 ≤ m → m < 7 → ([0, 1, 2, 3, 4, 5, 6] : List Int).contains m = true := fun m h1 h2 => by
    have : m = 0 ∨ m = 1 ∨ m = 2 ∨ m = 3 ∨ m = 4 ∨ m = 5 ∨ m = 6 := by omega
    rcases this with rfl | rfl | rfl | rfl | rfl | rfl | rfl <;> decide
  have e1 : onD d r.week n = true := by
    have h7 := hw ((n - firstD d + wdD d) % 7) (by omega) (by omega)
    unfold onD
    rw [if_neg (show ¬ r.week.fr = 0 by simp [Rule.week]), if_neg (show ¬ r.week.fr = 1 by simp [Rule.week]), if_pos (show r.week.fr = 2 from rfl), show r.week.wd = [0, 1, 2, 3, 4, 5, 6] from rfl, show r.week.ev = 1 from rfl, h7]
    simp [Int.emod_one]
  have e2 : onD d r.daily n = true := by
    unfold onD
    rw [if_neg (show ¬ r.daily.fr = 0 by simp [Rule.daily]), if_pos (show r.daily.fr = 1 from rfl), show r.daily.ev = 1 from rfl]
    simp [Int.emod_one]
  rw [e1, e2]
theorem week_days (d : Date) (r : Rule) : ∀ m, dayL d r.week m = dayL d r.daily m
  | 0 => rfl
  | m + 1 => by
    unfold dayL
    rw [week_days d r m, week_on]
theorem week_reg (z : Zone) (d : Date) (r : Rule) : regL z d r.week = regL z d r.daily := by
  have key : ∀ ds acc, regF z d r.week acc ds = regF z d r.daily acc ds := by
    intro ds
    induction ds with
    | nil => intro acc; rfl
    | cons n ds ih =>
      intro acc
      unfold regF
      split
      · exact ih acc
      · rw [ih]
        rfl
  unfold regL daysL
  rw [week_days, key]
theorem week_bet (z : Zone) (d : Date) (r : Rule) (a b : Int) : betL z d r.week a b = betL z d r.daily a b := by
  unfold betL
  rw [week_reg]
  rfl
theorem week_btw (z : Zone) (d : Date) (r : Rule) (a b : Int) : btwF z d r.week a b = btwF z d r.daily a b := by
  have : rckF z d r.week = rckF z d r.daily := by unfold rckF; rw [week_fault]
  unfold btwF
  rw [this]
end Go.Proofs.Ytnjplichhkmmhaa.Cal
/- Plain laws: an exception takes one instant away; a count takes the first instants. No Go. -/
namespace Go.Proofs.Ytnjplichhkmmhaa.Cal
open Go.Proofs.Ytnjplichhkmmhaa.Base
set_option linter.unusedVariables false
theorem onD_same (d : Date) (n : Int) {r r' : Rule} (h1 : r'.fr = r.fr) (h2 : r'.ev = r.ev) (h3 : r'.wd = r.wd) : onD d r' n = onD d r n := by unfold onD; rw [h1, h2, h3]
theorem dayL_same (d : Date) {r r' : Rule} (h1 : r'.fr = r.fr) (h2 : r'.ev = r.ev) (h3 : r'.wd = r.wd) : ∀ m, dayL d r' m = dayL d r m
  | 0 => rfl
  | m + 1 => by unfold dayL; rw [dayL_same d h1 h2 h3 m, onD_same d _ h1 h2 h3]
theorem regF_same (z : Zone) (d : Date) {r r' : Rule} (h1 : r'.ct = r.ct) (h2 : r'.un = r.un) (h3 : r'.hu = r.hu) : ∀ ds acc, regF z d r' acc ds = regF z d r acc ds
  | [], acc => rfl
  | n :: ds, acc => by
    unfold regF
    split
    · exact regF_same z d h1 h2 h3 ds acc
    · rw [regF_same z d h1 h2 h3 ds, h1, h2, h3]
theorem regF_pre (z : Zone) (d : Date) (r : Rule) : ∀ ds acc, acc <+: regF z d r acc ds
  | [], acc => List.prefix_refl _
  | n :: ds, acc => by
    unfold regF
    split
    · exact regF_pre z d r ds acc
    · split
      · exact List.prefix_refl _
      · split
        · exact List.prefix_append _ _
        · exact (List.prefix_append _ _).trans (regF_pre z d r ds _)
theorem regF_mem {z : Zone} {d : Date} {r : Rule} {u : Int} : ∀ ds acc, u ∈ regF z d r acc ds → u ∈ acc ∨ ∃ n ∈ ds, ∃ l, allL z (dateN n d) = u :: l
  | [], acc, h => .inl h
  | n :: ds, acc, h => by
    unfold regF at h
    split at h
    · rcases regF_mem ds acc h with h | ⟨m, h1, h2⟩
      · exact .inl h
      · exact .inr ⟨m, by simp [h1], h2⟩
    · rename_i t l he
      have key : u ∈ acc ++ [t] → u ∈ acc ∨ ∃ m ∈ n :: ds, ∃ l, allL z (dateN m d) = u :: l := fun h => by
        rcases List.mem_append.1 h with h | h
        · exact .inl h
        · have : u = t := by simpa using h
          subst this
          exact .inr ⟨n, by simp, l, he⟩
      split at h
      · exact .inl h
      · split at h
        · exact key h
        · rcases regF_mem ds _ h with h | ⟨m, h1, h2⟩
          · exact key h
          · exact .inr ⟨m, by simp [h1], h2⟩
theorem dayL_mem {d : Date} {r : Rule} {n : Int} : ∀ m, n ∈ dayL d r m → firstD d ≤ n ∧ n < firstD d + m
  | 0, h => by simp [dayL] at h
  | m + 1, h => by
    unfold dayL at h
    split at h
    · rcases List.mem_append.1 h with h | h
      · have := dayL_mem m h; omega
      · have : n = firstD d + m := by simpa using h
        omega
    · have := dayL_mem m h; omega
theorem regL_mem {z : Zone} {d : Date} {r : Rule} {u : Int} (h : u ∈ regL z d r) : ∃ n, firstD d ≤ n ∧ n ≤ firstD d + 1500 ∧ u ∈ allL z (dateN n d) := by
  rcases regF_mem _ _ h with h | ⟨n, h1, l, h2⟩
  · simp at h
  · have := dayL_mem 1501 h1
    exact ⟨n, this.1, by omega, by rw [h2]; simp⟩
theorem regL_in {z : Zone} {d : Date} {r : Rule} (hk : z.fault = (0, 0)) (hq : locf d = (0, 0)) (hy : d.y ≤ 3980) {u : Int} (h : u ∈ regL z d r) : -68719476736 ≤ u ∧ u ≤ 68719476736 := by
  obtain ⟨n, h1, h2, h3⟩ := regL_mem h
  obtain ⟨o, e, ho, _⟩ := allL_mem h3
  have bd := (FirstOk.of hq hy).bd
  have b := Date.ok_bd (locf_ok hq).1
  have s1 := Zone.st_of hk
  have s2 := Zone.su_of hk
  have : secZ (dateN n d) o = n * 86400 + d.h * 3600 + (d.mi - o) * 60 + d.s := by
    have := (dnum_ymd n).1
    unfold secZ secs dateN
    dsimp only
    rw [this]
  rw [this] at e
  rcases ho with rfl | rfl <;> omega
/-- what a rule without fault has. -/
def Rule.Good (r : Rule) : Prop := inR r.fr 0 4 = true ∧ inR r.ev 1 100 = true ∧ inR r.ct 0 1500 = true ∧ ¬ (r.hu = true ∧ chk r.un ≠ (0, 0)) ∧ ¬ (r.hu = false ∧ r.un ≠ 0) ∧ wdF r = 0 ∧ instF r.ex = 0 ∧ instF r.ad = 0
theorem fault_mk {r : Rule} (h : r.Good) : r.fault = (0, 0) := by
  obtain ⟨h1, h2, h3, h4, h5, h6, h7, h8⟩ := h
  unfold Rule.fault
  rw [if_neg (by rw [h1]; simp), if_neg (by rw [h2]; simp), if_neg (by rw [h3]; simp), if_neg h4, if_neg h5, if_neg (by rw [h6]; simp), if_neg (by rw [h7]; simp), if_neg (by rw [h8]; simp)]
theorem fault_split {r : Rule} (h : r.fault = (0, 0)) : r.Good := by
  unfold Rule.fault at h
  split at h
  · simp at h
  rename_i k1
  split at h
  · simp at h
  rename_i k2
  split at h
  · simp at h
  rename_i k3
  split at h
  · simp at h
  rename_i k4
  split at h
  · simp at h
  rename_i k5
  split at h
  · rename_i k6; simp only [Prod.mk.injEq] at h; exact absurd h.1 k6
  rename_i k6
  split at h
  · rename_i k7; simp only [Prod.mk.injEq] at h; exact absurd h.1 k7
  rename_i k7
  split at h
  · rename_i k8; simp only [Prod.mk.injEq] at h; exact absurd h.1 k8
  rename_i k8
  exact ⟨by simpa using k1, by simpa using k2, by simpa using k3, k4, k5, by simpa using k6, by simpa using k7, by simpa using k8⟩
/-- the rule with one exception. -/
def Rule.exc (r : Rule) (t : Int) : Rule := ⟨r.fr, r.ev, r.ct, r.un, r.hu, r.wd, [t], r.ad⟩
theorem exc_fault {r : Rule} {t : Int} (h : r.fault = (0, 0)) (h1 : -68719476736 ≤ t) (h2 : t ≤ 68719476736) : (r.exc t).fault = (0, 0) := by
  have hi : instF [t] = 0 := by
    unfold instF
    rw [if_neg (by simp)]
    show (if firstC (incC (-68719476736) 68719476736 [t]) 0 ≠ 0 then firstC (incC (-68719476736) 68719476736 [t]) 0 else incC (-68719476736) 68719476736 [t] 0) = 0
    rw [if_neg (by simp [firstC])]
    unfold incC
    simp [h1, h2]
  have k := fault_split h
  exact fault_mk ⟨k.1, k.2.1, k.2.2.1, k.2.2.2.1, k.2.2.2.2.1, k.2.2.2.2.2.1, hi, k.2.2.2.2.2.2.2⟩
theorem exc_bet {z : Zone} {d : Date} {r : Rule} {a b t : Int} (hk : z.fault = (0, 0)) (he : r.ex = []) : betL z d (r.exc t) a b = (betL z d r a b).filter (fun x => x != t || r.ad.contains x) := by
  obtain ⟨i1, m1⟩ := betL_spec (z := z) (d := d) (r := r) (a := a) (b := b) hk
  obtain ⟨i2, m2⟩ := betL_spec (z := z) (d := d) (r := r.exc t) (a := a) (b := b) hk
  have hr : regL z d (r.exc t) = regL z d r := by
    unfold regL daysL
    rw [dayL_same d (r := r) (r' := r.exc t) rfl rfl rfl, regF_same z d (r := r) (r' := r.exc t) rfl rfl rfl]
  refine inc_eq i2 (List.Pairwise.filter _ i1) (fun u => ?_)
  rw [m2, List.mem_filter, m1, hr, he]
  simp only [Rule.exc, List.mem_singleton, Bool.or_eq_true, bne_iff_ne, List.contains_eq_mem, decide_eq_true_eq, List.not_mem_nil, not_false_eq_true, and_true]
  constructor
  · rintro ⟨h1, ⟨h2, h3⟩ | h2⟩
    · exact ⟨⟨h1, .inl h2⟩, .inl h3⟩
    · exact ⟨⟨h1, .inr h2⟩, .inr h2⟩
  · rintro ⟨⟨h1, h2⟩, h3⟩
    rcases h3 with h3 | h3
    · rcases h2 with h2 | h2
      · exact ⟨h1, .inl ⟨h2, h3⟩⟩
      · exact ⟨h1, .inr h2⟩
    · exact ⟨h1, .inr h3⟩
/-- the law's own loop: all elements but that at place i, unless it is added. -/
def wantL (l : List Int) (i : Int) (ad : List Int) : Nat → List Int
  | 0 => []
  | k + 1 => if (k : Int) ≠ i ∨ ad.contains (l.getD k 0) = true then wantL l i ad k ++ [l.getD k 0] else wantL l i ad k
theorem wantL_eq {l : List Int} {i : Nat} {ad : List Int} (hl : Inc l) (hi : i < l.length) : ∀ k, k ≤ l.length → wantL l i ad k = (l.take k).filter (fun x => x != l[i] || ad.contains x)
  | 0, _ => rfl
  | k + 1, hk => by
    have hk' : k < l.length := by omega
    have e : l.getD k 0 = l[k] := by simp [List.getD, List.getElem?_eq_getElem hk']
    have hne : l[k] = l[i] ↔ k = i := ⟨fun h => by
      have P := List.pairwise_iff_getElem.1 hl
      rcases Nat.lt_trichotomy k i with h1 | h1 | h1
      · have := P k i hk' hi h1; omega
      · exact h1
      · have := P i k hi hk' h1; omega, fun h => by subst h; rfl⟩
    rw [List.take_succ_eq_append_getElem hk', List.filter_append, ← wantL_eq hl hi k (by omega)]
    show (if (k : Int) ≠ i ∨ ad.contains (l.getD k 0) = true then wantL l i ad k ++ [l.getD k 0] else wantL l i ad k) = _
    rw [e]
    by_cases hc : (k : Int) ≠ i ∨ ad.contains l[k] = true
    · rw [if_pos hc]
      congr 1
      rw [List.filter_cons, if_pos]
      · rfl
      · rcases hc with h | h
        · have : l[k] ≠ l[i] := fun e => h (by rw [hne.1 e])
          simp [this]
        · simp at h ⊢; exact .inr h
    · rw [if_neg hc]
      have h1 : k = i := Decidable.byContradiction fun h => hc (.inl (by omega))
      have h2 : ad.contains l[k] = false := by
        cases hh : ad.contains l[k]
        · rfl
        · exact absurd (.inr hh) hc
      rw [List.filter_cons, if_neg]
      · simp
      · simp only [hne.2 h1] at h2 ⊢
        simp only [bne_self_eq_false, Bool.false_or]
        rw [h2]
        simp
/-- the rules of the law RecurCounts. -/
def Rule.cnt (r : Rule) (n : Int) : Rule := ⟨r.fr, r.ev, n, r.un, r.hu, r.wd, [], []⟩
theorem cnt_fault {r : Rule} {n : Int} (h : (r.cnt 0).fault = (0, 0)) (h1 : 0 ≤ n) (h2 : n ≤ 1500) : (r.cnt n).fault = (0, 0) := by
  have k := fault_split h
  exact fault_mk ⟨k.1, k.2.1, inR_mk h1 h2, k.2.2.2.1, k.2.2.2.2.1, k.2.2.2.2.2.1, k.2.2.2.2.2.2.1, k.2.2.2.2.2.2.2⟩
theorem cnt_regF (z : Zone) (d : Date) (r : Rule) {n : Nat} : ∀ ds acc, acc.length < n → regF z d (r.cnt n) acc ds = (regF z d (r.cnt 0) acc ds).take n
  | [], acc, h => by
    show acc = acc.take n
    rw [List.take_of_length_le (by omega)]
  | m :: ds, acc, h => by
    unfold regF
    split
    · exact cnt_regF z d r ds acc h
    · rename_i t l _
      show (if r.hu = true ∧ r.un < t then acc else if ((acc ++ [t]).length : Int) = (n : Int) then acc ++ [t] else regF z d (r.cnt n) (acc ++ [t]) ds) = (if r.hu = true ∧ r.un < t then acc else if ((acc ++ [t]).length : Int) = 0 then acc ++ [t] else regF z d (r.cnt 0) (acc ++ [t]) ds).take n
      by_cases hu : r.hu = true ∧ r.un < t
      · rw [if_pos hu, if_pos hu, List.take_of_length_le (by omega)]
      · rw [if_neg hu, if_neg hu, if_neg (show ¬ ((acc ++ [t]).length : Int) = 0 by simp; omega)]
        by_cases hn : ((acc ++ [t]).length : Int) = (n : Int)
        · rw [if_pos hn]
          obtain ⟨rest, e⟩ := regF_pre z d (r.cnt 0) ds (acc ++ [t])
          rw [← e, List.take_append_of_le_length (by omega), List.take_of_length_le (by omega)]
        · rw [if_neg hn]
          exact cnt_regF z d r ds _ (by simp at hn ⊢; omega)
theorem cnt_bet {z : Zone} {d : Date} {r : Rule} {n : Nat} (hk : z.fault = (0, 0)) (hq : locf d = (0, 0)) (hy : d.y ≤ 3980) (hn : 1 ≤ n) : betL z d (r.cnt n) (-68719476736) 68719476736 = (betL z d (r.cnt 0) (-68719476736) 68719476736).take n := by
  have all : ∀ k, betL z d (r.cnt k) (-68719476736) 68719476736 = regL z d (r.cnt k) := fun k => by
    obtain ⟨i1, m1⟩ := betL_spec (z := z) (d := d) (r := r.cnt k) (a := -68719476736) (b := 68719476736) hk
    refine inc_eq i1 (regL_inc hk) (fun u => ?_)
    rw [m1]
    simp only [Rule.cnt, List.not_mem_nil, not_false_eq_true, and_true, or_false]
    exact ⟨fun h => h.2, fun h => ⟨(by have := regL_in hk hq hy h; exact inR_mk this.1 this.2), h⟩⟩
  rw [all, all]
  unfold regL daysL
  rw [dayL_same d (r := r.cnt 0) (r' := r.cnt n) rfl rfl rfl]
  exact cnt_regF z d r _ [] (by simp; omega)
end Go.Proofs.Ytnjplichhkmmhaa.Cal
/- Plain law: at each instant of a rule local time is the time of the start. No Go. -/
namespace Go.Proofs.Ytnjplichhkmmhaa.Cal
open Go.Proofs.Ytnjplichhkmmhaa.Base
set_option linter.unusedVariables false
theorem off_local {z : Zone} {d : Date} {o : Int} (hf : z.fault = (0, 0)) (hq : locf d = (0, 0)) (ho : o = z.st ∨ o = z.su ∧ z.b.zero = false) (hcu : cur z (secZ d o) d.y = o) : offR z (secZ d o) = (o, (0, 0)) ∧ civilR (secZ d o) o = (d.wz o, (0, 0)) := by
  have hst := Zone.st_of hf
  have hsu := Zone.su_of hf
  have hok := (locf_ok hq).1
  have hy := (locf_ok hq).2
  have bd := Date.ok_bd hok
  have wok : ∀ o, -900 ≤ o → o ≤ 900 → (d.wz o).ok = true := fun o h1 h2 => by
    unfold Date.ok Date.wz at *
    simp only [Bool.and_eq_true] at hok ⊢
    exact ⟨hok.1, hok.2.1, hok.2.2.1, hok.2.2.2.1, hok.2.2.2.2.1, hok.2.2.2.2.2.1, inR_mk h1 h2⟩
  have hyr := dnum_year hok
  have y3 := ystart_mono 3 d.y (by omega)
  have y4 := ystart_mono (d.y + 1) 3999 (by omega)
  have c3 : ystart 3 = -718432 := by decide
  have c4 : ystart 3999 = 741077 := by decide
  have hsb : ∀ o, -900 ≤ o → o ≤ 900 → -68719476736 ≤ secZ d o ∧ secZ d o ≤ 68719476736 := fun o h1 h2 => by unfold secZ secs; dsimp only; omega
  have ob : -900 ≤ o ∧ o ≤ 900 := by rcases ho with rfl | ⟨rfl, _⟩ <;> omega
  have hsb' := hsb o ob.1 ob.2
  obtain ⟨hl, hci⟩ := civ_secZ hok ob.1 ob.2
  refine ⟨?_, ?_⟩
  · have hchk : chk (secZ d o) = (0, 0) := by unfold chk; rw [if_pos (inR_mk hsb'.1 hsb'.2)]
    have hyy : (civ (secZ d o) z.st).y = ymdY (lday (secZ d o) z.st) := rfl
    have hsame : ymdY (lday (secZ d o) z.st) = d.y ∨ (ymdY (lday (secZ d o) z.st) = d.y - 1 ∧ z.b.zero = false ∧ o = z.su) := by
      rcases ho with rfl | ⟨rfl, hz⟩
      · left
        rw [hl]
        exact ymdY_of _ _ hyr.1 hyr.2
      · have hs := Zone.sum_of hf hz
        have lt := hs.lt
        have le := hs.le
        have hll : lday (secZ d z.su) z.st = lday (secZ d z.su) z.su ∨ lday (secZ d z.su) z.st = lday (secZ d z.su) z.su - 1 := by unfold lday; omega
        rw [hl] at hll
        rcases hll with hll | hll
        · left; rw [hll]; exact ymdY_of _ _ hyr.1 hyr.2
        · rw [hll]
          by_cases hd : ystart d.y ≤ dnum d.y d.mo d.d - 1
          · left; exact ymdY_of _ _ hd (by omega)
          · right
            have ss := ystart_step (d.y - 1)
            have ls := lp_01 (d.y - 1)
            rw [show d.y - 1 + 1 = d.y by omega] at ss
            exact ⟨ymdY_of _ _ (by omega) (by rw [show d.y - 1 + 1 = d.y by omega]; omega), hz, rfl⟩
    have hval : cur z (secZ d o) (ymdY (lday (secZ d o) z.st)) = o := by
      rcases hsame with hs | ⟨hs, hz, rfl⟩
      · rw [hs]; exact hcu
      · have hss := Zone.sum_of hf hz
        have := cur_year hz hss (secZ d z.su) (by omega) (by omega)
        rw [this, hl, ymdY_of _ _ hyr.1 hyr.2]
        exact hcu
    unfold offR
    rw [if_neg (by rw [hf]; simp), if_neg (by rw [hchk]; simp), hyy, if_neg (by rw [inR_mk (by omega) (by omega)]; simp), hval]
  · unfold civilR
    rw [if_neg (by rw [inR_mk hsb'.1 hsb'.2]; simp), if_neg (by rw [inR_mk ob.1 ob.2]; simp), hci, if_neg (by rw [wok o ob.1 ob.2]; simp)]
theorem reg_local {z : Zone} {d : Date} {r : Rule} {t : Int} (hf : z.fault = (0, 0)) (hq : locf d = (0, 0)) (hy : d.y ≤ 3980) (h : t ∈ regL z d r) : ∃ o y m dd, offR z t = (o, (0, 0)) ∧ civilR t o = (⟨y, m, dd, d.h, d.mi, d.s, o⟩, (0, 0)) ∧ -900 ≤ o ∧ o ≤ 900 := by
  obtain ⟨n, h1, h2, h3⟩ := regL_mem h
  obtain ⟨o, e, ho, hc⟩ := allL_mem h3
  have ho' : o = z.st ∨ o = z.su ∧ z.b.zero = false := by
    rcases ho with ho | ho
    · exact .inl ho
    · cases hz : z.b.zero
      · exact .inr ⟨ho, rfl⟩
      · rw [cur_zero hz] at hc
        exact .inl hc.symm
  rw [e] at hc
  have := off_local hf (dateN_ok hq hy h1 h2) ho' hc
  rw [← e] at this
  have s1 := Zone.st_of hf
  have s2 := Zone.su_of hf
  exact ⟨o, _, _, _, this.1, this.2, by rcases ho with rfl | rfl <;> omega, by rcases ho with rfl | rfl <;> omega⟩
end Go.Proofs.Ytnjplichhkmmhaa.Cal
