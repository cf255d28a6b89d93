/- Plain laws: the local date at an instant, and the instants of a local date. -/
import Derived.Test.YtnjplichhkmmhaaCal5
import Derived.Test.YtnjplichhkmmhaaZonW14
namespace Go.Proofs.Ytnjplichhkmmhaa.Cal
set_option linter.unusedVariables false

def Date.wz (d : Date) (o : Int) : Date := ⟨d.y, d.mo, d.d, d.h, d.mi, d.s, o⟩
theorem secZ_civ (t n : Int) : secZ (civ t n) n = t := by
  have h := (dnum_ymd (lday t n)).1
  have e : secZ (civ t n) n = dnum (ymdY (lday t n)) (ymdM (lday t n)) (ymdD (lday t n)) * 86400 + lsec t n / 3600 * 3600 + (lsec t n / 60 % 60 - n) * 60 + lsec t n % 60 := rfl
  rw [e, h]
  unfold lsec lday
  omega
theorem civ_secZ {d : Date} {o : Int} (h : d.ok = true) (h0 : -900 ≤ o) (h1 : o ≤ 900) : lday (secZ d o) o = dnum d.y d.mo d.d ∧ civ (secZ d o) o = d.wz o := by
  have b := Date.ok_bd h
  have hl : lday (secZ d o) o = dnum d.y d.mo d.d := by unfold lday secZ secs; dsimp only; omega
  have hs : lsec (secZ d o) o = d.h * 3600 + d.mi * 60 + d.s := by unfold lsec secZ secs; dsimp only; omega
  refine ⟨hl, ?_⟩
  have hy := ymd_of (dnum d.y d.mo d.d) d.y d.mo d.d (by omega) (by omega) (by omega) (by omega) rfl
  unfold civ Date.wz
  rw [hl, hs, hy.1, hy.2.1, hy.2.2]
  congr 1 <;> omega
theorem dnum_year {d : Date} (h : d.ok = true) : ystart d.y ≤ dnum d.y d.mo d.d ∧ dnum d.y d.mo d.d < ystart (d.y + 1) := by
  have b := Date.ok_bd h
  have m := mstart_bd d.y d.mo (by omega) (by omega)
  have s := ystart_step d.y
  unfold dnum
  omega
/-- the two years of an instant, by standard and by summer time, tell the same. -/
theorem cur_year {z : Zone} (hz : z.b.zero = false) (h : z.Sum) (t : Int) (hy : 2 ≤ ymdY (lday t z.st)) (hy' : ymdY (lday t z.st) ≤ 7000) : cur z t (ymdY (lday t z.st)) = cur z t (ymdY (lday t z.su)) := by
  have lt := h.lt
  have le := h.le
  have i1 := ymdY_in (lday t z.st)
  have hl : lday t z.su = lday t z.st ∨ lday t z.su = lday t z.st + 1 ∧ lday t z.st * 86400 ≤ t + z.st * 60 := by unfold lday; omega
  have hb : lday t z.st * 86400 ≤ t + z.st * 60 ∧ t + z.st * 60 < lday t z.st * 86400 + 86400 := by unfold lday; omega
  rcases hl with hl | ⟨hl, _⟩
  · rw [hl]
  · rw [hl]
    generalize ymdY (lday t z.st) = Y at *
    by_cases hd : lday t z.st + 1 < ystart (Y + 1)
    · rw [ymdY_of (lday t z.st + 1) Y (by omega) hd]
    · have s2 := ystart_step (Y + 1)
      have l2 := lp_01 (Y + 1)
      rw [ymdY_of (lday t z.st + 1) (Y + 1) (by omega) (by omega)]
      exact cur_next hz h t Y hy hy' (by omega) (by omega)
theorem cur_zero {z : Zone} (hz : z.b.zero = true) (t y : Int) : cur z t y = z.st := by unfold cur; rw [if_pos hz]
theorem offR_of {z : Zone} {t n : Int} (h : offR z t = (n, (0, 0))) : z.fault = (0, 0) ∧ chk t = (0, 0) ∧ inR (ymdY (lday t z.st)) 2 3999 = true ∧ cur z t (ymdY (lday t z.st)) = n := by
  have hy : (civ t z.st).y = ymdY (lday t z.st) := rfl
  unfold offR at h
  rw [hy] at h
  split at h
  · rename_i h1; simp only [Prod.mk.injEq] at h; exact absurd h.2 h1
  split at h
  · rename_i h1; simp only [Prod.mk.injEq] at h; exact absurd h.2 h1
  split at h
  · simp at h
  · rename_i h1 h2 h3
    simp only [Prod.mk.injEq, and_true] at h
    exact ⟨by simpa using h1, by simpa using h2, by simpa using h3, h⟩
theorem cur_or {z : Zone} (h : z.fault = (0, 0)) (t y : Int) (hy : 2 ≤ y) (hy' : y ≤ 8000) : cur z t y = z.st ∨ (cur z t y = z.su ∧ z.b.zero = false) := by
  cases hz : z.b.zero
  · have hs := Zone.sum_of h hz
    rw [cur_to _ _ _ hz]
    rcases cur_seen hs.b hs.e hs.s1 hs.s2 hs.u1 hs.u2 t y hy hy' with ⟨hp, _⟩ | ⟨_, _, _, _, ⟨hp, _⟩ | ⟨hp, _⟩⟩
    · rw [hp]; exact .inl rfl
    · exact .inl hp
    · exact .inr ⟨hp, rfl⟩
  · exact .inl (cur_zero hz t y)
/-- what the law asks of the instants of a date. -/
structure Local (z : Zone) (t : Int) (d : Date) (l : List Int) : Prop where
  has : l.contains t = true
  len : l.length ≤ 2
  each : ∀ s ∈ l, ∃ o, offR z s = (o, (0, 0)) ∧ civilR s o = (d.wz o, (0, 0)) ∧ -68719476736 ≤ s ∧ s ≤ 68719476736 ∧ -900 ≤ o ∧ o ≤ 900
  inc : ∀ a b, l = [a, b] → a < b
theorem local_dates {z : Zone} {t n : Int} {d : Date} (h : offR z t = (n, (0, 0))) (hc : civilR t n = (d, (0, 0))) (hy : inR d.y 3 3998 = true) : locf (d.wz 0) = (0, 0) ∧ Local z t (d.wz 0) (instL z (d.wz 0)) := by
  obtain ⟨hf, hk, hin, hcur⟩ := offR_of h
  have hin := inR_t hin
  have hy := inR_t hy
  have hst := Zone.st_of hf
  have hsu := Zone.su_of hf
  obtain ⟨hdc, hok⟩ : d = civ t n ∧ d.ok = true := by
    unfold civilR at hc
    split at hc
    · simp at hc
    split at hc
    · simp at hc
    split at hc
    · simp at hc
    · rename_i h3
      simp only [Prod.mk.injEq, and_true] at hc
      subst hc
      exact ⟨rfl, by simpa using h3⟩
  have bd := Date.ok_bd hok
  have hdy : d.y = ymdY (lday t n) := by rw [hdc]; rfl
  have hsec : secZ d n = t := by rw [hdc]; exact secZ_civ t n
  have wok : ∀ o, -900 ≤ o → o ≤ 900 → (d.wz o).ok = true := fun o h1 h2 => by
    unfold Date.ok Date.wz at *
    simp only [Bool.and_eq_true] at hok ⊢
    exact ⟨hok.1, hok.2.1, hok.2.2.1, hok.2.2.2.1, hok.2.2.2.2.1, hok.2.2.2.2.2.1, inR_mk h1 h2⟩
  have e0 : ∀ o, secZ (d.wz 0) o = secZ d o := fun o => rfl
  have hyr := dnum_year hok
  have y3 := ystart_mono 3 d.y (by omega)
  have y4 := ystart_mono (d.y + 1) 3999 (by omega)
  have c3 : ystart 3 = -718432 := by decide
  have c4 : ystart 3999 = 741077 := by decide
  have hsb : ∀ o, -900 ≤ o → o ≤ 900 → -68719476736 ≤ secZ d o ∧ secZ d o ≤ 68719476736 := fun o h1 h2 => by unfold secZ secs; dsimp only; omega
  -- the fault of the date
  refine ⟨?_, ?_⟩
  · have h0 : dfault (d.wz 0) = (0, 0) := if_pos (wok 0 (by omega) (by omega))
    unfold locf
    rw [if_neg (by rw [h0]; simp), if_neg (show ¬ (d.wz 0).z ≠ 0 by simp [Date.wz])]
    rw [if_neg (show ¬ inR (d.wz 0).y 3 3998 = false by rw [show (d.wz 0).y = d.y from rfl, inR_mk hy.1 hy.2]; simp)]
  -- each instant
  have key : ∀ o, (o = z.st ∨ o = z.su ∧ z.b.zero = false) → cur z (secZ d o) d.y = o → offR z (secZ d o) = (o, (0, 0)) ∧ civilR (secZ d o) o = (d.wz o, (0, 0)) := fun o ho hcu => by
    have ob : -900 ≤ o ∧ o ≤ 900 := by rcases ho with rfl | ⟨rfl, _⟩ <;> omega
    have hsb' := hsb o ob.1 ob.2
    obtain ⟨hl, hci⟩ := civ_secZ hok ob.1 ob.2
    refine ⟨?_, ?_⟩
    · have hchk : chk (secZ d o) = (0, 0) := by unfold chk; rw [if_pos (inR_mk hsb'.1 hsb'.2)]
      have hyy : (civ (secZ d o) z.st).y = ymdY (lday (secZ d o) z.st) := rfl
      have hsame : ymdY (lday (secZ d o) z.st) = d.y ∨ (ymdY (lday (secZ d o) z.st) = d.y - 1 ∧ z.b.zero = false ∧ o = z.su) := by
        rcases ho with rfl | ⟨rfl, hz⟩
        · left
          rw [hl]
          exact ymdY_of _ _ hyr.1 hyr.2
        · have hs := Zone.sum_of hf hz
          have lt := hs.lt
          have le := hs.le
          have hll : lday (secZ d z.su) z.st = lday (secZ d z.su) z.su ∨ lday (secZ d z.su) z.st = lday (secZ d z.su) z.su - 1 := by unfold lday; omega
          rw [hl] at hll
          rcases hll with hll | hll
          · left; rw [hll]; exact ymdY_of _ _ hyr.1 hyr.2
          · rw [hll]
            by_cases hd : ystart d.y ≤ dnum d.y d.mo d.d - 1
            · left; exact ymdY_of _ _ hd (by omega)
            · right
              have ss := ystart_step (d.y - 1)
              have ls := lp_01 (d.y - 1)
              rw [show d.y - 1 + 1 = d.y by omega] at ss
              exact ⟨ymdY_of _ _ (by omega) (by rw [show d.y - 1 + 1 = d.y by omega]; omega), hz, rfl⟩
      have hval : cur z (secZ d o) (ymdY (lday (secZ d o) z.st)) = o := by
        rcases hsame with hs | ⟨hs, hz, rfl⟩
        · rw [hs]; exact hcu
        · have hss := Zone.sum_of hf hz
          have := cur_year hz hss (secZ d z.su) (by omega) (by omega)
          rw [this, hl, ymdY_of _ _ hyr.1 hyr.2]
          exact hcu
      unfold offR
      rw [if_neg (by rw [hf]; simp), if_neg (by rw [hchk]; simp), hyy, if_neg (by rw [inR_mk (by omega) (by omega)]; simp), hval]
    · unfold civilR
      rw [if_neg (by rw [inR_mk hsb'.1 hsb'.2]; simp), if_neg (by rw [inR_mk ob.1 ob.2]; simp), hci, if_neg (by rw [wok o ob.1 ob.2]; simp)]
  have hmo : z.b.zero = false → 0 < z.b.mo := fun hz => (Zone.lt_of hf hz).2
  have hmo' : 0 < z.b.mo → z.b.zero = false := fun hz => by
    cases hc : z.b.zero
    · rfl
    · have := Zone.mo_of hc; omega
  -- t is one of them
  have ht : (n = z.su ∧ z.b.zero = false ∧ cur z (secZ d z.su) d.y = z.su) ∨ (n = z.st ∧ cur z (secZ d z.st) d.y = z.st) := by
    rcases cur_or hf t (ymdY (lday t z.st)) hin.1 (by omega) with hh | ⟨hh, hz⟩
    · right
      have hn : n = z.st := by rw [← hcur, hh]
      subst hn
      refine ⟨rfl, ?_⟩
      rw [hsec, hdy]
      exact hh
    · left
      have hn : n = z.su := by rw [← hcur, hh]
      subst hn
      refine ⟨rfl, hz, ?_⟩
      rw [hsec, hdy, ← cur_year hz (Zone.sum_of hf hz) t hin.1 (by omega)]
      exact hh
  have hI : instL z (d.wz 0) = (if 0 < z.b.mo ∧ cur z (secZ d z.su) d.y = z.su then [secZ d z.su] else []) ++ (if cur z (secZ d z.st) d.y = z.st then [secZ d z.st] else []) := rfl
  refine ⟨?_, ?_, ?_, ?_⟩
  · rw [hI]
    rcases ht with ⟨hn, hz, hh⟩ | ⟨hn, hh⟩
    · rw [if_pos ⟨hmo hz, hh⟩, ← hn, hsec]; simp
    · rw [if_pos hh, ← hn, hsec]; simp
  · rw [hI, List.length_append]
    split <;> split <;> simp
  · intro s hs
    rw [hI, List.mem_append] at hs
    rcases hs with hs | hs
    · split at hs
      · rename_i hh
        simp at hs
        subst hs
        have := key z.su (.inr ⟨rfl, hmo' hh.1⟩) hh.2
        have hb := hsb z.su hsu.1 hsu.2
        exact ⟨z.su, this.1, this.2, hb.1, hb.2, hsu.1, hsu.2⟩
      · simp at hs
    · split at hs
      · rename_i hh
        simp at hs
        subst hs
        have := key z.st (.inl rfl) hh
        have hb := hsb z.st hst.1 hst.2
        exact ⟨z.st, this.1, this.2, hb.1, hb.2, hst.1, hst.2⟩
      · simp at hs
  · intro a b hab
    rw [hI] at hab
    split at hab
    · rename_i hh
      split at hab
      · simp at hab
        have := Zone.lt_of hf (hmo' hh.1)
        rw [← hab.1, ← hab.2, secZ_sub d z.su, secZ_sub d z.st]
        omega
      · simp at hab
    · split at hab <;> simp at hab
end Go.Proofs.Ytnjplichhkmmhaa.Cal
