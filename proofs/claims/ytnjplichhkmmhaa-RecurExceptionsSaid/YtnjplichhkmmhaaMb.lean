import Derived.Test.YtnjplichhkmmhaaMa
/- Plain definitions of the calendar: what the functions of zones, dates and the references compute. No Go. -/
namespace Go.Proofs.Ytnjplichhkmmhaa.Cal
set_option linter.unusedVariables false

def inR (n lo hi : Int) : Bool := decide (lo ≤ n) && decide (n ≤ hi)
theorem inR_t {n lo hi : Int} (h : inR n lo hi = true) : lo ≤ n ∧ n ≤ hi := by simpa [inR] using h
theorem inR_f {n lo hi : Int} (h : inR n lo hi = false) : n < lo ∨ hi < n := by
  simp [inR] at h; omega
theorem inR_mk {n lo hi : Int} (h : lo ≤ n) (h' : n ≤ hi) : inR n lo hi = true := by simp [inR, h, h']
theorem inR_no {n lo hi : Int} (h : n < lo ∨ hi < n) : inR n lo hi = false := by simp [inR]; omega
theorem tf (c : Bool) : c = false ∨ c = true := by cases c <;> simp

def nameC (c : UInt8) : Bool := inR c.toNat 97 122 || inR c.toNat 65 90 || inR c.toNat 48 57 || c == 45 || c == 95 || c == 46
def isName (s : ByteArray) : Bool := s.data.toList.all nameC && inR s.size 1 60

def leap (y : Int) : Bool := (y % 4 == 0 && y % 100 != 0) || y % 400 == 0
def lp (y : Int) : Int := if leap y then 1 else 0
def mlen (y m : Int) : Int := if m = 2 then 28 + lp y else if m = 4 ∨ m = 6 ∨ m = 9 ∨ m = 11 then 30 else 31
def ystart (y : Int) : Int := 365 * (y - 1970) + ((y - 1) / 4 - (y - 1) / 100 + (y - 1) / 400) - 477
def mstart (y m : Int) : Int := (367 * m - 362) / 12 - (if m ≤ 2 then 0 else 2 - lp y)
def dnum (y m d : Int) : Int := ystart y + mstart y m + d - 1
def wday (y m d : Int) : Int := (dnum y m d + 4) % 7

structure Turn where
  mo : Int
  wk : Int
  wd : Int
  mi : Int
structure Zone where
  name : ByteArray
  st : Int
  su : Int
  b : Turn
  e : Turn
structure Date where
  y : Int
  mo : Int
  d : Int
  h : Int
  mi : Int
  s : Int
  z : Int

def Turn.zero (t : Turn) : Bool := t.mo == 0 && (t.wk == 0 && (t.wd == 0 && t.mi == 0))
def Turn.ok (t : Turn) : Bool := inR t.mo 1 12 && (inR t.wk 1 5 && (inR t.wd 0 6 && inR t.mi 0 1439))
def Zone.fault (z : Zone) : Int × Int :=
  if isName z.name = false then (10, -3)
  else if inR z.st (-900) 900 = false then (3, -4)
  else if z.b.zero = true then (if z.su = 0 ∧ z.e.zero = true then (0, 0) else (5, -5))
  else if inR z.su (-900) 900 = false ∨ z.su ≤ z.st ∨ z.st + 180 < z.su then (3, -5)
  else if z.b.ok = false then (3, -6)
  else if z.e.ok = false then (3, -7)
  else if z.b.mo = z.e.mo then (5, -7) else (0, 0)

def tday (t : Turn) (y : Int) : Int :=
  if t.wk = 5 then mlen y t.mo - (wday y t.mo (mlen y t.mo) - t.wd + 7) % 7 else 1 + (t.wd - wday y t.mo 1 + 7) % 7 + 7 * (t.wk - 1)
def tat (t : Turn) (y off : Int) : Int := dnum y t.mo (tday t y) * 86400 + (t.mi - off) * 60

/-- one turn of Begin: the offset and the last turn so far. -/
def stepB (z : Zone) (t n : Int) (p : Int × Int) : Int × Int := if n ≤ t ∧ p.2 < n then (z.su, n) else p
def stepE (z : Zone) (t n : Int) (p : Int × Int) : Int × Int := if n ≤ t ∧ p.2 ≤ n then (z.st, n) else p
def stepY (z : Zone) (t y : Int) (p : Int × Int) : Int × Int := stepE z t (tat z.e y z.su) (stepB z t (tat z.b y z.st) p)
def cur (z : Zone) (t y : Int) : Int :=
  if z.b.zero = true then z.st else (stepY z t (y + 1) (stepY z t y (stepY z t (y - 1) (z.st, -4611686018427387904)))).1

def chk (t : Int) : Int × Int := if inR t (-68719476736) 68719476736 = true then (0, 0) else (3, -2)
def secs (d : Date) : Int := dnum d.y d.mo d.d * 86400 + d.h * 3600 + (d.mi - d.z) * 60 + d.s
def Date.ok (d : Date) : Bool :=
  inR d.y 1 4000 && (inR d.mo 1 12 && (inR d.d 1 (mlen d.y d.mo) && (inR d.h 0 23 && (inR d.mi 0 59 && (inR d.s 0 59 && inR d.z (-900) 900)))))

def dfault (d : Date) : Int × Int := if d.ok = true then (0, 0) else (3, -3)
/-- the date of a day: (year, month, day) -/
def lday (t z : Int) : Int := (t + z * 60) / 86400
def lsec (t z : Int) : Int := (t + z * 60) % 86400
def eraD (n : Int) : Int := (n + 719468) / 146097
def doeD (n : Int) : Int := (n + 719468) % 146097
def yoeD (n : Int) : Int := (doeD n - doeD n / 1460 + doeD n / 36524 - doeD n / 146096) / 365
def doyD (n : Int) : Int := doeD n - (365 * yoeD n + yoeD n / 4 - yoeD n / 100)
def mpD (n : Int) : Int := (5 * doyD n + 2) / 153
def ymdY (n : Int) : Int := eraD n * 400 + yoeD n + (if mpD n < 10 then 0 else 1)
def ymdM (n : Int) : Int := if mpD n < 10 then mpD n + 3 else mpD n - 9
def ymdD (n : Int) : Int := doyD n - (153 * mpD n + 2) / 5 + 1
def civ (t z : Int) : Date := ⟨ymdY (lday t z), ymdM (lday t z), ymdD (lday t z), lsec t z / 3600, lsec t z / 60 % 60, lsec t z % 60, z⟩

def dzero : Date := ⟨0, 0, 0, 0, 0, 0, 0⟩
def civilR (t z : Int) : Date × (Int × Int) :=
  if inR t (-68719476736) 68719476736 = false then (dzero, (3, -2))
  else if inR z (-900) 900 = false then (dzero, (3, -4))
  else if (civ t z).ok = false then (dzero, (3, -3)) else (civ t z, (0, 0))
theorem lp_eq (y : Int) : lp y = if (y % 4 = 0 ∧ y % 100 ≠ 0) ∨ y % 400 = 0 then 1 else 0 := by
  unfold lp leap
  simp
theorem lp_01 (y : Int) : 0 ≤ lp y ∧ lp y ≤ 1 := by unfold lp; split <;> omega
theorem lp_step (y : Int) : lp y = y / 4 - y / 100 + y / 400 - ((y - 1) / 4 - (y - 1) / 100 + (y - 1) / 400) := by
  rw [lp_eq]; split <;> omega
theorem days_lo (y m d : Int) (hm : 1 ≤ m) (hm' : m ≤ 2) : 365 * (y - 1) + (y - 1) / 4 - (y - 1) / 100 + (y - 1) / 400 + (153 * (m + 12 - 3) + 2) / 5 + d - 719469 = dnum y m d := by
  unfold dnum ystart mstart
  rw [if_pos hm']
  have : m = 1 ∨ m = 2 := by omega
  rcases this with rfl | rfl <;> omega
theorem days_hi (y m d : Int) (hm : 2 < m) (hm' : m ≤ 12) : 365 * y + y / 4 - y / 100 + y / 400 + (153 * (m - 3) + 2) / 5 + d - 719469 = dnum y m d := by
  unfold dnum ystart mstart
  rw [if_neg (by omega), lp_step]
  have : m = 3 ∨ m = 4 ∨ m = 5 ∨ m = 6 ∨ m = 7 ∨ m = 8 ∨ m = 9 ∨ m = 10 ∨ m = 11 ∨ m = 12 := by omega
  rcases this with rfl | rfl | rfl | rfl | rfl | rfl | rfl | rfl | rfl | rfl <;> omega
theorem mlen_bd (y m : Int) : 28 ≤ mlen y m ∧ mlen y m ≤ 31 := by
  have := lp_01 y
  unfold mlen
  split
  · omega
  · split <;> omega
theorem mlen_step (y m : Int) (hm : 1 ≤ m) (hm' : m ≤ 11) : mstart y (m + 1) = mstart y m + mlen y m := by
  have := lp_01 y
  unfold mstart mlen
  have : m = 1 ∨ m = 2 ∨ m = 3 ∨ m = 4 ∨ m = 5 ∨ m = 6 ∨ m = 7 ∨ m = 8 ∨ m = 9 ∨ m = 10 ∨ m = 11 := by omega
  rcases this with rfl | rfl | rfl | rfl | rfl | rfl | rfl | rfl | rfl | rfl | rfl <;> simp <;> omega
theorem mstart_1 (y : Int) : mstart y 1 = 0 := by simp [mstart]
theorem mstart_12 (y : Int) : mstart y 12 + mlen y 12 = 365 + lp y := by simp [mstart, mlen]; omega
theorem ystart_step (y : Int) : ystart (y + 1) = ystart y + 365 + lp y := by
  rw [lp_step]; unfold ystart
  have : y + 1 - 1 = y := by omega
  rw [this]; omega
/-- a valid day of a year lies in it. -/
theorem mstart_bd (y m : Int) (hm : 1 ≤ m) (hm' : m ≤ 12) : 0 ≤ mstart y m ∧ mstart y m + mlen y m ≤ 365 + lp y := by
  have := lp_01 y
  unfold mstart mlen
  have : m = 1 ∨ m = 2 ∨ m = 3 ∨ m = 4 ∨ m = 5 ∨ m = 6 ∨ m = 7 ∨ m = 8 ∨ m = 9 ∨ m = 10 ∨ m = 11 ∨ m = 12 := by omega
  rcases this with rfl | rfl | rfl | rfl | rfl | rfl | rfl | rfl | rfl | rfl | rfl | rfl <;> simp <;> omega
theorem ystart_bd (y : Int) (h : 1 ≤ y) (h' : y ≤ 10000) : -719162 ≤ ystart y ∧ ystart y ≤ 2932900 := by unfold ystart; omega
theorem dnum_bd (y m d : Int) (h : 1 ≤ y) (h' : y ≤ 10000) (hm : 1 ≤ m) (hm' : m ≤ 12) (hd : -10000 ≤ d) (hd' : d ≤ 10000) : -800000 ≤ dnum y m d ∧ dnum y m d ≤ 3000000 := by
  have := ystart_bd y h h'
  have := mstart_bd y m hm hm'
  have := lp_01 y
  have := mlen_bd y m
  unfold dnum; omega

theorem doeD_bd (n : Int) : 0 ≤ doeD n ∧ doeD n ≤ 146096 := by unfold doeD; omega
theorem yoeD_bd (n : Int) : 0 ≤ yoeD n ∧ yoeD n ≤ 399 := by
  have := doeD_bd n
  unfold yoeD; omega
theorem doy_cent (d c q r : Int) (hc : 0 ≤ c) (hc' : c ≤ 3) (hq : 0 ≤ q) (hr : 0 ≤ r) (hr' : r ≤ 1460) (hq' : 1461 * q + r ≤ 36523) (hd : d = 36524 * c + 1461 * q + r) :
    ∃ j, 0 ≤ j ∧ j ≤ 3 ∧ (d - d / 1460 + d / 36524 - d / 146096) / 365 = 100 * c + 4 * q + j ∧ 0 ≤ r - 365 * j ∧ (r - 365 * j ≤ 364 ∨ r = 1460 ∧ j = 3) := by
  have h1 : d / 36524 = c := by omega
  have h2 : d / 146096 = 0 := by omega
  have h3 : d / 1460 = 25 * c + q ∧ 24 * c + q + r < 1460 ∨ d / 1460 = 25 * c + q + 1 ∧ 1460 ≤ 24 * c + q + r := by omega
  have hj : r < 365 ∨ 365 ≤ r ∧ r < 730 ∨ 730 ≤ r ∧ r < 1095 ∨ 1095 ≤ r := by omega
  rw [h1, h2]
  rcases h3 with ⟨h3, h4⟩ | ⟨h3, h4⟩ <;> rw [h3]
  · rcases hj with hj | hj | hj | hj
    · exact ⟨0, by omega, by omega, by omega, by omega, by omega⟩
    · exact ⟨1, by omega, by omega, by omega, by omega, by omega⟩
    · exact ⟨2, by omega, by omega, by omega, by omega, by omega⟩
    · exact ⟨3, by omega, by omega, by omega, by omega, by omega⟩
  · exact ⟨3, by omega, by omega, by omega, by omega, by omega⟩
theorem doy_fin (d c q r j y : Int) (hc : 0 ≤ c) (hc' : c ≤ 3) (hq : 0 ≤ q) (hr : 0 ≤ r) (hr' : r ≤ 1460) (hq' : 1461 * q + r ≤ 36523) (hd : d = 36524 * c + 1461 * q + r) (hj : 0 ≤ j) (hj' : j ≤ 3) (hy : y = 100 * c + 4 * q + j)
    (h1 : 0 ≤ r - 365 * j) (h2 : r - 365 * j ≤ 364 ∨ r = 1460 ∧ j = 3) :
    d - (365 * y + y / 4 - y / 100) = r - 365 * j ∧ (r - 365 * j = 365 → (y + 1) % 4 = 0 ∧ ((y + 1) % 100 ≠ 0 ∨ (y + 1) % 400 = 0)) := by
  have e1 : y / 4 = 25 * c + q := by omega
  have e2 : y / 100 = c := by omega
  rw [e1, e2]
  refine ⟨by omega, fun h => ?_⟩
  have : r = 1460 ∧ j = 3 := by omega
  obtain ⟨rfl, rfl⟩ := this
  have : q ≤ 23 := by omega
  exact ⟨by omega, by omega⟩
theorem doy_aux (d y : Int) (h : 0 ≤ d) (h' : d ≤ 146096) (hy : y = (d - d / 1460 + d / 36524 - d / 146096) / 365) :
    0 ≤ d - (365 * y + y / 4 - y / 100) ∧ d - (365 * y + y / 4 - y / 100) ≤ 365 ∧ (d - (365 * y + y / 4 - y / 100) = 365 → (y + 1) % 4 = 0 ∧ ((y + 1) % 100 ≠ 0 ∨ (y + 1) % 400 = 0)) := by
  by_cases h4 : d = 146096
  · subst h4
    have : y = 399 := by rw [hy]; decide
    subst this
    decide
  · obtain ⟨c, q, r, hc, hc', hq, hr, hr', hq', hd⟩ : ∃ c q r : Int, 0 ≤ c ∧ c ≤ 3 ∧ 0 ≤ q ∧ 0 ≤ r ∧ r ≤ 1460 ∧ 1461 * q + r ≤ 36523 ∧ d = 36524 * c + 1461 * q + r := by
      refine ⟨d / 36524, d % 36524 / 1461, d % 36524 % 1461, ?_, ?_, ?_, ?_, ?_, ?_, ?_⟩
      · clear hy; omega
      · clear hy; omega
      · clear hy; omega
      · clear hy; omega
      · clear hy; omega
      · clear hy; omega
      · clear hy; omega
    obtain ⟨j, hj, hj', e, h1, h2⟩ := doy_cent d c q r hc hc' hq hr hr' hq' hd
    have f := doy_fin d c q r j y hc hc' hq hr hr' hq' hd hj hj' (hy.trans e) h1 h2
    rw [f.1]
    clear hy e
    exact ⟨h1, by clear f; omega, f.2⟩
theorem doyD_bd (n : Int) : 0 ≤ doyD n ∧ doyD n ≤ 365 := by
  have h := doeD_bd n
  have := doy_aux (doeD n) (yoeD n) h.1 h.2 rfl
  unfold doyD; omega
theorem mpD_bd (n : Int) : 0 ≤ mpD n ∧ mpD n ≤ 11 := by
  have := doyD_bd n
  unfold mpD; omega
theorem ymdM_bd (n : Int) : 1 ≤ ymdM n ∧ ymdM n ≤ 12 := by
  have := mpD_bd n
  unfold ymdM; split <;> omega
/-- the day with the number n has the number n. -/
theorem dnum_ymd (n : Int) : dnum (ymdY n) (ymdM n) (ymdD n) = n ∧ 1 ≤ ymdD n ∧ ymdD n ≤ mlen (ymdY n) (ymdM n) := by
  have hd := doeD_bd n
  have hy := yoeD_bd n
  have ha := doy_aux (doeD n) (yoeD n) hd.1 hd.2 rfl
  have hb := doyD_bd n
  have hm := mpD_bd n
  have hl : doyD n = 365 → lp (eraD n * 400 + yoeD n + 1) = 1 := by
    intro h
    rw [lp_eq, if_pos]
    have := ha.2.2 h
    omega
  have hl' := lp_01 (eraD n * 400 + yoeD n + 1)
  have he : n = eraD n * 146097 + doeD n - 719468 := by unfold eraD doeD; omega
  have hdoe : doeD n = doyD n + (365 * yoeD n + yoeD n / 4 - yoeD n / 100) := by unfold doyD; omega
  have hmp : mpD n = (5 * doyD n + 2) / 153 := rfl
  unfold ymdY ymdM ymdD
  generalize doyD n = doy at *
  generalize mpD n = mp at *
  generalize hY : eraD n * 400 + yoeD n = Y at *
  have hY4 : Y / 4 = eraD n * 100 + yoeD n / 4 := by omega
  have hY100 : Y / 100 = eraD n * 4 + yoeD n / 100 := by omega
  have hY400 : Y / 400 = eraD n := by omega
  have hn : n = 365 * Y + Y / 4 - Y / 100 + Y / 400 + doy - 719468 := by omega
  by_cases h10 : mp < 10
  · rw [if_pos h10, if_pos h10, Int.add_zero]
    refine ⟨?_, by omega, ?_⟩
    · rw [← days_hi Y (mp + 3) _ (by omega) (by omega), hn]
      have : mp + 3 - 3 = mp := by omega
      rw [this]; omega
    · unfold mlen
      have : mp = 0 ∨ mp = 1 ∨ mp = 2 ∨ mp = 3 ∨ mp = 4 ∨ mp = 5 ∨ mp = 6 ∨ mp = 7 ∨ mp = 8 ∨ mp = 9 := by omega
      rcases this with h | h | h | h | h | h | h | h | h | h <;> rw [h] at hmp ⊢ <;> simp <;> omega
  · rw [if_neg h10, if_neg h10]
    refine ⟨?_, by omega, ?_⟩
    · rw [← days_lo (Y + 1) (mp - 9) _ (by omega) (by omega), hn]
      have : mp - 9 + 12 - 3 = mp := by omega
      have h1 : Y + 1 - 1 = Y := by omega
      rw [this, h1]; omega
    · unfold mlen
      have : mp = 10 ∨ mp = 11 := by omega
      rcases this with h | h <;> rw [h] at hmp ⊢ <;> simp <;> omega
/-- the leap years from 1970 on. -/
def ylp (k : Int) : Int := (k - 1) / 4 - (k - 1) / 100 + (k - 1) / 400 - 477
theorem ylp_1970 : ylp 1970 = 0 := by decide
theorem ylp_step (k : Int) : ylp (k + 1) = ylp k + lp k := by
  rw [lp_step]; unfold ylp
  have : k + 1 - 1 = k := by omega
  rw [this]; omega
theorem ylp_bd (k : Int) (h : 1 ≤ k) (h' : k ≤ 10000) : -500 ≤ ylp k ∧ ylp k ≤ 3000 := by unfold ylp; omega
theorem ystart_ylp (y : Int) : ystart y = 365 * (y - 1970) + ylp y := by unfold ystart ylp; omega
theorem lp_t {k : Int} (h : leap k = true) : lp k = 1 := by simp [lp, h]
theorem lp_f {k : Int} (h : leap k = false) : lp k = 0 := by simp [lp, h]
theorem ystart_mono (a b : Int) (h : a ≤ b) : ystart a ≤ ystart b := by unfold ystart; omega
theorem mstart_mono (y a b : Int) (h : a ≤ b) (ha : 1 ≤ a) (hb : b ≤ 12) : mstart y a ≤ mstart y b := by
  have := lp_01 y
  unfold mstart
  split <;> split <;> omega
/-- the year of a day is told by where it lies. -/
theorem ymdY_of (n y : Int) (h : ystart y ≤ n) (h' : n < ystart (y + 1)) : ymdY n = y := by
  obtain ⟨e, d1, d2⟩ := dnum_ymd n
  have mb := ymdM_bd n
  have sb := mstart_bd (ymdY n) (ymdM n) mb.1 mb.2
  have st := ystart_step (ymdY n)
  have l := lp_01 (ymdY n)
  unfold dnum at e
  rcases Int.lt_trichotomy (ymdY n) y with hlt | heq | hgt
  · have := ystart_mono (ymdY n + 1) y (by omega)
    omega
  · exact heq
  · have := ystart_mono (y + 1) (ymdY n) (by omega)
    omega
theorem ymdY_in (n : Int) : ystart (ymdY n) ≤ n ∧ n < ystart (ymdY n + 1) := by
  obtain ⟨e, d1, d2⟩ := dnum_ymd n
  have mb := ymdM_bd n
  have sb := mstart_bd (ymdY n) (ymdM n) mb.1 mb.2
  have st := ystart_step (ymdY n)
  have l := lp_01 (ymdY n)
  unfold dnum at e
  omega
/-- a valid day is the one with its number. -/
theorem ymd_of (n y m d : Int) (hm : 1 ≤ m) (hm' : m ≤ 12) (hd : 1 ≤ d) (hd' : d ≤ mlen y m) (h : dnum y m d = n) : ymdY n = y ∧ ymdM n = m ∧ ymdD n = d := by
  have sb := mstart_bd y m hm hm'
  have st := ystart_step y
  have hy : ymdY n = y := by
    apply ymdY_of
    · unfold dnum at h; omega
    · unfold dnum at h; omega
  obtain ⟨e, d1, d2⟩ := dnum_ymd n
  have mb := ymdM_bd n
  rw [hy] at e d2
  unfold dnum at e h
  have hM : ymdM n = m := by
    rcases Int.lt_trichotomy (ymdM n) m with hlt | heq | hgt
    · have := mstart_mono y (ymdM n + 1) m (by omega) (by omega) hm'
      have := mlen_step y (ymdM n) mb.1 (by omega)
      omega
    · exact heq
    · have := mstart_mono y (m + 1) (ymdM n) (by omega) (by omega) mb.2
      have := mlen_step y m hm (by omega)
      omega
  refine ⟨hy, hM, ?_⟩
  rw [hM] at e
  omega
end Go.Proofs.Ytnjplichhkmmhaa.Cal
/- '==' of the structs api.Fault, api.Turn. -/
namespace Go.Proofs.Ytnjplichhkmmhaa.CalW
open Go.RowKit Go.Proofs.Ytnjplichhkmmhaa.Base
set_option linter.unusedVariables false
set_option linter.unusedSimpArgs false

theorem eqA28 (d : Nat) (w : World) (x0 y0 x1 y1 : Int) :
    (Op.equalIn (d + 2) 28 (.agg #[.int .i64 x0, .int .i64 x1]) (.agg #[.int .i64 y0, .int .i64 y1])).run Try.prog w = .ok (x0 == y0 && x1 == y1) w := by
  refine sq_of Try.underlying28 (by kernel_rfl) ?_
  refine sq_cons (by rfl) (by go_simp; rfl) (by go_simp; rfl) (by go_simp) ?_
  exact sq_last (by rfl) (by go_simp; rfl) (by go_simp; rfl) (by go_simp)
theorem eqA23 (d : Nat) (w : World) (x0 y0 x1 y1 x2 y2 x3 y3 : Int) :
    (Op.equalIn (d + 2) 23 (.agg #[.int .i64 x0, .int .i64 x1, .int .i64 x2, .int .i64 x3]) (.agg #[.int .i64 y0, .int .i64 y1, .int .i64 y2, .int .i64 y3])).run Try.prog w = .ok (x0 == y0 && (x1 == y1 && (x2 == y2 && (x3 == y3)))) w := by
  refine sq_of Try.underlying23 (by kernel_rfl) ?_
  refine sq_cons (by rfl) (by go_simp; rfl) (by go_simp; rfl) (by go_simp) ?_
  refine sq_cons (by rfl) (by go_simp; rfl) (by go_simp; rfl) (by go_simp) ?_
  refine sq_cons (by rfl) (by go_simp; rfl) (by go_simp; rfl) (by go_simp) ?_
  exact sq_last (by rfl) (by go_simp; rfl) (by go_simp; rfl) (by go_simp)
end Go.Proofs.Ytnjplichhkmmhaa.CalW
