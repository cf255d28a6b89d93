import Derived.Test.YtnjplichhkmmhaaMk
import Derived.Test.YtnjplichhkmmhaaZonW14
/- Plain laws: the instants of a recurrence, day by day. No Go. -/
namespace Go.Proofs.Ytnjplichhkmmhaa.Cal
open Go.Proofs.Ytnjplichhkmmhaa.Base
set_option linter.unusedVariables false
/-- the days of a rule among the first m. -/
def dayL (d : Date) (r : Rule) : Nat → List Int
  | 0 => []
  | m + 1 => if onD d r (firstD d + m) = true then dayL d r m ++ [firstD d + m] else dayL d r m
theorem dayL_yes {d : Date} {r : Rule} {m : Nat} {n : Int} (hn : n = firstD d + m) (h : onD d r n = true) : dayL d r (m + 1) = dayL d r m ++ [n] := by
  show (if _ then _ else _) = _
  rw [← hn, if_pos h]
theorem dayL_no {d : Date} {r : Rule} {m : Nat} {n : Int} (hn : n = firstD d + m) (h : onD d r n = false) : dayL d r (m + 1) = dayL d r m := by
  show (if _ then _ else _) = _
  rw [← hn, if_neg (by rw [h]; simp)]
/-- the instants of the rule, out of its days. -/
def regF (z : Zone) (d : Date) (r : Rule) : List Int → List Int → List Int
  | acc, [] => acc
  | acc, n :: ds => match allL z (dateN n d) with
    | [] => regF z d r acc ds
    | t :: _ => if r.hu = true ∧ r.un < t then acc else if ((acc ++ [t]).length : Int) = r.ct then acc ++ [t] else regF z d r (acc ++ [t]) ds
/-- having come over the days pre, the instants are acc. -/
def Run (z : Zone) (d : Date) (r : Rule) (pre acc : List Int) : Prop := ∀ rest, regF z d r [] (pre ++ rest) = regF z d r acc rest
/-- over the days pre the run ends with acc. -/
def RunEnds (z : Zone) (d : Date) (r : Rule) (pre acc : List Int) : Prop := ∀ rest, regF z d r [] (pre ++ rest) = acc
section
variable {z : Zone} {d : Date} {r : Rule} {pre acc : List Int} {n t : Int} {l : List Int}
theorem Run.nil : Run z d r [] [] := fun _ => rfl
theorem Run.skip (h : Run z d r pre acc) (e : allL z (dateN n d) = []) : Run z d r (pre ++ [n]) acc := fun rest => by
  rw [List.append_assoc, h]
  show (match allL z (dateN n d) with | [] => regF z d r acc rest | t :: _ => _) = _
  rw [e]
theorem Run.app (h : Run z d r pre acc) (e : allL z (dateN n d) = t :: l) (h1 : ¬ (r.hu = true ∧ r.un < t)) (h2 : ¬ ((acc ++ [t]).length : Int) = r.ct) : Run z d r (pre ++ [n]) (acc ++ [t]) := fun rest => by
  rw [List.append_assoc, h]
  show (match allL z (dateN n d) with | [] => regF z d r acc rest | t :: _ => _) = _
  rw [e]
  dsimp only
  rw [if_neg h1, if_neg h2]
  rfl
theorem Run.until (h : Run z d r pre acc) (e : allL z (dateN n d) = t :: l) (h1 : r.hu = true ∧ r.un < t) : RunEnds z d r (pre ++ [n]) acc := fun rest => by
  rw [List.append_assoc, h]
  show (match allL z (dateN n d) with | [] => regF z d r acc rest | t :: _ => _) = _
  rw [e]
  dsimp only
  rw [if_pos h1]
theorem Run.count (h : Run z d r pre acc) (e : allL z (dateN n d) = t :: l) (h1 : ¬ (r.hu = true ∧ r.un < t)) (h2 : ((acc ++ [t]).length : Int) = r.ct) : RunEnds z d r (pre ++ [n]) (acc ++ [t]) := fun rest => by
  rw [List.append_assoc, h]
  show (match allL z (dateN n d) with | [] => regF z d r acc rest | t :: _ => _) = _
  rw [e]
  dsimp only
  rw [if_neg h1, if_pos h2]
theorem Run.fin (h : Run z d r pre acc) : regF z d r [] pre = acc := by have := h []; rwa [List.append_nil] at this
end
/-- the days of the whole span. -/
def daysL (d : Date) (r : Rule) : List Int := dayL d r 1501
def regL (z : Zone) (d : Date) (r : Rule) : List Int := regF z d r [] (daysL d r)
theorem dayL_pre (d : Date) (r : Rule) (m : Nat) : ∀ k, ∃ rest, dayL d r (m + k) = dayL d r m ++ rest
  | 0 => ⟨[], by simp⟩
  | k + 1 => by
    obtain ⟨rest, h⟩ := dayL_pre d r m k
    show ∃ rest, (if onD d r (firstD d + ((m + k : Nat) : Int)) = true then dayL d r (m + k) ++ [firstD d + ((m + k : Nat) : Int)] else dayL d r (m + k)) = _
    rw [h]
    split
    · exact ⟨rest ++ [firstD d + ((m + k : Nat) : Int)], by simp⟩
    · exact ⟨rest, rfl⟩
theorem RunEnds.reg {z : Zone} {d : Date} {r : Rule} {acc : List Int} {m : Nat} (h : RunEnds z d r (dayL d r m) acc) (hm : m ≤ 1501) : regL z d r = acc := by
  obtain ⟨rest, e⟩ := dayL_pre d r m (1501 - m)
  rw [show m + (1501 - m) = 1501 by omega] at e
  unfold regL daysL
  rw [e]
  exact h rest
theorem dateN_ok {d : Date} (hd : locf d = (0, 0)) (hy : d.y ≤ 3980) {n : Int} (h : firstD d ≤ n) (h' : n ≤ firstD d + 1500) : locf (dateN n d) = (0, 0) := by
  have F := FirstOk.of hd hy
  have yr := F.yr h h'
  have b := Date.ok_bd (locf_ok hd).1
  have mb := ymdM_bd n
  have db := (dnum_ymd n).2
  have hk : (dateN n d).ok = true := by
    unfold Date.ok dateN
    simp only [Bool.and_eq_true]
    exact ⟨inR_mk (by omega) (by omega), inR_mk (by omega) (by omega), inR_mk (by omega) (by omega), inR_mk (by omega) (by omega), inR_mk (by omega) (by omega), inR_mk (by omega) (by omega), inR_mk (by omega) (by omega)⟩
  have h0 : dfault (dateN n d) = (0, 0) := if_pos hk
  unfold locf
  rw [if_neg (by rw [h0]; simp), if_neg (show ¬ (dateN n d).z ≠ 0 by simp [dateN])]
  rw [if_neg (show ¬ inR (dateN n d).y 3 3998 = false by rw [show (dateN n d).y = ymdY n from rfl, inR_mk (by omega) (by omega)]; simp)]
end Go.Proofs.Ytnjplichhkmmhaa.Cal
/- Walk: the reference's RegularOf. -/
namespace Go.Proofs.Ytnjplichhkmmhaa.CalW
open Go.RowKit Go.Proofs.Ytnjplichhkmmhaa.Base Go.Proofs.Ytnjplichhkmmhaa.Cal
set_option linter.unusedVariables false
set_option linter.unusedSimpArgs false
/-- the arguments of a recurrence in memory, and a list of instants that the call owns. -/
structure RgSt (w wr : World) (zc dc rc : Array Value) (B : Nat) (l : List Int) (v : Value) : Prop where
  z : Bk wr w.heap.size 25 zc
  d : Bk wr (w.heap.size + 1) 34 dc
  u : Bk wr (w.heap.size + 1 + 1) 49 rc
  own : wr.ownsRow B 3 1 v l.length (l.map iv)
  b : Below w.heap.size w wr
  hB : B ≤ wr.heap.size
  lB : w.heap.size + 1 + 1 < B
theorem RgSt.bel {w wr w' : World} {zc dc rc : Array Value} {B : Nat} {l : List Int} {v : Value} (h : RgSt w wr zc dc rc B l v) (hb : Below wr.heap.size wr w') : RgSt w w' zc dc rc B l v :=
  ⟨h.z.bel hb, h.d.bel hb, h.u.bel hb, own_bel h.own hb, below_go h.b hb, Nat.le_trans h.hB hb.size, h.lB⟩
theorem RgSt.al {w wr : World} {zc dc rc : Array Value} {B : Nat} {l : List Int} {v : Value} (h : RgSt w wr zc dc rc B l v) (o : Obj) : RgSt w (wr.alloc o) zc dc rc B l v := h.bel (below_al (Below.refl _ _) _)
theorem RgSt.app {w wr w' : World} {zc dc rc : Array Value} {B : Nat} {l l' : List Int} {v v' : Value} (h : RgSt w wr zc dc rc B l v) (hg : wr.grownBy w' v.ownBlock) (hown : w'.ownsRow B 3 1 v' l'.length (l'.map iv)) : RgSt w w' zc dc rc B l' v' :=
  ⟨h.z.grown hg h.own (by have := h.lB; omega), h.d.grown hg h.own (by have := h.lB; omega), h.u.grown hg h.own (by have := h.lB; omega), hown, below_grown h.b hg h.own (by have := h.lB; omega), Nat.le_trans h.hB hg.size, h.lB⟩
/-- a store into a block that the call has made lately. -/
theorem RgSt.set {w wr : World} {zc dc rc : Array Value} {B : Nat} {l : List Int} {v : Value} (h : RgSt w wr zc dc rc B l v) {p : Addr} (u : Value) (hp : B ≤ p.block) (ho : ∀ g, v.ownBlock = some g → g ≠ p.block) : RgSt w (wr.setCell p u) zc dc rc B l v :=
  ⟨h.z.far (by have := h.lB; omega) u, h.d.far (by have := h.lB; omega) u, h.u.far (by have := h.lB; omega) u, h.own.kept (row := some p.block) ⟨rfl, rfl, rfl, by simp [World.setCell], fun k hk hne => Below.heap_setCell wr p u k (fun e => hne (by rw [e]))⟩ (by
    cases hv : v.ownBlock
    · exact .inl rfl
    · exact .inr (fun e => ho _ hv (by injection e))), below_set h.b (by have := h.lB; omega) u, by simpa [World.setCell] using h.hB, h.lB⟩
/-- the call hands back a list of numbers in a row of its own. -/
def GivesO (w : World) (l : List Int) (e : Ending) (w' : World) : Prop := ∃ A c, e = .returned (.slice A l.length c) ∧ w'.ownsRow w.heap.size 3 1 (.slice A l.length c) l.length (l.map iv) ∧ Below w.heap.size w w'
theorem own_mono {w : World} {B B' : Nat} {e : TypeId} {size : Nat} {v : Value} {n : Nat} {xs : List Value} (h : w.ownsRow B e size v n xs) (hB : B' ≤ B) : w.ownsRow B' e size v n xs := by
  refine ⟨h.1, ?_⟩
  rcases h.2 with hn | ⟨g, cap, cur, hv, hb, rest⟩
  · exact .inl hn
  · exact .inr ⟨g, cap, cur, hv, Nat.le_trans hB hb, rest⟩
theorem dayL_len (d : Date) (r : Rule) : ∀ m, (dayL d r m).length ≤ m
  | 0 => Nat.le_refl _
  | m + 1 => by
    have := dayL_len d r m
    unfold dayL
    split
    · simp; omega
    · omega
end Go.Proofs.Ytnjplichhkmmhaa.CalW
