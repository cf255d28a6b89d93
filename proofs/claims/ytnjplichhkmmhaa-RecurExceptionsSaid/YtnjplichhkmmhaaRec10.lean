import Derived.Test.YtnjplichhkmmhaaMq
import Derived.Test.YtnjplichhkmmhaaMr
/- Plain facts for the laws RecurExceptions and RecurLocalTime. -/
namespace Go.Proofs.Ytnjplichhkmmhaa.Cal
theorem exc_btw {z : Zone} {d : Date} {r : Rule} {a b t : Int} (h : btwF z d r a b = (0, 0)) (h1 : -68719476736 ≤ t) (h2 : t ≤ 68719476736) : btwF z d (r.exc t) a b = (0, 0) := by
  have o := btwF_ok h
  have s := btwF_split h
  refine btwF_mk ?_ s.2.1 s.2.2
  unfold rckF
  rw [if_neg (by rw [o.1]; simp), if_neg (by rw [o.2.1]; simp), if_neg (by have := o.2.2.1; omega)]
  exact exc_fault o.2.2.2 h1 h2
theorem bet_bd {z : Zone} {d : Date} {r : Rule} {a b : Int} (h : btwF z d r a b = (0, 0)) : ∀ u ∈ betL z d r a b, -68719476736 ≤ u ∧ u ≤ 68719476736 := fun u hu => by
  have s := btwF_split h
  have m := ((betL_spec (z := z) (d := d) (r := r) (a := a) (b := b) (btwF_ok h).1).2 u).1 hu
  have h1 := inR_t s.2.1
  have h2 := inR_t s.2.2
  have h3 := inR_t m.1
  omega
end Go.Proofs.Ytnjplichhkmmhaa.Cal
