import Derived.Test.YtjgohmfmalcjoaaDoorMf
import Derived.Test.YtjgohmfmalcjoaaDoorTr9
/- Plain: encoded texts can be transported as they are. -/
namespace Go.Proofs.YtjgohmfmalcjoaaDoor.Tr
open Go.RowKit Go.Proofs.YtjgohmfmalcjoaaDoor.Base
set_option linter.unusedVariables false
set_option linter.unusedSimpArgs false
/-- bytes that can be transported as they are, the first in column col. -/
def okR (e : Bool) : List UInt8 → Nat → Bool
  | [], _ => true
  | [c], col => !badC e c && decide (col < 998)
  | c :: d :: r, col => if c = 13 ∧ d = 10 then okR e r 0 else !badC e c && decide (col < 998) && okR e (d :: r) (col + 1)
theorem okR_nil (e : Bool) (col : Nat) : okR e [] col = true := by rw [okR]
theorem okR_crlf (e : Bool) (r : List UInt8) (col : Nat) : okR e (13 :: 10 :: r) col = okR e r 0 := by
  conv => lhs; rw [okR]
  exact if_pos ⟨rfl, rfl⟩
theorem okR_cons' {e : Bool} {c : UInt8} {r : List UInt8} {col : Nat} (h : c ≠ 13 ∨ r.head? ≠ some 10) : okR e (c :: r) col = (!badC e c && decide (col < 998) && okR e r (col + 1)) := by
  match r, h with
  | [], _ => rw [okR_nil, Bool.and_true, okR]
  | d :: r, h =>
    conv => lhs; rw [okR]
    exact if_neg (fun ⟨h1, h2⟩ => h.elim (fun h => h h1) (fun h => h (by rw [h2]; rfl)))
theorem okR_cons {e : Bool} {c : UInt8} {r : List UInt8} {col : Nat} (h : badC e c = false) (hc : col < 998) : okR e (c :: r) col = okR e r (col + 1) := by
  have h13 : c ≠ 13 := fun h2 => by
    subst h2
    unfold badC at h
    simp at h
  rw [okR_cons' (.inl h13), h]
  simp [hc]
theorem okR_app (e : Bool) : ∀ (s r : List UInt8) (col : Nat), (∀ x ∈ s, badC e x = false) → col + s.length ≤ 998 → okR e (s ++ r) col = okR e r (col + s.length)
  | [], r, col, _, _ => rfl
  | c :: s, r, col, h, hl => by
    rw [List.length_cons] at hl
    rw [List.cons_append, okR_cons (h c (by simp)) (by omega), okR_app e s r (col + 1) (fun x hx => h x (by simp [hx])) (by omega), List.length_cons]
    congr 1
    omega
theorem refF_ok {e : Bool} : ∀ (n : Nat) (l : List UInt8) (i col : Nat), okR e (l.drop i) col = true → refF e l n i col = -1
  | 0, _, _, _, _ => rfl
  | n + 1, l, i, col, h => by
    rcases Nat.lt_or_ge i l.length with hi | hi
    · rw [refF_at hi]
      rw [List.drop_eq_getElem_cons hi] at h
      split
      · rename_i hc
        have h2 : i + 1 < l.length := by
          rcases Nat.lt_or_ge (i + 1) l.length with h1 | h1
          · exact h1
          · rw [crlf_end h1] at hc; cases hc
        rw [crlf_of h2] at hc
        simp only [Bool.and_eq_true, beq_iff_eq] at hc
        rw [List.drop_eq_getElem_cons h2, hc.1, hc.2, okR_crlf] at h
        exact refF_ok n l (i + 2) 0 h
      · rename_i hc
        have key : badC e l[i] = false ∧ col < 998 ∧ okR e (l.drop (i + 1)) (col + 1) = true := by
          have hne : l[i] ≠ 13 ∨ (l.drop (i + 1)).head? ≠ some 10 := by
            rcases Nat.lt_or_ge (i + 1) l.length with h1 | h1
            · rcases Classical.em (l[i] = 13) with h2 | h2
              · refine .inr (fun h3 => hc ?_)
                rw [List.drop_eq_getElem_cons h1] at h3
                have h4 : l[i + 1] = 10 := by injection h3
                rw [crlf_of h1, h2, h4]
                rfl
              · exact .inl h2
            · refine .inr (fun h3 => ?_)
              rw [List.drop_eq_nil_of_le h1] at h3
              cases h3
          rw [okR_cons' hne] at h
          simp only [Bool.and_eq_true, Bool.not_eq_true', decide_eq_true_eq] at h
          exact ⟨h.1.1, h.1.2, h.2⟩
        rw [if_neg (by rw [key.1]; simp; omega)]
        exact refF_ok n l (i + 1) (col + 1) key.2.2
    · exact refF_end hi _ _
theorem refL_ok {e : Bool} {l : List UInt8} (h : okR e l 0 = true) : refL e l = -1 := refF_ok _ l 0 0 (by simpa using h)
theorem bad_low {c : UInt8} (h : c.toNat ≠ 10 ∧ c.toNat ≠ 13 ∧ c.toNat ≠ 0 ∧ c.toNat < 128) : badC false c = false := by
  rw [badC_eq]
  simp
  omega
/-- what has been written ends in a line that is not too long. -/
structure FInv (out : List UInt8) (col : Nat) : Prop where
  ex : ∃ p cur : List UInt8, out = p ++ cur ∧ (∀ rest, okR false (p ++ rest) 0 = okR false rest 0) ∧ (∀ x ∈ cur, badC false x = false) ∧ cur.length = col ∧ col ≤ 76
theorem quoF_fits (l : List UInt8) : ∀ (n i col : Nat) (out : List UInt8), FInv out col → ∃ c, FInv (quoF l n i col out) c
  | 0, i, col, out, q => ⟨col, q⟩
  | n + 1, i, col, out, q => by
    rcases Nat.lt_or_ge i l.length with hlt | hge
    · rw [quoF_at hlt]
      obtain ⟨p, cur, e1, e2, e3, e4, e5⟩ := q.ex
      have ht : ∀ x ∈ tokQ l i, badC false x = false := fun x hx => bad_low (tok_mem hx)
      have htl := (tokC_len (l.getD i 0) (eolAt l (i + 1))).2
      have hr : roomQ l i ≤ 76 := by unfold roomQ; split <;> omega
      split
      · refine quoF_fits l n (i + 2) 0 _ ⟨p ++ (cur ++ [13, 10]), [], by simp [e1], fun rest => ?_, by simp, rfl, by omega⟩
        rw [List.append_assoc, e2, List.append_assoc, okR_app false cur _ 0 e3 (by omega)]
        exact okR_crlf _ _ _
      · split
        · refine quoF_fits l n (i + 1) _ _ ⟨p ++ (cur ++ [61, 13, 10]), tokQ l i, by simp [e1], fun rest => ?_, ht, rfl, ?_⟩
          · rw [List.append_assoc, e2, List.append_assoc, okR_app false cur _ 0 e3 (by omega)]
            show okR false (61 :: 13 :: 10 :: rest) _ = _
            rw [okR_cons (by decide) (by omega)]
            exact okR_crlf _ _ _
          · show (tokC _ _).length ≤ 76
            omega
        · refine quoF_fits l n (i + 1) _ _ ⟨p, cur ++ tokQ l i, by simp [e1], e2, fun x hx => ?_, by rw [List.length_append, e4], by omega⟩
          rcases List.mem_append.1 hx with h1 | h1
          · exact e3 x h1
          · exact ht x h1
    · rw [quoF_end hge]
      exact ⟨col, q⟩
theorem quoted_fits (l : List UInt8) : refL false (quoL l) = -1 := by
  obtain ⟨c, q⟩ := quoF_fits l l.length 0 0 [] ⟨[], [], rfl, fun _ => rfl, by simp, rfl, by omega⟩
  obtain ⟨p, cur, e1, e2, e3, e4, e5⟩ := q.ex
  apply refL_ok
  show okR false (quoF _ _ _ _ _) 0 = true
  rw [e1, e2]
  have := okR_app false cur [] 0 e3 (by omega)
  rw [List.append_nil] at this
  rw [this, okR_nil]
theorem lines_fit : ∀ (n : Nat) (s out : List UInt8), s.length ≤ 76 * n → (∀ x ∈ s, badC false x = false) → (∀ rest, okR false (out ++ rest) 0 = okR false rest 0) → okR false (linesF (n + 1) s out) 0 = true
  | n, s, out, h, hs, ho => by
    unfold linesF
    split
    · obtain ⟨m, rfl⟩ : ∃ m, n = m + 1 := ⟨n - 1, by omega⟩
      refine lines_fit m _ _ (by rw [List.length_drop]; omega) (fun x hx => hs x (List.mem_of_mem_drop hx)) (fun rest => ?_)
      rw [List.append_assoc, List.append_assoc, ho, okR_app false (s.take 76) _ 0 (fun x hx => hs x (List.mem_of_mem_take hx)) (by rw [List.length_take]; omega)]
      exact okR_crlf _ _ _
    · split
      · have := ho []
        rw [List.append_nil] at this
        rw [this, okR_nil]
      · rw [List.append_assoc, ho, okR_app false s _ 0 hs (by omega), okR_crlf, okR_nil]
theorem base64_fits (l : List UInt8) : refL false (lines64 l) = -1 := by
  apply refL_ok
  unfold lines64
  refine lines_fit _ _ _ (by omega) (fun x hx => ?_) (fun _ => rfl)
  have := chars_mem hx
  exact bad_low (by omega)
end Go.Proofs.YtjgohmfmalcjoaaDoor.Tr
