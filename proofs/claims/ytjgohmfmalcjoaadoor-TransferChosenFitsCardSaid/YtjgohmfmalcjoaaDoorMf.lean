import Derived.Test.YtjgohmfmalcjoaaDoorMc
import Derived.Test.YtjgohmfmalcjoaaDoorTr5
/- Plain: quoted text is decoded again. -/
namespace Go.Proofs.YtjgohmfmalcjoaaDoor.Tr
open Go.RowKit Go.Proofs.YtjgohmfmalcjoaaDoor.Base
set_option linter.unusedVariables false
set_option linter.unusedSimpArgs false
/-- decoding of a line, from the front. -/
def unqL : List UInt8 → List UInt8
  | [] => []
  | [c] => [c]
  | [c, a] => [c, a]
  | c :: a :: b :: r => if c.toNat = 61 ∧ 0 ≤ hexV a ∧ 0 ≤ hexV b then UInt8.ofNat (16 * hexV a + hexV b).toNat :: unqL r else c :: unqL (a :: b :: r)
theorem unqL_nil : unqL [] = [] := by rw [unqL]
theorem unqL_1 (c : UInt8) : unqL [c] = [c] := by rw [unqL]
theorem unqL_2 (c a : UInt8) : unqL [c, a] = [c, a] := by rw [unqL]
theorem unqL_bad {c a b : UInt8} {r : List UInt8} (h : ¬ (c.toNat = 61 ∧ 0 ≤ hexV a ∧ 0 ≤ hexV b)) : unqL (c :: a :: b :: r) = c :: unqL (a :: b :: r) := by
  conv => lhs; rw [unqL]
  exact if_neg h
theorem unqL_esc {c a b : UInt8} {r : List UInt8} (h : c.toNat = 61) (h1 : 0 ≤ hexV a) (h2 : 0 ≤ hexV b) : unqL (c :: a :: b :: r) = UInt8.ofNat (16 * hexV a + hexV b).toNat :: unqL r := by
  conv => lhs; rw [unqL]
  exact if_pos ⟨h, h1, h2⟩
theorem unqL_no {c : UInt8} {r : List UInt8} (h : c.toNat ≠ 61) : unqL (c :: r) = c :: unqL r := by
  match r with
  | [] => rw [unqL_1, unqL_nil]
  | [a] => rw [unqL_1, unqL_2]
  | a :: b :: r => exact unqL_bad (fun h' => h h'.1)
theorem unqF_L : ∀ (n : Nat) (t : List UInt8) (i : Nat) (out : List UInt8), t.length ≤ i + n → unqF t n i out = out ++ unqL (t.drop i)
  | 0, t, i, out, h => by rw [List.drop_eq_nil_of_le (by omega), unqL_nil, List.append_nil]; rfl
  | n + 1, t, i, out, h => by
    rcases Nat.lt_or_ge i t.length with hi | hi
    · rw [unqF_at hi, List.drop_eq_getElem_cons hi]
      have g0 : t.getD i 0 = t[i] := by rw [List.getD, List.getElem?_eq_getElem hi]; rfl
      rcases Nat.lt_or_ge (i + 2) t.length with h2 | h2
      · have g1 : t.getD (i + 1) 0 = t[i + 1] := by rw [List.getD, List.getElem?_eq_getElem (by omega)]; rfl
        have g2 : t.getD (i + 2) 0 = t[i + 2] := by rw [List.getD, List.getElem?_eq_getElem h2]; rfl
        have d1 : t.drop (i + 1) = t[i + 1] :: t[i + 2] :: t.drop (i + 3) := by rw [List.drop_eq_getElem_cons (by omega), List.drop_eq_getElem_cons h2]
        unfold escAt escB
        rw [g0, g1, g2]
        split
        · rename_i he
          simp only [Bool.and_eq_true, decide_eq_true_eq] at he
          rw [unqF_L n t (i + 3) _ (by omega), d1, unqL_esc he.1.1.1 he.1.2 he.2]
          simp
        · rename_i he
          rw [unqF_L n t (i + 1) _ (by omega)]
          rcases Classical.em (t[i].toNat = 61) with h61 | h61
          · rw [d1, unqL_bad (by
              intro ⟨_, x, y⟩
              exact he (by simp [h61, h2, x, y]))]
            simp
          · rw [unqL_no h61]
            simp
      · have he : escAt t i = false := by unfold escAt; simp; omega
        rw [he, if_neg (by simp), unqF_L n t (i + 1) _ (by omega), g0]
        have hr : (t.drop (i + 1)).length ≤ 1 := by rw [List.length_drop]; omega
        generalize t.drop (i + 1) = r at *
        match r, hr with
        | [], _ => rw [unqL_1, unqL_nil]; simp
        | [a], _ => rw [unqL_2, unqL_1]; simp
    · rw [unqF_end hi, List.drop_eq_nil_of_le hi, unqL_nil, List.append_nil]
theorem unq_eq (t : List UInt8) : unqF t t.length 0 [] = unqL t := by rw [unqF_L _ _ _ _ (by omega)]; simp
/-! tokens -/
theorem hexD_val : ∀ k : Fin 16, hexV (hexD k.val) = (k.val : Int) ∧ (hexD k.val).toNat ≠ 10 ∧ (hexD k.val).toNat ≠ 61 ∧ blankC (hexD k.val) = false ∧ 48 ≤ (hexD k.val).toNat ∧ (hexD k.val).toNat ≤ 70 := by decide +kernel
theorem hexD_v (k : Nat) (h : k < 16) : hexV (hexD k) = (k : Int) := (hexD_val ⟨k, h⟩).1
theorem hexD_i (k : Nat) (h : k < 16) : (hexD k).toNat ≠ 10 ∧ (hexD k).toNat ≠ 61 ∧ blankC (hexD k) = false ∧ 48 ≤ (hexD k).toNat ∧ (hexD k).toNat ≤ 70 := (hexD_val ⟨k, h⟩).2
def toksL (ts : List (UInt8 × Bool)) : List UInt8 := ts.flatMap fun p => tokC p.1 p.2
def valsL (ts : List (UInt8 × Bool)) : List UInt8 := ts.map (·.1)
theorem plainC_ne {c : UInt8} (h : plainC c = true) : c.toNat ≠ 61 ∧ c.toNat ≠ 10 ∧ blankC c = false ∧ 32 < c.toNat ∧ c.toNat < 127 := by
  unfold plainC at h
  unfold blankC
  simp only [Bool.and_eq_true, decide_eq_true_eq] at h
  refine ⟨h.2, by omega, ?_, h.1.1, h.1.2⟩
  simp
  omega
theorem blankC_ne {c : UInt8} (h : blankC c = true) : c.toNat = 32 ∨ c.toNat = 9 := by
  unfold blankC at h
  simpa using h
theorem toks_cons (p : UInt8 × Bool) (ts : List (UInt8 × Bool)) : toksL (p :: ts) = tokC p.1 p.2 ++ toksL ts := by simp [toksL]
theorem unq_toks : ∀ ts, unqL (toksL ts) = valsL ts
  | [] => unqL_nil
  | (c, e) :: ts => by
    have ih := unq_toks ts
    rw [toks_cons]
    show unqL (tokC c e ++ toksL ts) = c :: valsL ts
    unfold tokC
    split
    · rename_i h
      have h61 : c.toNat ≠ 61 := by
        rcases h with h | h
        · exact (plainC_ne h).1
        · have := blankC_ne h.1; omega
      rw [List.singleton_append, unqL_no h61, ih]
    · have hc := c.toNat_lt
      show unqL (61 :: hexD (c.toNat / 16) :: hexD (c.toNat % 16) :: toksL ts) = _
      have v1 := hexD_v (c.toNat / 16) (by omega)
      have v2 := hexD_v (c.toNat % 16) (by omega)
      rw [unqL_esc rfl (by omega) (by omega), ih, v1, v2]
      congr 1
      rw [show (16 * ((c.toNat / 16 : Nat) : Int) + ((c.toNat % 16 : Nat) : Int)).toNat = c.toNat by omega]
      simp
theorem tok_mem {c x : UInt8} {e : Bool} (h : x ∈ tokC c e) : x.toNat ≠ 10 ∧ x.toNat ≠ 13 ∧ x.toNat ≠ 0 ∧ x.toNat < 128 := by
  unfold tokC at h
  split at h
  · rename_i hp
    simp only [List.mem_singleton] at h
    subst h
    rcases hp with hp | hp
    · have := plainC_ne hp; omega
    · have := blankC_ne hp.1; omega
  · have hc := c.toNat_lt
    have i1 := hexD_i (c.toNat / 16) (by omega)
    have i2 := hexD_i (c.toNat % 16) (by omega)
    simp only [List.mem_cons, List.mem_nil_iff, or_false] at h
    rcases h with rfl | rfl | rfl
    · decide
    · omega
    · omega
theorem toks_mem {x : UInt8} {ts : List (UInt8 × Bool)} (h : x ∈ toksL ts) : x.toNat ≠ 10 ∧ x.toNat ≠ 13 ∧ x.toNat ≠ 0 ∧ x.toNat < 128 := by
  unfold toksL at h
  obtain ⟨p, _, hp⟩ := List.mem_flatMap.1 h
  exact tok_mem hp
/-- the last byte of the tokens, if the last one stands at the end of a line. -/
theorem tok_last (c : UInt8) : ∃ m x, tokC c true = m ++ [x] ∧ blankC x = false ∧ x.toNat ≠ 61 := by
  unfold tokC
  split
  · rename_i h
    rcases h with h | h
    · exact ⟨[], c, rfl, (plainC_ne h).2.2.1, (plainC_ne h).1⟩
    · cases h.2
  · have hc := c.toNat_lt
    have i2 := hexD_i (c.toNat % 16) (by omega)
    exact ⟨[61, hexD (c.toNat / 16)], hexD (c.toNat % 16), rfl, i2.2.2.1, i2.2.1⟩
def HardL (ts : List (UInt8 × Bool)) : Prop := ts = [] ∨ ∃ ts' c, ts = ts' ++ [(c, true)]
theorem line_hard {ts : List (UInt8 × Bool)} (h : HardL ts) : lineF (toksL ts) = valsL ts ∧ lineS (toksL ts) = false := by
  have hT : lineT (toksL ts) = toksL ts ∧ lineS (toksL ts) = false := by
    rcases h with rfl | ⟨ts', c, rfl⟩
    · exact ⟨rfl, rfl⟩
    · obtain ⟨m, x, e, hb, hx⟩ := tok_last c
      have e2 : toksL (ts' ++ [(c, true)]) = (toksL ts' ++ m) ++ [x] := by
        unfold toksL
        rw [List.flatMap_append]
        simp [e]
      have e3 : lineT (toksL (ts' ++ [(c, true)])) = toksL (ts' ++ [(c, true)]) := by
        unfold lineT
        rw [e2, trimR_snoc, if_neg (by rw [hb]; simp)]
      refine ⟨e3, ?_⟩
      unfold lineS
      rw [e3, e2]
      simp [List.getD, hx]
  have hB : lineB (toksL ts) = toksL ts := by unfold lineB; rw [hT.2, if_neg (by simp), hT.1]
  refine ⟨?_, hT.2⟩
  unfold lineF
  rw [hB, unq_eq, unq_toks]
theorem line_soft (ts : List (UInt8 × Bool)) : lineF (toksL ts ++ [61]) = valsL ts ∧ lineS (toksL ts ++ [61]) = true := by
  have e3 : lineT (toksL ts ++ [61]) = toksL ts ++ [61] := by
    unfold lineT
    rw [trimR_snoc, if_neg (by decide)]
  have hS : lineS (toksL ts ++ [61]) = true := by
    unfold lineS
    rw [e3]
    simp [List.getD]
  have hB : lineB (toksL ts ++ [61]) = toksL ts := by
    unfold lineB
    rw [hS, if_pos rfl, e3]
    simp
  refine ⟨?_, hS⟩
  unfold lineF
  rw [hB, unq_eq, unq_toks]
/-! lines -/
theorem nlAt_bd (l : List UInt8) : -1 ≤ nlAt l ∧ nlAt l < l.length := ib_bd 10 l
theorem looseF_L : ∀ (m n : Nat) (l out : List UInt8), l.length ≤ m → l.length ≤ n → looseF n l out = out ++ looseL l
  | m, n, l, out, hm, hn => by
    rcases Nat.eq_zero_or_pos l.length with h0 | h0
    · obtain rfl : l = [] := List.eq_nil_of_length_eq_zero h0
      rw [looseF_end]
      show out = out ++ looseF 0 [] []
      simp [looseF]
    · obtain ⟨n', rfl⟩ : ∃ n', n = n' + 1 := ⟨n - 1, by omega⟩
      obtain ⟨m', rfl⟩ : ∃ m', m = m' + 1 := ⟨m - 1, by omega⟩
      have hb := nlAt_bd l
      obtain ⟨q, hq⟩ : ∃ q, l.length = q + 1 := ⟨l.length - 1, by omega⟩
      unfold looseL
      rw [hq]
      rcases Classical.em (nlAt l = -1) with h1 | h1
      · rw [looseF_no h0 h1, looseF_no h0 h1]
        simp
      · obtain ⟨k, hk⟩ : ∃ k : Nat, nlAt l = (k : Int) := ⟨(nlAt l).toNat, by omega⟩
        rw [looseF_nl h0 hk, looseF_nl h0 hk, looseF_L m' n' _ _ (by rw [List.length_drop]; omega) (by rw [List.length_drop]; omega), looseF_L m' q _ _ (by rw [List.length_drop]; omega) (by rw [List.length_drop]; omega)]
        simp
theorem loose_nl {l : List UInt8} {k : Nat} (hk : nlAt l = (k : Int)) : looseL l = stepO l k ++ looseL (l.drop (k + 1)) := by
  have hb := nlAt_bd l
  obtain ⟨q, hq⟩ : ∃ q, l.length = q + 1 := ⟨l.length - 1, by omega⟩
  show looseF l.length l [] = _
  rw [hq, looseF_nl (by omega) hk, looseF_L q q _ _ (by rw [List.length_drop]; omega) (by rw [List.length_drop]; omega)]
  simp
theorem loose_no {l : List UInt8} (hk : nlAt l = -1) : looseL l = lineF l := by
  rcases Nat.eq_zero_or_pos l.length with h0 | h0
  · obtain rfl : l = [] := List.eq_nil_of_length_eq_zero h0
    rfl
  · obtain ⟨q, hq⟩ : ∃ q, l.length = q + 1 := ⟨l.length - 1, by omega⟩
    show looseF l.length l [] = _
    rw [hq, looseF_no h0 hk]
    simp
theorem toks_no10 (ts : List (UInt8 × Bool)) : ∀ y ∈ toksL ts, y ≠ 10 := fun y hy e => (toks_mem hy).1 (by rw [e]; rfl)
/-- a line that ends is decoded by itself. -/
theorem loose_crlf {ts : List (UInt8 × Bool)} (h : HardL ts) (rest : List UInt8) : looseL (toksL ts ++ [13, 10] ++ rest) = valsL ts ++ [13, 10] ++ looseL rest := by
  have hk : nlAt (toksL ts ++ [13, 10] ++ rest) = ((toksL ts ++ [13]).length : Int) := by
    have := ib_app (x := 10) (a := toksL ts ++ [13]) rest (fun y hy => by
      rcases List.mem_append.1 hy with h1 | h1
      · exact toks_no10 ts y h1
      · simp only [List.mem_singleton] at h1; subst h1; decide)
    unfold nlAt
    rw [← this]
    simp
  have hlen : (toksL ts ++ [13]).length = (toksL ts).length + 1 := by simp
  rw [loose_nl hk, hlen]
  have hd : (toksL ts ++ [13, 10] ++ rest).drop ((toksL ts).length + 1 + 1) = rest := by
    have e : toksL ts ++ [13, 10] ++ rest = (toksL ts ++ [13, 10]) ++ rest := rfl
    rw [List.drop_append_of_le_length (by simp), List.drop_of_length_le (by simp)]
    rfl
  rw [hd]
  have hc : crB (toksL ts ++ [13, 10] ++ rest) ((toksL ts).length + 1) = true := by
    unfold crB
    simp [List.getD]
  have hL : crL (toksL ts ++ [13, 10] ++ rest) ((toksL ts).length + 1) = toksL ts := by
    unfold crL
    rw [hc, if_pos rfl]
    simp
  unfold stepO
  rw [hL, hc, (line_hard h).1, (line_hard h).2]
  simp
theorem loose_softl (ts : List (UInt8 × Bool)) (rest : List UInt8) : looseL (toksL ts ++ [61, 13, 10] ++ rest) = valsL ts ++ looseL rest := by
  have hk : nlAt (toksL ts ++ [61, 13, 10] ++ rest) = ((toksL ts ++ [61, 13]).length : Int) := by
    have := ib_app (x := 10) (a := toksL ts ++ [61, 13]) rest (fun y hy => by
      rcases List.mem_append.1 hy with h1 | h1
      · exact toks_no10 ts y h1
      · simp only [List.mem_cons, List.mem_nil_iff, or_false] at h1
        rcases h1 with rfl | rfl <;> decide)
    unfold nlAt
    rw [← this]
    simp
  have hlen : (toksL ts ++ [61, 13]).length = (toksL ts).length + 2 := by simp
  rw [loose_nl hk, hlen]
  have hd : (toksL ts ++ [61, 13, 10] ++ rest).drop ((toksL ts).length + 2 + 1) = rest := by
    rw [List.drop_append_of_le_length (by simp), List.drop_of_length_le (by simp)]
    rfl
  rw [hd]
  have hc : crB (toksL ts ++ [61, 13, 10] ++ rest) ((toksL ts).length + 2) = true := by
    unfold crB
    simp [List.getD]
  have hL : crL (toksL ts ++ [61, 13, 10] ++ rest) ((toksL ts).length + 2) = toksL ts ++ [61] := by
    unfold crL
    rw [hc, if_pos rfl]
    have : (toksL ts).length + 2 - 1 = (toksL ts).length + 1 := by omega
    have e : toksL ts ++ [61, 13, 10] ++ rest = (toksL ts ++ [61]) ++ ([13, 10] ++ rest) := by simp
    rw [this, e]
    exact List.take_left' (by simp)
  unfold stepO
  rw [hL, (line_soft ts).1, (line_soft ts).2]
  simp
theorem loose_end {ts : List (UInt8 × Bool)} (h : HardL ts) : looseL (toksL ts) = valsL ts := by
  rw [loose_no (ib_none (toks_no10 ts)), (line_hard h).1]
/-- what has been written decodes to what has been read. -/
structure QInv (l : List UInt8) (i : Nat) (out : List UInt8) : Prop where
  ex : ∃ (p d : List UInt8) (ts : List (UInt8 × Bool)), out = p ++ toksL ts ∧ (∀ rest, looseL (p ++ rest) = d ++ looseL rest) ∧ d ++ valsL ts = l.take i ∧ (ts = [] ∨ ∃ ts' c, ts = ts' ++ [(c, eolAt l i)])
theorem qinv_zero (l : List UInt8) : QInv l 0 [] := ⟨[], [], [], rfl, fun _ => rfl, rfl, .inl rfl⟩
theorem hard_of {l : List UInt8} {i : Nat} {ts : List (UInt8 × Bool)} (he : eolAt l i = true) (h : ts = [] ∨ ∃ ts' c, ts = ts' ++ [(c, eolAt l i)]) : HardL ts := by
  rw [he] at h; exact h
theorem quoF_inv (l : List UInt8) : ∀ (n i col : Nat) (out : List UInt8), l.length ≤ i + n → i ≤ l.length → QInv l i out → QInv l l.length (quoF l n i col out)
  | 0, i, col, out, h, hi, q => by
    obtain rfl : i = l.length := by omega
    exact q
  | n + 1, i, col, out, h, hi, q => by
    rcases Nat.lt_or_ge i l.length with hlt | hge
    · rw [quoF_at hlt]
      obtain ⟨p, d, ts, e1, e2, e3, e4⟩ := q.ex
      have tk : l.take (i + 1) = l.take i ++ [l.getD i 0] := by
        rw [List.take_succ_eq_append_getElem hlt, List.getD, List.getElem?_eq_getElem hlt]; rfl
      split
      · rename_i hc
        have hc2 : i + 1 < l.length := by
          rcases Nat.lt_or_ge (i + 1) l.length with h1 | h1
          · exact h1
          · rw [crlf_end h1] at hc; cases hc
        have hh := hard_of (by rw [eol_in hlt]; exact hc) e4
        refine quoF_inv l n (i + 2) 0 _ (by omega) (by omega) ⟨p ++ (toksL ts ++ [13, 10]), d ++ (valsL ts ++ [13, 10]), [], by simp [e1, toksL], fun rest => ?_, ?_, .inl rfl⟩
        · rw [List.append_assoc, e2, loose_crlf hh]
          simp
        · have ec := crlf_of hc2
          rw [hc] at ec
          have ec' := ec.symm
          simp only [Bool.and_eq_true, beq_iff_eq] at ec'
          rw [← List.append_assoc, e3, List.take_succ_eq_append_getElem (by omega : i + 1 < l.length), List.take_succ_eq_append_getElem hlt, ec'.1, ec'.2]
          simp [valsL]
      · split
        · refine quoF_inv l n (i + 1) _ _ (by omega) (by omega) ⟨p ++ (toksL ts ++ [61, 13, 10]), d ++ valsL ts, [(l.getD i 0, eolAt l (i + 1))], ?_, fun rest => ?_, ?_, .inr ⟨[], _, rfl⟩⟩
          · rw [e1]
            simp [toksL, tokQ]
          · rw [List.append_assoc, e2, loose_softl]
            simp
          · rw [e3, tk]
            rfl
        · refine quoF_inv l n (i + 1) _ _ (by omega) (by omega) ⟨p, d, ts ++ [(l.getD i 0, eolAt l (i + 1))], ?_, e2, ?_, .inr ⟨ts, _, rfl⟩⟩
          · rw [e1]
            simp [toksL, tokQ]
          · unfold valsL at *
            rw [List.map_append, ← List.append_assoc, e3, tk]
            rfl
    · obtain rfl : i = l.length := by omega
      rw [quoF_end (Nat.le_refl _)]
      exact q
theorem quoted_back (l : List UInt8) : looseL (quoL l) = l := by
  obtain ⟨p, d, ts, e1, e2, e3, e4⟩ := (quoF_inv l l.length 0 0 [] (by omega) (by omega) (qinv_zero l)).ex
  show looseL (quoF _ _ _ _ _) = _
  have he : eolAt l l.length = true := by unfold eolAt; simp
  rw [e1, e2, loose_end (hard_of he e4), e3, List.take_length]
end Go.Proofs.YtjgohmfmalcjoaaDoor.Tr
/- Plain: quoted text, decoding line by line with places. -/
namespace Go.Proofs.YtjgohmfmalcjoaaDoor.Tr
set_option linter.unusedVariables false
/-- the end of the line that begins at k: where the next LF is. -/
theorem line_end (l : List UInt8) (k : Nat) (h : k < l.length) : ∃ E, k ≤ E ∧ E ≤ l.length ∧ (∀ j (hj : j < l.length), k ≤ j → j < E → l[j].toNat ≠ 10) ∧ ((∃ hE : E < l.length, l[E].toNat = 10 ∧ nlAt (l.drop k) = ((E - k : Nat) : Int)) ∨ (E = l.length ∧ nlAt (l.drop k) = -1)) := by
  have hne : ∀ j (hj : j < l.length), l[j] ≠ 10 → l[j].toNat ≠ 10 := fun j hj h1 h2 => h1 (UInt8.toNat_inj.1 h2)
  rcases ib_spec 10 (l.drop k) with ⟨m, hm, h1, h2, h3⟩ | ⟨h1, h2⟩
  · rw [List.length_drop] at hm
    refine ⟨k + m, by omega, by omega, fun j hj ha hb => hne j hj ?_, .inl ⟨by omega, ?_, ?_⟩⟩
    · have := h3 (j - k) (by rw [List.length_drop]; omega) (by omega)
      rw [List.getElem_drop] at this
      simpa [show k + (j - k) = j by omega] using this
    · rw [List.getElem_drop] at h2
      rw [h2]; rfl
    · unfold nlAt
      rw [h1]; omega
  · refine ⟨l.length, by omega, Nat.le_refl _, fun j hj ha hb => hne j hj ?_, .inr ⟨rfl, h1⟩⟩
    have := h2 (j - k) (by rw [List.length_drop]; omega)
    rw [List.getElem_drop] at this
    simpa [show k + (j - k) = j by omega] using this
theorem u8_13 {x : UInt8} : (x = 13 ↔ x.toNat = 13) := ⟨fun h => by rw [h]; rfl, fun h => UInt8.toNat_inj.1 h⟩
/-- one line of the text: up to E, of which the end begins at S. -/
theorem line_step (l : List UInt8) (k E S : Nat) (cr : Bool) (hk : k < l.length) (h1 : k ≤ E) (h2 : E ≤ l.length) (hf : (∃ hE : E < l.length, l[E].toNat = 10 ∧ nlAt (l.drop k) = ((E - k : Nat) : Int)) ∨ (E = l.length ∧ nlAt (l.drop k) = -1))
    (hcr : cr = (decide (E < l.length) && decide (k < E) && decide ((l.getD (E - 1) 0).toNat = 13))) (hS : S = if cr = true then E - 1 else E) :
    k ≤ S ∧ S ≤ E ∧ looseL (l.drop k) = lineF (seg l k S) ++ ((if E < l.length ∧ lineS (seg l k S) = false then seg l S (E + 1) else []) ++ looseL (l.drop (E + 1))) := by
  rcases hf with ⟨hE, h10, hn⟩ | ⟨hE, hn⟩
  · have hcb : crB (l.drop k) (E - k) = cr := by
      rw [hcr]
      unfold crB
      have e : decide (E < l.length) = true := by simpa using hE
      rw [e, Bool.true_and]
      by_cases hkE : k < E
      · have e3 : (l.drop k).getD (E - k - 1) 0 = l.getD (E - 1) 0 := by
          simp only [List.getD, List.getElem?_drop]
          rw [show k + (E - k - 1) = E - 1 by omega]
        rw [e3]
        simp only [show (0 < E - k) = (k < E) by rw [eq_iff_iff]; omega]
      · have e4 : ¬ 0 < E - k := by omega
        simp [hkE, e4]
    have hcl : crL (l.drop k) (E - k) = seg l k S := by
      unfold crL seg
      rw [hcb, hS]
      cases cr with
      | true => rw [if_pos rfl, if_pos rfl]; congr 1; omega
      | false => rw [if_neg (by simp), if_neg (by simp)]
    have hkS : k ≤ S ∧ S ≤ E := by
      rw [hS]
      cases hc : cr with
      | true =>
        rw [hcr] at hc
        simp at hc
        rw [if_pos rfl]
        omega
      | false => rw [if_neg (by simp)]; omega
    have hL : E < l.length := hE
    have he : l[E] = 10 := UInt8.toNat_inj.1 (by rw [h10]; rfl)
    have hend : seg l S (E + 1) = if cr = true then [13, 10] else [10] := by
      cases hc : cr with
      | false =>
        rw [hS, hc, if_neg (by simp), if_neg (by simp), seg_snoc (Nat.le_refl _) hE, seg_self, he]
        rfl
      | true =>
        rw [hS, hc, if_pos rfl, if_pos rfl]
        rw [hcr] at hc
        simp only [Bool.and_eq_true, decide_eq_true_eq] at hc
        obtain ⟨⟨_, hkE⟩, h13⟩ := hc
        have e13 : l.getD (E - 1) 0 = l[E - 1] := by rw [List.getD, List.getElem?_eq_getElem (by omega)]; rfl
        rw [seg_cons (by omega) (by omega), show E - 1 + 1 = E by omega, seg_snoc (Nat.le_refl _) hE, seg_self, he]
        rw [e13] at h13
        rw [u8_13.2 h13]
        rfl
    refine ⟨hkS.1, hkS.2, ?_⟩
    rw [loose_nl hn]
    unfold stepO
    rw [hcl, hcb, hend, List.drop_drop, show k + (E - k + 1) = E + 1 by omega, List.append_assoc]
    generalize (if cr = true then ([13, 10] : List UInt8) else [10]) = eb
    cases hs : lineS (seg l k S) with
    | true => simp
    | false => simp [hL]
  · have hc : cr = false := by rw [hcr, hE]; simp
    rw [hc, if_neg (by simp)] at hS
    subst hS
    refine ⟨h1, Nat.le_refl _, ?_⟩
    rw [loose_no hn, if_neg (by omega), show l.drop (S + 1) = [] from List.drop_eq_nil_of_le (by omega)]
    have : seg l k S = l.drop k := by unfold seg; exact List.take_of_length_le (by rw [List.length_drop]; omega)
    rw [this]
    show _ = _ ++ ([] ++ [])
    simp
theorem trim_blank {l : List UInt8} {k t : Nat} (hk : k ≤ t) (h : t < l.length) (hb : blankC l[t] = true) : Lib.trimRightS (seg l k (t + 1)) [32, 9] = Lib.trimRightS (seg l k t) [32, 9] := by
  rw [seg_snoc hk h, trimR_snoc, if_pos hb]
/-- what is left of a line without its blanks. -/
theorem line_trim {l : List UInt8} {k S t : Nat} (hkt : k ≤ t) (ht : t ≤ l.length) (hT : Lib.trimRightS (seg l k S) [32, 9] = Lib.trimRightS (seg l k t) [32, 9]) (hend : t = k ∨ ∃ h : t - 1 < l.length, k < t ∧ blankC l[t - 1] = false) :
    (lineS (seg l k S) = (decide (k < t) && decide ((l.getD (t - 1) 0).toNat = 61))) ∧ lineF (seg l k S) = unqL (seg l k (if lineS (seg l k S) = true then t - 1 else t)) := by
  have hl : lineT (seg l k S) = seg l k t := by
    show Lib.trimRightS (seg l k S) [32, 9] = _
    rw [hT]
    rcases hend with rfl | ⟨h, hk, hb⟩
    · rw [seg_self]; rfl
    · obtain ⟨q, rfl⟩ : ∃ q, t = q + 1 := ⟨t - 1, by omega⟩
      rw [seg_snoc (by omega) (by omega), trimR_snoc, if_neg (by simpa using hb)]
  have hlen := seg_len (k := k) ht
  have hs : lineS (seg l k S) = (decide (k < t) && decide ((l.getD (t - 1) 0).toNat = 61)) := by
    unfold lineS
    rw [hl, hlen]
    by_cases hk : k < t
    · have e : (seg l k t).getD (t - k - 1) 0 = l.getD (t - 1) 0 := by
        unfold seg
        simp only [List.getD]
        rw [List.getElem?_take_of_lt (by omega), List.getElem?_drop, show k + (t - k - 1) = t - 1 by omega]
      rw [e]
      simp only [show (0 < t - k) = (k < t) by rw [eq_iff_iff]; omega]
    · have e4 : ¬ 0 < t - k := by omega
      simp [hk, e4]
  refine ⟨hs, ?_⟩
  unfold lineF
  rw [unq_eq]
  unfold lineB
  rw [hl, hlen]
  cases hc : lineS (seg l k S) with
  | true =>
    rw [if_pos rfl, if_pos rfl]
    unfold seg
    rw [List.take_take]
    congr 2
    omega
  | false => rw [if_neg (by simp), if_neg (by simp)]
theorem unq_esc {l : List UInt8} {i L : Nat} (hL : L ≤ l.length) (h : i + 2 < L) (h61 : (l[i]'(by omega)).toNat = 61) (h1 : 0 ≤ hexV (l[i + 1]'(by omega))) (h2 : 0 ≤ hexV (l[i + 2]'(by omega))) :
    unqL (seg l i L) = UInt8.ofNat (16 * hexV (l[i + 1]'(by omega)) + hexV (l[i + 2]'(by omega))).toNat :: unqL (seg l (i + 3) L) := by
  rw [seg_cons (by omega) hL, seg_cons (by omega) hL, seg_cons (by omega) hL, unqL_esc h61 h1 h2]
theorem unq_one {l : List UInt8} {i L : Nat} (hL : L ≤ l.length) (h : i < L) (hn : ∀ (h2 : i + 2 < L), ¬ ((l[i]'(by omega)).toNat = 61 ∧ 0 ≤ hexV (l[i + 1]'(by omega)) ∧ 0 ≤ hexV (l[i + 2]'(by omega)))) :
    unqL (seg l i L) = l[i]'(by omega) :: unqL (seg l (i + 1) L) := by
  rcases Nat.lt_or_ge (i + 2) L with h2 | h2
  · have e2 : seg l (i + 1) L = l[i + 1]'(by omega) :: l[i + 2]'(by omega) :: seg l (i + 3) L := by rw [seg_cons (by omega) hL, seg_cons (by omega) hL]
    rw [seg_cons h hL, e2, unqL_bad (hn h2)]
  · rw [seg_cons h hL]
    have hl := seg_len (k := i + 1) hL
    generalize seg l (i + 1) L = r at *
    match r, hl with
    | [], _ => rw [unqL_1, unqL_nil]
    | [a], _ => rw [unqL_2, unqL_1]
    | a :: b :: r, hl => simp only [List.length_cons] at hl; omega
end Go.Proofs.YtjgohmfmalcjoaaDoor.Tr
