import Derived.Test.YtnjplichhkmmhaaMl
import Derived.Test.YtnjplichhkmmhaaRecW10
/- Plain laws: inserting into a list; the instants of a range. No Go. -/
namespace Go.Proofs.Ytnjplichhkmmhaa.Cal
open Go.Proofs.Ytnjplichhkmmhaa.Base
set_option linter.unusedVariables false
def stepI (n : Int) (p : List Int × Bool) (x : Int) : List Int × Bool := if p.2 = false ∧ n < x then (p.1 ++ [n] ++ [x], true) else (p.1 ++ [x], p.2)
def insTo (l : List Int) (n : Int) (k : Nat) : List Int × Bool := (l.take k).foldl (stepI n) ([], false)
def insR (l : List Int) (n : Int) : List Int := if (insTo l n l.length).2 = true then (insTo l n l.length).1 else (insTo l n l.length).1 ++ [n]
def insL (l : List Int) (n : Int) : List Int := if l.contains n = true then l else insR l n
theorem insTo_succ {l : List Int} {n : Int} {k : Nat} (h : k < l.length) : insTo l n (k + 1) = stepI n (insTo l n k) l[k] := by
  unfold insTo
  rw [List.take_succ_eq_append_getElem h, List.foldl_append]
  rfl
theorem insTo_len (l : List Int) (n : Int) : ∀ k, k ≤ l.length → (insTo l n k).1.length = k + (if (insTo l n k).2 = true then 1 else 0)
  | 0, _ => by simp [insTo]
  | k + 1, h => by
    have ih := insTo_len l n k (by omega)
    rw [insTo_succ (by omega)]
    unfold stepI
    split
    · rename_i h1
      rw [h1.1] at ih
      simp at ih ⊢
      omega
    · simp [ih]
      omega
def betKeep (r : Rule) (a b t : Int) : Bool := inR t a b && !r.ex.contains t
def betAdd (a b : Int) (o : List Int) (t : Int) : List Int := if inR t a b = true then insL o t else o
/-- the instants of a range: those of the rule, without the exceptions; then those that are added. -/
def betL (z : Zone) (d : Date) (r : Rule) (a b : Int) : List Int := r.ad.foldl (betAdd a b) ((regL z d r).filter (betKeep r a b))
theorem filter_take {p : Int → Bool} {l : List Int} {k : Nat} (h : k < l.length) : (l.take (k + 1)).filter p = if p l[k] = true then (l.take k).filter p ++ [l[k]] else (l.take k).filter p := by
  rw [List.take_succ_eq_append_getElem h, List.filter_append]
  split <;> simp [*]
theorem foldl_take {f : List Int → Int → List Int} {o : List Int} {l : List Int} {k : Nat} (h : k < l.length) : (l.take (k + 1)).foldl f o = f ((l.take k).foldl f o) l[k] := by
  rw [List.take_succ_eq_append_getElem h, List.foldl_append]
  rfl
theorem insL_len (l : List Int) (n : Int) : (insL l n).length ≤ l.length + 1 := by
  have h := insTo_len l n l.length (Nat.le_refl _)
  unfold insL insR
  split
  · omega
  · split
    · rename_i h1; rw [if_pos h1] at h; omega
    · rename_i h1; rw [if_neg h1] at h; simp; omega
theorem regF_len (z : Zone) (d : Date) (r : Rule) : ∀ (ds acc : List Int), (regF z d r acc ds).length ≤ acc.length + ds.length
  | [], acc => by simp [regF]
  | n :: ds, acc => by
    unfold regF
    split
    · have := regF_len z d r ds acc; simp; omega
    · split
      · simp
      · split
        · simp
        · rename_i t _ _ _ _
          have := regF_len z d r ds (acc ++ [t])
          simp at this ⊢
          omega
theorem dayL_le (d : Date) (r : Rule) : ∀ m, (dayL d r m).length ≤ m
  | 0 => Nat.le_refl _
  | m + 1 => by
    have := dayL_le d r m
    unfold dayL
    split
    · simp; omega
    · omega
theorem regL_len (z : Zone) (d : Date) (r : Rule) : (regL z d r).length ≤ 1501 := by
  have h := regF_len z d r (daysL d r) []
  have := dayL_le d r 1501
  unfold regL
  unfold daysL at h ⊢
  simp at h
  omega
theorem betAdd_len (a b : Int) (ad : List Int) : ∀ (l o : List Int), (l.foldl (betAdd a b) o).length ≤ o.length + l.length
  | [], o => by simp
  | t :: l, o => by
    have := betAdd_len a b ad l (betAdd a b o t)
    have h2 := insL_len o t
    have h3 : (betAdd a b o t).length ≤ o.length + 1 := by unfold betAdd; split <;> omega
    simp
    omega
theorem Rule.ad_len {r : Rule} (h : r.fault = (0, 0)) : r.ad.length ≤ 300 := by
  have key : instF r.ad = 0 := by
    unfold Rule.fault at h
    split at h
    · simp at h
    split at h
    · simp at h
    split at h
    · simp at h
    split at h
    · simp at h
    split at h
    · simp at h
    split at h
    · rename_i h1; simp only [Prod.mk.injEq] at h; exact absurd h.1 h1
    split at h
    · rename_i h1; simp only [Prod.mk.injEq] at h; exact absurd h.1 h1
    split at h
    · rename_i h1; simp only [Prod.mk.injEq] at h; exact absurd h.1 h1
    · rename_i h1; simpa using h1
  unfold instF at key
  split at key
  · simp at key
  · omega
end Go.Proofs.Ytnjplichhkmmhaa.Cal
/- Walk: the reference's insert. -/
namespace Go.Proofs.Ytnjplichhkmmhaa.CalW
open Go.RowKit Go.Proofs.Ytnjplichhkmmhaa.Base Go.Proofs.Ytnjplichhkmmhaa.Cal
set_option linter.unusedVariables false
set_option linter.unusedSimpArgs false
/-- the call hands back a list of numbers, and leaves memory as it was. -/
def GivesR (w : World) (l : List Int) (e : Ending) (w' : World) : Prop := ∃ A c, e = .returned (.slice A l.length c) ∧ Rd w' iv A l ∧ Below w.heap.size w w'
/-- a list that the call owns, and what else has become of memory. -/
structure OwSt (w wr : World) (l : List Int) (v : Value) : Prop where
  own : wr.ownsRow w.heap.size 3 1 v l.length (l.map iv)
  b : Below w.heap.size w wr
theorem OwSt.bel {w wr w' : World} {l : List Int} {v : Value} (h : OwSt w wr l v) (hb : Below wr.heap.size wr w') : OwSt w w' l v := ⟨own_bel h.own hb, below_go h.b hb⟩
theorem OwSt.app {w wr w' : World} {l l' : List Int} {v v' : Value} (h : OwSt w wr l v) (hg : wr.grownBy w' v.ownBlock) (hown : w'.ownsRow w.heap.size 3 1 v' l'.length (l'.map iv)) : OwSt w w' l' v' := ⟨hown, below_grown h.b hg h.own (Nat.le_refl _)⟩
set_option maxHeartbeats 2000000 in
set_option maxRecDepth 20000 in
theorem insert_calls (A : Option Addr) (l : List Int) (c : Nat) (n : Int) (w : World) (hR : Rd w iv A l) (hl : l.length ≤ 100000) :
    Calls Try.prog 64 #[.slice A l.length c, .int .i64 n] w (GivesR w (insL l n)) := by
  have hH := has_calls A l c n w hR (by unfold maxLen; omega)
  have hv : insL l n = if l.contains n = true then l else insR l n := rfl
  generalize insL l n = v at *
  have HV := Lib.hid hv
  have HR := Lib.hid hR
  clear hv hR
  have hu35 := Try.underlying35
  obtain ⟨i0, hi0, hz0, hz1, hz2⟩ := info_parts info3
  have HI0 := Lib.hid hi0
  have HZ0 := Lib.hid hz0
  have HZ1 := Lib.hid hz1
  have HZ2 := Lib.hid hz2
  clear hi0 hz0 hz1 hz2
  rcases tf (l.contains n) with hc | hc
  · rw [hc] at hH
    have hv := HV.out
    rw [if_neg (by rw [hc]; simp)] at hv
    have HH := Lib.hid hH
    have HV2 := Lib.hid hv
    clear hH hv HV hc
    go_enter Try.func64, Try.ntmps64
    go_upto_region 6 with (go_at_call 26; ((with_reducible refine (HH.out).mono ?_); rintro e w' ⟨rfl, rfl⟩))
    go_loopw [5, 6, 7] (fun s5 s6 s7 wr => ∃ (k : Nat) (A2 : Option Addr) (c2 : Nat), k ≤ l.length ∧ s7 = .int .i64 k ∧ s6 = .bool (insTo l n k).2 ∧ s5 = .slice A2 (insTo l n k).1.length c2 ∧ Hid (OwSt w wr (insTo l n k).1 (.slice A2 (insTo l n k).1.length c2))) (fun _ _ s7 _ => (l.length - (intOf s7).toNat))
    case atStart => exact ⟨0, none, 0, by omega, rfl, rfl, rfl, Lib.hid ⟨World.ownsRow_nil _ _ _ _, Below.refl _ _⟩⟩
    case round =>
      obtain ⟨k, A2, c2, hk, rfl, rfl, rfl, S⟩ := hrel
      have hlen := insTo_len l n k hk
      have hlo : (insTo l n k).1.length ≤ k + 1 := by rw [hlen]; split <;> omega
      clear hlen
      by_cases hlt : k < l.length
      · have hst := insTo_succ (n := n) hlt
        have i1 : (0 : Int) ≤ (k : Int) := by omega
        have i2 : (k : Int) < (l.length : Int) := by omega
        obtain ⟨ad, rfl, hre⟩ := rd_all HR.out hlt
        have ca := hre wr S.out.b k hlt
        have HRE := Lib.hid hre
        clear hre
        generalize hx : l[k] = x at *
        have hre2 : ∀ W, Below w.heap.size w W → W.cell? (ad.add k) = some (.int .i64 x) := fun W hb => by rw [HRE.out W hb k hlt, hx]
        have HRX := Lib.hid hre2
        clear hre2 hx HRE
        generalize hp : insTo l n k = p at *
        obtain ⟨o, dn⟩ := p
        dsimp only at hst hlo
        have HST := Lib.hid hst
        have HLO := Lib.hid hlo
        clear hst hlo hp
        rcases tf dn with hd | hd
        · subst hd
          by_cases hnx : n < x
          · have hs2 := HST.out
            unfold stepI at hs2
            rw [if_pos ⟨rfl, hnx⟩] at hs2
            have HS2 := Lib.hid hs2
            clear hs2 HST
            go_upto_region 11 with (first | (at_builtin; refine wpList_app1 rfl _ _ 35 rfl w.heap.size 3 i0 (.int .i64 0) 8 Try.underlying35 HI0.out HZ0.out HZ1.out HZ2.out rfl iv A2 c2 o n _ rfl S.out.own rfl rfl (by have := HLO.out; unfold maxLen; omega) (by have := HLO.out; omega) S.out.b.size ?_; intro A2 c2 w3 hown hg; generalize ho2 : o ++ [n] = o2 at hown ⊢; have HO2 := Lib.hid ho2; clear ho2; have T := Lib.hid (S.out.app hg hown); clear S ca hown hg; have S := T; clear T; have ca := HRX.out _ S.out.b))
            have hs3 := HS2.out
            rw [HO2.out] at hs3
            have HS3 := Lib.hid hs3
            clear hs3 HS2
            go_wp2_with (first | (at_builtin; refine wpList_app1 rfl _ _ 35 rfl w.heap.size 3 i0 (.int .i64 0) 8 Try.underlying35 HI0.out HZ0.out HZ1.out HZ2.out rfl iv A2 c2 o2 x _ rfl S.out.own rfl rfl (by have := HLO.out; have := HO2.out; subst this; simp; unfold maxLen; omega) (by have := HLO.out; have := HO2.out; subst this; simp; omega) S.out.b.size ?_; intro A2 c2 w3 hown hg; have T := Lib.hid (S.out.app hg hown); clear S ca hown hg; have S := T; clear T))
            exact ⟨⟨k + 1, A2, c2, by omega, by go_num, by rw [HS3.out], by rw [HS3.out]; simp, by rw [HS3.out]; exact S⟩, by simp [intOf]; omega⟩
          · have hs2 := HST.out
            unfold stepI at hs2
            rw [if_neg (fun h => hnx h.2)] at hs2
            have HS2 := Lib.hid hs2
            have hnx' : x ≤ n := by omega
            clear hs2 HST hnx
            go_wp2_with (first | (at_builtin; refine wpList_app1 rfl _ _ 35 rfl w.heap.size 3 i0 (.int .i64 0) 8 Try.underlying35 HI0.out HZ0.out HZ1.out HZ2.out rfl iv A2 c2 o x _ rfl S.out.own rfl rfl (by have := HLO.out; unfold maxLen; omega) (by have := HLO.out; omega) S.out.b.size ?_; intro A2 c2 w3 hown hg; have T := Lib.hid (S.out.app hg hown); clear S ca hown hg; have S := T; clear T))
            exact ⟨⟨k + 1, A2, c2, by omega, by go_num, by rw [HS2.out], by rw [HS2.out]; simp, by rw [HS2.out]; exact S⟩, by simp [intOf]; omega⟩
        · subst hd
          have hs2 := HST.out
          unfold stepI at hs2
          rw [if_neg (fun h => by cases h.1)] at hs2
          have HS2 := Lib.hid hs2
          clear hs2 HST
          go_wp2_with (first | (at_builtin; refine wpList_app1 rfl _ _ 35 rfl w.heap.size 3 i0 (.int .i64 0) 8 Try.underlying35 HI0.out HZ0.out HZ1.out HZ2.out rfl iv A2 c2 o x _ rfl S.out.own rfl rfl (by have := HLO.out; unfold maxLen; omega) (by have := HLO.out; omega) S.out.b.size ?_; intro A2 c2 w3 hown hg; have T := Lib.hid (S.out.app hg hown); clear S ca hown hg; have S := T; clear T))
          exact ⟨⟨k + 1, A2, c2, by omega, by go_num, by rw [HS2.out], by rw [HS2.out]; simp, by rw [HS2.out]; exact S⟩, by simp [intOf]; omega⟩
      · have hkl : k = l.length := by omega
        have hv := HV2.out
        unfold insR at hv
        rw [← hkl] at hv
        clear HV2
        generalize hp : insTo l n k = p at *
        obtain ⟨o, dn⟩ := p
        dsimp only at hv hlo
        have HV := Lib.hid hv
        have HLO := Lib.hid hlo
        clear hv hlo hp hkl
        rcases tf dn with hd | hd
        · subst hd
          have hv := HV.out
          rw [if_neg (by simp)] at hv
          subst hv
          clear HV
          go_wp2_with (first | (at_builtin; refine wpList_app1 rfl _ _ 35 rfl w.heap.size 3 i0 (.int .i64 0) 8 Try.underlying35 HI0.out HZ0.out HZ1.out HZ2.out rfl iv A2 c2 o n _ rfl S.out.own rfl rfl (by have := HLO.out; unfold maxLen; omega) (by have := HLO.out; omega) S.out.b.size ?_; intro A2 c2 w3 hown hg; have T := Lib.hid (S.out.app hg hown); clear S hown hg; have S := T; clear T))
          go_ret
          exact ⟨A2, c2, by simp, Rd.own S.out.own, S.out.b⟩
        · subst hd
          have hv := HV.out
          rw [if_pos rfl] at hv
          subst hv
          clear HV
          go_wp2
          go_ret
          exact ⟨A2, c2, rfl, Rd.own S.out.own, S.out.b⟩
  · rw [hc] at hH
    have hv := HV.out
    rw [if_pos hc] at hv
    subst hv
    have HH := Lib.hid hH
    clear hH HV hc
    go_enter Try.func64, Try.ntmps64
    go_wp2_with (go_at_call 26; ((with_reducible refine (HH.out).mono ?_); rintro e w' ⟨rfl, rfl⟩))
    go_ret
    exact ⟨A, c, rfl, HR.out, Below.refl _ _⟩
end Go.Proofs.Ytnjplichhkmmhaa.CalW
