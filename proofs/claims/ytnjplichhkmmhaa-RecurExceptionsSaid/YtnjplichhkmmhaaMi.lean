import Derived.Test.YtnjplichhkmmhaaBase4
import Derived.Test.YtnjplichhkmmhaaMe
import Derived.Test.YtnjplichhkmmhaaMc
import Derived.Test.YtnjplichhkmmhaaMd
import Derived.Test.YtnjplichhkmmhaaMb
/- Plain definitions of recurrences: what the functions of recur and their references compute. No Go. -/
namespace Go.Proofs.Ytnjplichhkmmhaa.Cal
open Go.Proofs.Ytnjplichhkmmhaa.Base
set_option linter.unusedVariables false
structure Rule where
  fr : Int
  ev : Int
  ct : Int
  un : Int
  hu : Bool
  wd : List Int
  ex : List Int
  ad : List Int
def instF (l : List Int) : Int := if 300 < l.length then 2 else firstC (incC (-68719476736) 68719476736 l) l.length
def wdF (r : Rule) : Int := if 0 < r.wd.length ∧ r.fr ≠ 2 then 5 else firstC (incC 0 6 r.wd) r.wd.length
def Rule.fault (r : Rule) : Int × Int :=
  if inR r.fr 0 4 = false then (4, -3)
  else if inR r.ev 1 100 = false then (3, -4)
  else if inR r.ct 0 1500 = false then (3, -5)
  else if r.hu = true ∧ chk r.un ≠ (0, 0) then (3, -6)
  else if r.hu = false ∧ r.un ≠ 0 then (5, -6)
  else if wdF r ≠ 0 then (wdF r, -7)
  else if instF r.ex ≠ 0 then (instF r.ex, -8)
  else if instF r.ad ≠ 0 then (instF r.ad, -9)
  else (0, 0)
theorem wdF_bd (r : Rule) : wdF r = 0 ∨ wdF r = 3 ∨ wdF r = 5 ∨ wdF r = 19 := by
  have key : ∀ n, firstC (incC 0 6 r.wd) n = 0 ∨ firstC (incC 0 6 r.wd) n = 3 ∨ firstC (incC 0 6 r.wd) n = 5 ∨ firstC (incC 0 6 r.wd) n = 19 := fun n => by
    induction n with
    | zero => exact .inl rfl
    | succ n ih =>
      show (if firstC (incC 0 6 r.wd) n ≠ 0 then firstC (incC 0 6 r.wd) n else incC 0 6 r.wd n) = 0 ∨ _
      show (if firstC (incC 0 6 r.wd) n ≠ 0 then firstC (incC 0 6 r.wd) n else incC 0 6 r.wd n) = 0 ∨ (if firstC (incC 0 6 r.wd) n ≠ 0 then firstC (incC 0 6 r.wd) n else incC 0 6 r.wd n) = 3 ∨ (if firstC (incC 0 6 r.wd) n ≠ 0 then firstC (incC 0 6 r.wd) n else incC 0 6 r.wd n) = 5 ∨ (if firstC (incC 0 6 r.wd) n ≠ 0 then firstC (incC 0 6 r.wd) n else incC 0 6 r.wd n) = 19
      split
      · exact ih
      · unfold incC
        split
        · exact .inl rfl
        · split
          · exact .inr (.inl rfl)
          · split
            · exact .inl rfl
            · split
              · exact .inr (.inr (.inr rfl))
              · exact .inl rfl
  unfold wdF
  split
  · exact .inr (.inr (.inl rfl))
  · exact key _
end Go.Proofs.Ytnjplichhkmmhaa.Cal
/- Walks: recur.instants and the reference's instantsCode. -/
namespace Go.Proofs.Ytnjplichhkmmhaa.CalW
open Go.RowKit Go.Proofs.Ytnjplichhkmmhaa.Base Go.Proofs.Ytnjplichhkmmhaa.Cal
set_option linter.unusedVariables false
set_option linter.unusedSimpArgs false
attribute [local go_sem high] eqA28
/-- numbers of 64 bits. -/
def I64 (l : List Int) : Prop := ∀ x ∈ l, -9223372036854775808 ≤ x ∧ x ≤ 9223372036854775807
theorem chk_ne {t : Int} : (chk t ≠ (0, 0)) ↔ (t < -68719476736 ∨ 68719476736 < t) := by
  unfold chk
  constructor
  · intro h
    split at h
    · exact absurd rfl h
    · rename_i h1
      exact inR_f (by simpa using h1)
  · intro h
    rw [if_neg (by rw [inR_no h]; simp)]
    simp
set_option maxHeartbeats 1000000 in
set_option maxRecDepth 20000 in
theorem rinstants_calls (A : Option Addr) (l : List Int) (c : Nat) (w : World) (h : Rd w iv A l) (hl : l.length ≤ maxLen) (hI : I64 l) :
    Calls Try.prog 53 #[.slice A l.length c] w fun e w' => e = .returned (.int .i64 (instF l)) ∧ Below w.heap.size w w' := by
  unfold maxLen at hl
  generalize hv : instF l = v
  unfold instF at hv
  have HV := Lib.hid hv
  have HR := Lib.hid h
  clear hv h
  have hu := Try.underlying28
  by_cases hb : 300 < l.length
  · go_enter Try.func53, Try.ntmps53
    go_wp2
    go_ret
    exact ⟨ret_int (by rw [← HV.out, if_pos hb]), Below.refl _ _⟩
  · have hv := HV.out
    rw [if_neg hb] at hv
    clear HV
    have HV := Lib.hid hv
    clear hv
    go_enter Try.func53, Try.ntmps53
    go_upto_region 4 with fail
    go_loopw [10] (fun i wr => ∃ k : Nat, k ≤ l.length ∧ i = .int .i64 k ∧ Hid (firstC (incC (-68719476736) 68719476736 l) k = 0) ∧ Hid (Below w.heap.size w wr)) (fun i _ => l.length - (intOf i).toNat)
    case atStart => exact ⟨0, Nat.zero_le _, rfl, Lib.hid rfl, Lib.hid (Below.refl _ _)⟩
    case round =>
      obtain ⟨k, hk, rfl, HF, HB⟩ := hrel
      by_cases hlt : k < l.length
      · have i1 : (0 : Int) ≤ (k : Int) := by omega
        have i2 : (k : Int) < (l.length : Int) := by omega
        obtain ⟨ad, rfl, hba, hca⟩ := (HR.out.bel HB.out).at_ hlt
        clear hba
        have hre : ∀ (W : World) (hb : Below w.heap.size w W) (m : Nat) (hm : m < l.length), W.cell? (ad.add m) = some (.int .i64 l[m]) := fun W hb m hm => by
          obtain ⟨ad', e, _, hc⟩ := (HR.out.bel hb).at_ hm
          injection e with e
          subst e
          exact hc
        have HRE := Lib.hid hre
        clear hre
        have ca := HRE.out wr HB.out k hlt
        clear hca
        have hxb := hI l[k] (List.getElem_mem hlt)
        generalize hx : l[k] = x at *
        have hCk := fun W => check_calls x W hxb.1 hxb.2
        clear hxb
        by_cases hin : x < -68719476736 ∨ 68719476736 < x
        · have hc3 : firstC (incC (-68719476736) 68719476736 l) l.length = 3 := by
            have e := incC_out (lo := -68719476736) (hi := 68719476736) hlt (by rw [hx]; exact hin)
            rw [firstC_at HF.out hlt (by rw [e]; simp), e]
          have HC := Lib.hid hc3
          have HCK := Lib.hid hCk
          clear hCk
          have h1 := chk_ne.2 hin
          have p1 := pair_no h1
          have p2 := pair_no' h1
          clear hc3 hx h1 hin
          go_wp2_with (go_at_call 40; refine (HCK.out _).mono ?_; rintro e w1 ⟨rfl, hb⟩)
          go_ret
          exact ⟨ret_int (by rw [← HV.out]; exact HC.out.symm), below_go HB.out hb⟩
        · have h1 : chk x = (0, 0) := Classical.byContradiction fun h => hin (chk_ne.1 h)
          rw [h1] at hCk
          have HCK := Lib.hid hCk
          clear hCk h1
          rcases Nat.eq_zero_or_pos k with h0 | h0
          · have g1 : (k : Int) ≤ 0 := by omega
            have hc0 : firstC (incC (-68719476736) 68719476736 l) (k + 1) = 0 := by
              rw [firstC_step HF.out]
              subst h0
              exact incC_zero hlt (by rw [hx]; omega) (by rw [hx]; omega)
            have HC := Lib.hid hc0
            clear hc0 hx hin h0
            go_wp2_with (go_at_call 40; refine (HCK.out _).mono ?_; rintro e w1 ⟨rfl, hb⟩; have HB1 := Lib.hid (below_go HB.out hb))
            exact ⟨⟨k + 1, by omega, by go_num, HC, HB1⟩, by simp [intOf]; omega⟩
          · have g1 : 0 < (k : Int) := by omega
            have hst : firstC (incC (-68719476736) 68719476736 l) (k + 1) = if x ≤ l[k - 1] then 19 else 0 := by
              rw [firstC_step HF.out, incC_in hlt h0 (by rw [hx]; omega) (by rw [hx]; omega), hx]
            have hlp : k - 1 < l.length := by omega
            generalize hy : l[k - 1] = y at *
            have hre' : ∀ (W : World) (hb : Below w.heap.size w W), W.cell? (ad.add (k - 1)) = some (.int .i64 y) := fun W hb => by rw [HRE.out W hb _ hlp, hy]
            have HRY := Lib.hid hre'
            clear hre' hx hy hin
            by_cases hle : x ≤ y
            · rw [if_pos hle] at hst
              have hc3 : firstC (incC (-68719476736) 68719476736 l) l.length = 19 := by rw [firstC_stop (k := k + 1) (by rw [hst]; simp) _ (by omega), hst]
              have HC := Lib.hid hc3
              clear hc3 hst
              go_wp2_with (go_at_call 40; refine (HCK.out _).mono ?_; rintro e w1 ⟨rfl, hb⟩; have HB1 := Lib.hid (below_go HB.out hb); have cy := HRY.out _ HB1.out)
              go_ret
              exact ⟨ret_int (by rw [← HV.out]; exact HC.out.symm), HB1.out⟩
            · rw [if_neg hle] at hst
              have HC := Lib.hid hst
              clear hst
              have hle' : y < x := by omega
              clear hle
              go_wp2_with (go_at_call 40; refine (HCK.out _).mono ?_; rintro e w1 ⟨rfl, hb⟩; have HB1 := Lib.hid (below_go HB.out hb); have cy := HRY.out _ HB1.out)
              exact ⟨⟨k + 1, by omega, by go_num, HC, HB1⟩, by simp [intOf]; omega⟩
      · go_wp2
        go_ret
        exact ⟨ret_int (by rw [← HV.out]; have : k = l.length := by omega
                           rw [← this]; exact HF.out.symm), HB.out⟩
set_option maxHeartbeats 1000000 in
set_option maxRecDepth 20000 in
theorem icode_calls (A : Option Addr) (l : List Int) (c : Nat) (w : World) (h : Rd w iv A l) (hl : l.length ≤ maxLen) (hI : I64 l) :
    Calls Try.prog 54 #[.slice A l.length c] w fun e w' => e = .returned (.int .i64 (instF l)) ∧ Below w.heap.size w w' := by
  unfold maxLen at hl
  generalize hv : instF l = v
  unfold instF at hv
  have HV := Lib.hid hv
  have HR := Lib.hid h
  clear hv h
  by_cases hb : 300 < l.length
  · go_enter Try.func54, Try.ntmps54
    go_wp2
    go_ret
    exact ⟨ret_int (by rw [← HV.out, if_pos hb]), Below.refl _ _⟩
  · have hv := HV.out
    rw [if_neg hb] at hv
    clear HV
    have HV := Lib.hid hv
    clear hv
    go_enter Try.func54, Try.ntmps54
    go_upto_region 4 with fail
    go_loopw [3] (fun i wr => ∃ k : Nat, k ≤ l.length ∧ i = .int .i64 k ∧ Hid (firstC (incC (-68719476736) 68719476736 l) k = 0) ∧ Hid (Below w.heap.size w wr)) (fun i _ => l.length - (intOf i).toNat)
    case atStart => exact ⟨0, Nat.zero_le _, rfl, Lib.hid rfl, Lib.hid (Below.refl _ _)⟩
    case round =>
      obtain ⟨k, hk, rfl, HF, HB⟩ := hrel
      by_cases hlt : k < l.length
      · have i1 : (0 : Int) ≤ (k : Int) := by omega
        have i2 : (k : Int) < (l.length : Int) := by omega
        obtain ⟨ad, rfl, hba, hca⟩ := (HR.out.bel HB.out).at_ hlt
        clear hba
        have hre : ∀ (W : World) (hb : Below w.heap.size w W) (m : Nat) (hm : m < l.length), W.cell? (ad.add m) = some (.int .i64 l[m]) := fun W hb m hm => by
          obtain ⟨ad', e, _, hc⟩ := (HR.out.bel hb).at_ hm
          injection e with e
          subst e
          exact hc
        have HRE := Lib.hid hre
        clear hre
        have ca := HRE.out wr HB.out k hlt
        clear hca
        generalize hx : l[k] = x at *
        refine (tf (inR x (-68719476736) 68719476736)).elim (fun hin => ?_) fun hin => ?_
        · have hc3 : firstC (incC (-68719476736) 68719476736 l) l.length = 3 := by
            have e := incC_out (lo := -68719476736) (hi := 68719476736) hlt (by rw [hx]; exact inR_f hin)
            rw [firstC_at HF.out hlt (by rw [e]; simp), e]
          have HC := Lib.hid hc3
          clear hc3 hx
          go_wp2_with (go_at_call 24; refine (rIn_is hin _).mono ?_; rintro e w' ⟨rfl, rfl⟩)
          go_ret
          exact ⟨ret_int (by rw [← HV.out]; exact HC.out.symm), HB.out⟩
        · have hin' := inR_t hin
          rcases Nat.eq_zero_or_pos k with h0 | h0
          · have g1 : (k : Int) ≤ 0 := by omega
            have g2 : decide ((0 : Int) < (k : Int)) = false := by simp; omega
            have g7 : decide (0 < k) = false := by simp; omega
            have hc0 : firstC (incC (-68719476736) 68719476736 l) (k + 1) = 0 := by
              rw [firstC_step HF.out]
              subst h0
              exact incC_zero hlt (by rw [hx]; omega) (by rw [hx]; omega)
            have HC := Lib.hid hc0
            clear hc0 hx h0 hin'
            go_wp2_with (go_at_call 24; refine (rIn_is hin _).mono ?_; rintro e w' ⟨rfl, rfl⟩)
            refine wp_region_bel (by kernel_rfl) (by kernel_rfl) ?_
            repeat (go_big_quiet_step (fail))
            refine wpQuiet_nil ?_
            rintro _ ⟨s0, rfl⟩
            have HB1 := Lib.hid (below_go HB.out s0.below)
            generalize s0.w = w1 at *
            clear s0
            go_wp2
            exact ⟨⟨k + 1, by omega, by go_num, HC, HB1⟩, by simp [intOf]; omega⟩
          · have g1 : 0 < (k : Int) := by omega
            have g2 : decide ((0 : Int) < (k : Int)) = true := by simp; omega
            have g7 : decide (0 < k) = true := by simp; omega
            have hst : firstC (incC (-68719476736) 68719476736 l) (k + 1) = if x ≤ l[k - 1] then 19 else 0 := by
              rw [firstC_step HF.out, incC_in hlt h0 (by rw [hx]; omega) (by rw [hx]; omega), hx]
            have hlp : k - 1 < l.length := by omega
            obtain ⟨j, hj⟩ : ∃ j : Nat, j = k - 1 := ⟨_, rfl⟩
            generalize hy : l[k - 1] = y at *
            have r1 : ∀ s : Bel wr, s.w.cell? (ad.add k) = some (.int .i64 x) := fun s => by rw [HRE.out s.w (below_go HB.out s.below) _ hlt, hx]
            have r2 : ∀ s : Bel wr, s.w.cell? (ad.add j) = some (.int .i64 y) := fun s => by subst hj; rw [HRE.out s.w (below_go HB.out s.below) _ hlp, hy]
            have g3 : IntKind.i64.wrap ((k : Int) - 1) = (j : Int) := by rw [i64_id (by omega)]; omega
            have g4 : (0 : Int) ≤ (j : Int) := by omega
            have g5 : (j : Int) < (l.length : Int) := by omega
            clear hx hy hin' hj hlp
            by_cases hle : x ≤ y
            · rw [if_pos hle] at hst
              have hc3 : firstC (incC (-68719476736) 68719476736 l) l.length = 19 := by rw [firstC_stop (k := k + 1) (by rw [hst]; simp) _ (by omega), hst]
              have HC := Lib.hid hc3
              have g6 : decide (x ≤ y) = true := by simpa using hle
              clear hc3 hst hle
              go_wp2_with (go_at_call 24; refine (rIn_is hin _).mono ?_; rintro e w' ⟨rfl, rfl⟩)
              refine wp_region_bel (by kernel_rfl) (by kernel_rfl) ?_
              repeat (go_big_quiet_step (fail))
              refine wpQuiet_nil ?_
              rintro _ ⟨s0, rfl⟩
              have HB1 := Lib.hid (below_go HB.out s0.below)
              generalize s0.w = w1 at *
              clear s0 r1 r2
              go_wp2
              go_ret
              exact ⟨ret_int (by rw [← HV.out]; exact HC.out.symm), HB1.out⟩
            · rw [if_neg hle] at hst
              have HC := Lib.hid hst
              have g6 : decide (x ≤ y) = false := by simpa using hle
              clear hst hle
              go_wp2_with (go_at_call 24; refine (rIn_is hin _).mono ?_; rintro e w' ⟨rfl, rfl⟩)
              refine wp_region_bel (by kernel_rfl) (by kernel_rfl) ?_
              repeat (go_big_quiet_step (fail))
              refine wpQuiet_nil ?_
              rintro _ ⟨s0, rfl⟩
              have HB1 := Lib.hid (below_go HB.out s0.below)
              generalize s0.w = w1 at *
              clear s0 r1 r2
              go_wp2
              exact ⟨⟨k + 1, by omega, by go_num, HC, HB1⟩, by simp [intOf]; omega⟩
      · go_wp2
        go_ret
        exact ⟨ret_int (by rw [← HV.out]; have : k = l.length := by omega
                           rw [← this]; exact HF.out.symm), HB.out⟩
end Go.Proofs.Ytnjplichhkmmhaa.CalW
/- Walk: recur.weekdays. -/
namespace Go.Proofs.Ytnjplichhkmmhaa.CalW
open Go.RowKit Go.Proofs.Ytnjplichhkmmhaa.Base Go.Proofs.Ytnjplichhkmmhaa.Cal
set_option linter.unusedVariables false
set_option linter.unusedSimpArgs false
/-- where the lists of a recurrence lie. -/
structure RS where
  a5 : Option Addr
  c5 : Nat
  a6 : Option Addr
  c6 : Nat
  a7 : Option Addr
  c7 : Nat
abbrev rcells (r : Rule) (s : RS) : Array Value := #[.int .i64 r.fr, .int .i64 r.ev, .int .i64 r.ct, .int .i64 r.un, .bool r.hu, .slice s.a5 r.wd.length s.c5, .slice s.a6 r.ex.length s.c6, .slice s.a7 r.ad.length s.c7]
abbrev rval (r : Rule) (s : RS) : Value := .agg (rcells r s)
structure RuleAt (w : World) (r : Rule) (s : RS) : Prop where
  h5 : Rd w iv s.a5 r.wd
  h6 : Rd w iv s.a6 r.ex
  h7 : Rd w iv s.a7 r.ad
  l5 : r.wd.length ≤ 17592186044032
  l6 : r.ex.length ≤ 17592186044032
  l7 : r.ad.length ≤ 17592186044032
  i5 : I64 r.wd
  i6 : I64 r.ex
  i7 : I64 r.ad
  u0 : -9223372036854775808 ≤ r.un
  u1 : r.un ≤ 9223372036854775807
theorem RuleAt.bel {w w' : World} {r : Rule} {s : RS} (h : RuleAt w r s) (hb : Below w.heap.size w w') : RuleAt w' r s :=
  ⟨h.h5.bel hb, h.h6.bel hb, h.h7.bel hb, h.l5, h.l6, h.l7, h.i5, h.i6, h.i7, h.u0, h.u1⟩
theorem RuleAt.al {w : World} {r : Rule} {s : RS} (h : RuleAt w r s) (o : Obj) : RuleAt (w.alloc o) r s := h.bel (below_al (Below.refl _ _) _)
/-- an element of a list that reads, in every later world. -/
theorem rd_all {w : World} {A : Option Addr} {l : List Int} (h : Rd w iv A l) {k : Nat} (hk : k < l.length) : ∃ ad, A = some ad ∧ ∀ (W : World) (hb : Below w.heap.size w W) (m : Nat) (hm : m < l.length), W.cell? (ad.add m) = some (.int .i64 l[m]) := by
  obtain ⟨ad, e, _, _⟩ := h.at_ hk
  refine ⟨ad, e, fun W hb m hm => ?_⟩
  obtain ⟨ad', e', _, hc⟩ := (h.bel hb).at_ hm
  rw [e] at e'
  injection e' with e'
  subst e'
  exact hc
set_option maxHeartbeats 1000000 in
set_option maxRecDepth 20000 in
theorem rweekdays_calls (r : Rule) (s : RS) (w : World) (h : RuleAt w r s) :
    Calls Try.prog 52 #[rval r s] w fun e w' => e = .returned (.int .i64 (wdF r)) ∧ Below w.heap.size w w' := by
  have hl := h.l5
  have hI := h.i5
  have hR := h.h5
  generalize hv : wdF r = v
  unfold wdF at hv
  clear h
  obtain ⟨fr, ev, ct, un, hu, wd, ex, ad⟩ := r
  obtain ⟨a5, c5, a6, c6, a7, c7⟩ := s
  dsimp only at hl hI hR hv
  have HV := Lib.hid hv
  have HR := Lib.hid (hR.al (.cells #[.int .i64 fr, .int .i64 ev, .int .i64 ct, .int .i64 un, .bool hu, .slice a5 wd.length c5, .slice a6 ex.length c6, .slice a7 ad.length c7] 49))
  have HI := Lib.hid hI
  have hu49 := Try.underlying49
  have BB := Lib.hid (below_al (Below.refl w.heap.size w) (.cells #[.int .i64 fr, .int .i64 ev, .int .i64 ct, .int .i64 un, .bool hu, .slice a5 wd.length c5, .slice a6 ex.length c6, .slice a7 ad.length c7] 49))
  have BR := Lib.hid (Bk.new w 49 #[.int .i64 fr, .int .i64 ev, .int .i64 ct, .int .i64 un, .bool hu, .slice a5 wd.length c5, .slice a6 ex.length c6, .slice a7 ad.length c7])
  clear hv hR hI
  by_cases hb : 0 < wd.length ∧ fr ≠ 2
  · obtain ⟨h0, h2⟩ := hb
    have g1 : (fr != 2) = true := by simpa using h2
    have g2 : (0 : Int) < (wd.length : Int) := by omega
    have hv := HV.out
    rw [if_pos ⟨h0, h2⟩] at hv
    have HV2 := Lib.hid hv
    clear hv HV h2
    go_enter Try.func52, Try.ntmps52
    go_wp2
    go_ret
    exact ⟨ret_int HV2.out, BB.out⟩
  · have hv := HV.out
    rw [if_neg hb] at hv
    clear HV
    have HV := Lib.hid hv
    clear hv
    have hcase : wd.length = 0 ∨ (0 < wd.length ∧ fr = 2) := by
      rcases Nat.eq_zero_or_pos wd.length with h | h
      · exact .inl h
      · exact .inr ⟨h, Classical.byContradiction fun h' => hb ⟨h, h'⟩⟩
    clear hb
    rcases hcase with hz | ⟨h0, h2⟩
    · have hz' : wd = [] := List.length_eq_zero_iff.1 hz
      subst hz'
      clear hz
      go_enter Try.func52, Try.ntmps52
      go_upto_region 4 with fail
      go_loopw [17] (fun i wr => i = .int .i64 0 ∧ wr = w.alloc (.cells #[.int .i64 fr, .int .i64 ev, .int .i64 ct, .int .i64 un, .bool hu, .slice a5 0 c5, .slice a6 ex.length c6, .slice a7 ad.length c7] 49)) (fun i _ => 0)
      case atStart => exact ⟨rfl, rfl⟩
      case round =>
        obtain ⟨rfl, rfl⟩ := hrel
        go_wp2
        go_ret
        exact ⟨ret_int HV.out, BB.out⟩
    · subst h2
      have g2 : (0 : Int) < (wd.length : Int) := by omega
      go_enter Try.func52, Try.ntmps52
      go_upto_region 1 with fail
      have cr := BR.out.cell
      generalize w.alloc (.cells #[.int .i64 2, .int .i64 ev, .int .i64 ct, .int .i64 un, .bool hu, .slice a5 wd.length c5, .slice a6 ex.length c6, .slice a7 ad.length c7] 49) = w0 at *
      go_upto_region 4 with fail
      go_loopw [17] (fun i wr => ∃ k : Nat, k ≤ wd.length ∧ i = .int .i64 k ∧ Hid (firstC (incC 0 6 wd) k = 0) ∧ wr = w0) (fun i _ => wd.length - (intOf i).toNat)
      case atStart => exact ⟨0, Nat.zero_le _, rfl, Lib.hid rfl, rfl⟩
      case round =>
        obtain ⟨k, hk, rfl, HF, rfl⟩ := hrel
        by_cases hlt : k < wd.length
        · have i1 : (0 : Int) ≤ (k : Int) := by omega
          have i2 : (k : Int) < (wd.length : Int) := by omega
          obtain ⟨ad', rfl, hre⟩ := rd_all HR.out hlt
          have ca := hre _ (Below.refl _ _) k hlt
          have HRE := Lib.hid hre
          clear hre
          have hxb := HI.out wd[k] (List.getElem_mem hlt)
          generalize hx : wd[k] = x at *
          by_cases hin : x < 0 ∨ 6 < x
          · have hc3 : firstC (incC 0 6 wd) wd.length = 3 := by
              have e := incC_out (lo := 0) (hi := 6) hlt (by rw [hx]; exact hin)
              rw [firstC_at HF.out hlt (by rw [e]; simp), e]
            have HC := Lib.hid hc3
            clear hc3 hx
            rcases hin with hin | hin
            all_goals
              go_wp2
              go_ret
              exact ⟨ret_int (by rw [← HV.out]; exact HC.out.symm), BB.out⟩
          · have x0 : 0 ≤ x := by omega
            have x6 : x ≤ 6 := by omega
            clear hin hxb
            rcases Nat.eq_zero_or_pos k with h0 | h0
            · have g1 : (k : Int) ≤ 0 := by omega
              have hc0 : firstC (incC 0 6 wd) (k + 1) = 0 := by
                rw [firstC_step HF.out]
                subst h0
                exact incC_zero hlt (by rw [hx]; omega) (by rw [hx]; omega)
              have HC := Lib.hid hc0
              clear hc0 hx h0
              go_wp2
              exact ⟨⟨k + 1, by omega, by go_num, HC, trivial⟩, by simp [intOf]; omega⟩
            · have g1 : 0 < (k : Int) := by omega
              have hst : firstC (incC 0 6 wd) (k + 1) = if x ≤ wd[k - 1] then 19 else 0 := by
                rw [firstC_step HF.out, incC_in hlt h0 (by rw [hx]; omega) (by rw [hx]; omega), hx]
              have hlp : k - 1 < wd.length := by omega
              have cy := HRE.out _ (Below.refl _ _) (k - 1) hlp
              generalize hy : wd[k - 1] = y at *
              clear hx hy
              by_cases hle : x ≤ y
              · rw [if_pos hle] at hst
                have hc3 : firstC (incC 0 6 wd) wd.length = 19 := by rw [firstC_stop (k := k + 1) (by rw [hst]; simp) _ (by omega), hst]
                have HC := Lib.hid hc3
                clear hc3 hst
                go_wp2
                go_ret
                exact ⟨ret_int (by rw [← HV.out]; exact HC.out.symm), BB.out⟩
              · rw [if_neg hle] at hst
                have HC := Lib.hid hst
                have hle' : y < x := by omega
                clear hst hle
                go_wp2
                exact ⟨⟨k + 1, by omega, by go_num, HC, trivial⟩, by simp [intOf]; omega⟩
        · go_wp2
          go_ret
          exact ⟨ret_int (by rw [← HV.out]; have : k = wd.length := by omega
                             rw [← this]; exact HF.out.symm), BB.out⟩
end Go.Proofs.Ytnjplichhkmmhaa.CalW
