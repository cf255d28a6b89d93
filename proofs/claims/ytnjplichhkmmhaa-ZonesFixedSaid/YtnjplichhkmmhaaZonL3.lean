/- Walk: the law ZonesFixed. -/
import Derived.Test.YtnjplichhkmmhaaZonL2
namespace Go.Proofs.Ytnjplichhkmmhaa.Cal
set_option linter.unusedVariables false
def fixZ (nm : ByteArray) (st : Int) : Zone := ⟨nm, st, 0, ⟨0, 0, 0, 0⟩, ⟨0, 0, 0, 0⟩⟩
theorem fix_off (nm : ByteArray) (st t : Int) : ((offR (fixZ nm st) t).2.1 = 0 ∧ (offR (fixZ nm st) t).1 = st) ∨ ((offR (fixZ nm st) t).2.1 ≠ 0 ∧ (offR (fixZ nm st) t).1 = 0) := by
  have h1 := (fixZ nm st).fault_or'
  unfold offR
  split
  · exact .inr ⟨h1.resolve_left ‹_›, rfl⟩
  split
  · refine .inr ⟨?_, rfl⟩
    rename_i h2
    unfold chk at h2 ⊢
    split at h2
    · exact absurd rfl h2
    · rw [if_neg ‹_›]; simp
  split
  · exact .inr ⟨by simp, rfl⟩
  · refine .inl ⟨rfl, ?_⟩
    show cur (fixZ nm st) t (civ t (fixZ nm st).st).y = st
    unfold cur
    rw [if_pos (show (fixZ nm st).b.zero = true from rfl)]
    rfl
theorem fix_in (nm : ByteArray) (st : Int) (d : Date) : ((instR (fixZ nm st) d).2.1 = 0 ∧ (instR (fixZ nm st) d).1 = [secZ d st] ∧ d.ok = true ∧ -900 ≤ st ∧ st ≤ 900) ∨ ((instR (fixZ nm st) d).2.1 ≠ 0 ∧ (instR (fixZ nm st) d).1 = []) := by
  have h1 := (fixZ nm st).fault_or'
  have h2 := locf_or d
  unfold instR
  split
  · exact .inr ⟨h1.resolve_left ‹_›, rfl⟩
  split
  · exact .inr ⟨h2.resolve_left ‹_›, rfl⟩
  · rename_i k1 k2
    have k1 : (fixZ nm st).fault = (0, 0) := by simpa using k1
    have k2 : locf d = (0, 0) := by simpa using k2
    refine .inl ⟨rfl, ?_, (locf_ok k2).1, (Zone.st_of k1).1, (Zone.st_of k1).2⟩
    dsimp only
    rw [allL_eq d k1]
    have hc : ∀ t y, cur (fixZ nm st) t y = st := fun t y => by unfold cur; rw [if_pos (show (fixZ nm st).b.zero = true from rfl)]; rfl
    unfold instL
    rw [hc, hc]
    rw [if_neg (fun hh => by have := hh.1; unfold fixZ at this; dsimp only at this; omega), if_pos (show st = (fixZ nm st).st from rfl)]
    rfl
end Go.Proofs.Ytnjplichhkmmhaa.Cal
namespace Go.Proofs.Ytnjplichhkmmhaa.CalW
open Go.RowKit Go.Proofs.Ytnjplichhkmmhaa.Base Go.Proofs.Ytnjplichhkmmhaa.Cal
set_option linter.unusedVariables false
set_option linter.unusedSimpArgs false
theorem rd_one (w : World) (t : TypeId) (a : Int) : Rd (w.alloc (.cells #[.int .i64 a] t)) iv (some ⟨w.heap.size, 0, none⟩) [a] := fun _ => by
  refine ⟨_, rfl, by simp, fun j x hx => ?_⟩
  have B := Bk.new w t #[.int .i64 a]
  match j, hx with
  | 0, hx => simp at hx; subst hx; exact B.cell 0

attribute [local go_sem high] eqA28
set_option maxHeartbeats 4000000 in
set_option maxRecDepth 20000 in
theorem lawfixed_walk (nm : ByteArray) (st t : Int) (d : Date) (w : World) (hs : nm.size ≤ maxLen) (k1 : -9223372036854775808 ≤ st) (k2 : st ≤ 9223372036854775807) (ht : -9223372036854775808 ≤ t) (ht' : t ≤ 9223372036854775807) (hd : True) :
    Calls Try.prog 5 #[.string nm, .int .i64 st, .int .i64 t, dval d] w fun e w' => e = .returned (.bool true) ∧ Below w.heap.size w w' := by
  have hO := fun W => offset_calls (fixZ nm st) t W hs ht ht'
  have hI := fun W => instants_calls (fixZ nm st) d W hs
  have ho := fix_off nm st t
  have hi := fix_in nm st d
  obtain ⟨y, mo, dd, h, mi, s, dz⟩ := d
  have hu25 := Try.underlying25
  have hu23 := Try.underlying23
  have hu28 := Try.underlying28
  have hu34 := Try.underlying34
  generalize offR (fixZ nm st) t = v at *
  generalize instR (fixZ nm st) ⟨y, mo, dd, h, mi, s, dz⟩ = r at *
  obtain ⟨n, f1, f2⟩ := v
  obtain ⟨l, g1, g2⟩ := r
  unfold fixZ zval at hO hI
  dsimp only at ho hi hO hI
  have HO := Lib.hid hO
  have HI := Lib.hid hI
  have HF := Lib.hid ho
  have HG := Lib.hid hi
  clear hO hI ho hi
  go_enter Try.func5, Try.ntmps5
  go_upto_region 1 with fail
  have BD := Lib.hid (Bk.new w 34 #[.int .i64 y, .int .i64 mo, .int .i64 dd, .int .i64 h, .int .i64 mi, .int .i64 s, .int .i64 dz])
  have BB := Lib.hid (below_al (Below.refl w.heap.size w) (.cells #[.int .i64 y, .int .i64 mo, .int .i64 dd, .int .i64 h, .int .i64 mi, .int .i64 s, .int .i64 dz] 34))
  generalize w.alloc (.cells #[.int .i64 y, .int .i64 mo, .int .i64 dd, .int .i64 h, .int .i64 mi, .int .i64 s, .int .i64 dz] 34) = w0 at *
  go_upto_region 4 with (go_at_call 14; refine (zexample_calls _).mono ?_; rintro e w1 ⟨rfl, hb⟩)
  have JD := Lib.hid ((BD.out.bel hb).al (.cells #[.string nm, .int .i64 st, .int .i64 0, .int .i64 0, .int .i64 0, .int .i64 0, .int .i64 0, .int .i64 0, .int .i64 0, .int .i64 0, .int .i64 0] 25))
  have JZ := Lib.hid (Bk.new w1 25 #[.string nm, .int .i64 st, .int .i64 0, .int .i64 0, .int .i64 0, .int .i64 0, .int .i64 0, .int .i64 0, .int .i64 0, .int .i64 0, .int .i64 0])
  have JB := Lib.hid (below_al (below_go BB.out hb) (.cells #[.string nm, .int .i64 st, .int .i64 0, .int .i64 0, .int .i64 0, .int .i64 0, .int .i64 0, .int .i64 0, .int .i64 0, .int .i64 0, .int .i64 0] 25))
  have n1 : ¬ w1.heap.size = w.heap.size := Nat.ne_of_gt (BD.out.bel hb).lt
  have n2 : ¬ w.heap.size = w1.heap.size := fun h => n1 h.symm
  clear BD BB hb
  generalize w1.heap.size = gz at *
  generalize w1.alloc (.cells #[.string nm, .int .i64 st, .int .i64 0, .int .i64 0, .int .i64 0, .int .i64 0, .int .i64 0, .int .i64 0, .int .i64 0, .int .i64 0, .int .i64 0] 25) = w2 at *
  clear w0 w1
  have cz := JZ.out.cell
  go_upto_region 5 with (go_at_call 17; refine (HO.out _).mono ?_; rintro e w1 ⟨rfl, hb⟩)
  have KD := Lib.hid ((JD.out.bel hb).al (.cells #[.int .i64 f1, .int .i64 f2] 28))
  have KZ := Lib.hid ((JZ.out.bel hb).al (.cells #[.int .i64 f1, .int .i64 f2] 28))
  have K1 := Lib.hid (Bk.new w1 28 #[.int .i64 f1, .int .i64 f2])
  have KB := Lib.hid (below_al (below_go JB.out hb) (.cells #[.int .i64 f1, .int .i64 f2] 28))
  have n3 : ¬ w1.heap.size = w.heap.size := Nat.ne_of_gt (JD.out.bel hb).lt
  have n4 : ¬ w.heap.size = w1.heap.size := fun h => n3 h.symm
  clear cz JD JZ JB hb
  generalize w1.heap.size = gf at *
  generalize w1.alloc (.cells #[.int .i64 f1, .int .i64 f2] 28) = w3 at *
  clear w2 w1
  have cz := KZ.out.cell
  have cd := KD.out.cell
  go_upto_region 6 with (go_at_call 19; refine (HI.out _).mono ?_; rintro e w1 ⟨A0, k0, rfl, hR, hF, hb⟩)
  have JD := Lib.hid ((KD.out.bel hb).al (.cells #[.int .i64 g1, .int .i64 g2] 28))
  have J1 := Lib.hid ((K1.out.bel hb).al (.cells #[.int .i64 g1, .int .i64 g2] 28))
  have J2 := Lib.hid (Bk.new w1 28 #[.int .i64 g1, .int .i64 g2])
  have JB := Lib.hid (below_al (below_go KB.out hb) (.cells #[.int .i64 g1, .int .i64 g2] 28))
  have JR := Lib.hid (hR.al (.cells #[.int .i64 g1, .int .i64 g2] 28))
  have n5 : ¬ w1.heap.size = w.heap.size := Nat.ne_of_gt (KD.out.bel hb).lt
  have n6 : ¬ w.heap.size = w1.heap.size := fun h => n5 h.symm
  have hne : ∀ ad, A0 = some ad → ad.block ≠ w.heap.size := fun ad he => by
    have := hF ad he
    have := KD.out.lt
    omega
  have HNE := Lib.hid hne
  clear hne
  clear cz cd KD KZ K1 KB hb hR hF
  generalize w1.heap.size = gg at *
  generalize w1.alloc (.cells #[.int .i64 g1, .int .i64 g2] 28) = w4 at *
  clear w3 w1
  have cd := JD.out.cell
  have md := JD.out.frozen
  have c1 := J1.out.cell
  have c2 := J2.out.cell
  refine HF.out.elim (fun hf => ?_) fun hf => ?_
  · obtain ⟨rfl, hn⟩ := hf
    have pn : (n == st) = true := by rw [hn]; exact beq_self_eq_true _
    clear hn
    refine HG.out.elim (fun hg => ?_) fun hg => ?_
    · obtain ⟨rfl, rfl, ok, s1, s2⟩ := hg
      have bd := Date.ok_bd ok
      have hm := mlen_bd y mo
      dsimp only at bd
      have hF : FitsR ⟨y, mo, dd, h, mi, s, st⟩ := ⟨by dsimp only; omega, by dsimp only; omega, by dsimp only; omega, by dsimp only; omega, by dsimp only; omega, by dsimp only; omega, by dsimp only; omega, by dsimp only; omega, by dsimp only; omega, by dsimp only; omega, by dsimp only; omega, by dsimp only; omega, by dsimp only; omega, by dsimp only; omega⟩
      have hS := fun W => secs_calls y mo dd h mi s st W hF
      have hL : secZ ⟨y, mo, dd, h, mi, s, dz⟩ st = secs ⟨y, mo, dd, h, mi, s, st⟩ := rfl
      rw [← hL] at hS
      clear hL hF bd hm ok HF HG
      generalize secZ ⟨y, mo, dd, h, mi, s, dz⟩ st = L at *
      have HS := Lib.hid hS
      clear hS
      go_wp2_with (first | (go_at_call 23; refine (HS.out _).mono ?_; rintro e w5 ⟨rfl, hb5⟩) | (go_at_call 21; refine (ints_same (a := [L]) (((JR.out.far HNE.out (.int .i64 st)).bel hb5).al _) (rd_one _ _ L) (by simp [maxLen])).mono ?_; rintro e w6 ⟨rfl, hb6⟩))
      go_ret
      exact ⟨rfl, below_go (below_al (below_go (below_set JB.out (Nat.le_refl _) _) hb5) _) hb6⟩
    · obtain ⟨hg0, rfl⟩ := hg
      have p2 : (g1 != 0) = true := by simpa using hg0
      clear hg0 HF HG
      go_wp2
      go_ret
      exact ⟨rfl, by with_reducible repeat (first | exact JB.out | refine below_drew1 ?_ | refine below_set ?_ (by simp) _)⟩
  · obtain ⟨hf0, rfl⟩ := hf
    have p1 : (f1 != 0) = true := by simpa using hf0
    refine HG.out.elim (fun hg => ?_) fun hg => ?_
    · obtain ⟨rfl, rfl, ok, s1, s2⟩ := hg
      have bd := Date.ok_bd ok
      have hm := mlen_bd y mo
      dsimp only at bd
      have hF : FitsR ⟨y, mo, dd, h, mi, s, st⟩ := ⟨by dsimp only; omega, by dsimp only; omega, by dsimp only; omega, by dsimp only; omega, by dsimp only; omega, by dsimp only; omega, by dsimp only; omega, by dsimp only; omega, by dsimp only; omega, by dsimp only; omega, by dsimp only; omega, by dsimp only; omega, by dsimp only; omega, by dsimp only; omega⟩
      have hS := fun W => secs_calls y mo dd h mi s st W hF
      have hL : secZ ⟨y, mo, dd, h, mi, s, dz⟩ st = secs ⟨y, mo, dd, h, mi, s, st⟩ := rfl
      rw [← hL] at hS
      clear hL hF bd hm ok HF HG hf0
      generalize secZ ⟨y, mo, dd, h, mi, s, dz⟩ st = L at *
      have HS := Lib.hid hS
      clear hS
      go_wp2_with (first | (go_at_call 23; refine (HS.out _).mono ?_; rintro e w5 ⟨rfl, hb5⟩) | (go_at_call 21; refine (ints_same (a := [L]) (((JR.out.far HNE.out (.int .i64 st)).bel hb5).al _) (rd_one _ _ L) (by simp [maxLen])).mono ?_; rintro e w6 ⟨rfl, hb6⟩))
      go_ret
      exact ⟨rfl, below_go (below_al (below_go (below_set JB.out (Nat.le_refl _) _) hb5) _) hb6⟩
    · obtain ⟨hg0, rfl⟩ := hg
      have p2 : (g1 != 0) = true := by simpa using hg0
      clear hf0 hg0 HF HG
      go_wp2
      go_ret
      exact ⟨rfl, by with_reducible repeat (first | exact JB.out | refine below_drew1 ?_ | refine below_set ?_ (by simp) _)⟩
end Go.Proofs.Ytnjplichhkmmhaa.CalW
