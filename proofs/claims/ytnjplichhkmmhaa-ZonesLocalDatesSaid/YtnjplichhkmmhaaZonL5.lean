/- Walk: the law ZonesLocalDates. -/
import Derived.Test.YtnjplichhkmmhaaZonL2
import Derived.Test.YtnjplichhkmmhaaCal6
import Derived.Deep.RegionWith
namespace Go.Proofs.Ytnjplichhkmmhaa.Cal
set_option linter.unusedVariables false
theorem offR_or {z : Zone} (t : Int) : (offR z t).2 = (0, 0) ∨ ((offR z t).2.1 ≠ 0 ∧ (offR z t).1 = 0) := by
  have h1 := z.fault_or'
  unfold offR
  split
  · exact .inr ⟨h1.resolve_left ‹_›, rfl⟩
  split
  · refine .inr ⟨?_, rfl⟩
    rename_i h2
    unfold chk at h2 ⊢
    split at h2
    · exact absurd rfl h2
    · rw [if_neg ‹_›]; simp
  split
  · exact .inr ⟨by simp, rfl⟩
  · exact .inl rfl
theorem civilR_or (t z : Int) : (civilR t z).2 = (0, 0) ∨ (civilR t z).2.1 ≠ 0 := by
  unfold civilR
  split
  · exact .inr (by simp)
  split
  · exact .inr (by simp)
  split
  · exact .inr (by simp)
  · exact .inl rfl
theorem two_inc {l : List Int} {k : Nat} (h : k < l.length) (hl : l.length ≤ 2) (hk : 0 < k) (hi : ∀ a b, l = [a, b] → a < b) : ∃ b, (∃ h0 : 0 < l.length, k = 1 ∧ l[0] = b) ∧ b < l[k] := by
  match l, h, hl, hi with
  | [], h, _, _ => simp at h
  | [a], h, _, _ => simp at h; omega
  | [a, b], h, _, hi =>
    have : k = 1 := by simp at h; omega
    subst this
    exact ⟨a, ⟨by simp, rfl, rfl⟩, hi a b rfl⟩
  | a :: b :: c :: l, _, hl, _ => simp at hl
/-- what the walk needs of the instants of the local date. -/
structure LFact (z : Zone) (t : Int) (d : Date) (r : List Int × (Int × Int)) : Prop where
  ok : r.2 = (0, 0)
  loc : Local z t (d.wz 0) r.1
theorem lfact {z : Zone} {t n : Int} {d : Date} (h : offR z t = (n, (0, 0))) (hc : civilR t n = (d, (0, 0))) (hy : inR d.y 3 3998 = true) : LFact z t d (instR z (d.wz 0)) := by
  obtain ⟨h1, h2⟩ := local_dates h hc hy
  have hf := (offR_of h).1
  have e : instR z (d.wz 0) = (allL z (d.wz 0), (0, 0)) := by
    unfold instR
    rw [if_neg (by rw [hf]; simp), if_neg (by rw [h1]; simp)]
  rw [e, allL_eq _ hf]
  exact ⟨rfl, h2⟩
end Go.Proofs.Ytnjplichhkmmhaa.Cal
namespace Go.Proofs.Ytnjplichhkmmhaa.CalW
open Go.RowKit Go.Proofs.Ytnjplichhkmmhaa.Base Go.Proofs.Ytnjplichhkmmhaa.Cal
set_option linter.unusedVariables false
set_option linter.unusedSimpArgs false
theorem eqDs (d : Nat) (w : World) (a0 a1 a2 a3 a4 a5 a6 : Int) :
    (Op.equalIn (d + 2) 34 (.agg #[.int .i64 a0, .int .i64 a1, .int .i64 a2, .int .i64 a3, .int .i64 a4, .int .i64 a5, .int .i64 a6]) (.agg #[.int .i64 a0, .int .i64 a1, .int .i64 a2, .int .i64 a3, .int .i64 a4, .int .i64 a5, .int .i64 a6])).run Try.prog w = .ok true w := by
  have key : (Op.equalIn (d + 2) 34 (.agg #[.int .i64 a0, .int .i64 a1, .int .i64 a2, .int .i64 a3, .int .i64 a4, .int .i64 a5, .int .i64 a6]) (.agg #[.int .i64 a0, .int .i64 a1, .int .i64 a2, .int .i64 a3, .int .i64 a4, .int .i64 a5, .int .i64 a6])).run Try.prog w = .ok ((a0 == a0) && ((a1 == a1) && ((a2 == a2) && ((a3 == a3) && ((a4 == a4) && ((a5 == a5) && (a6 == a6))))))) w := by
    refine sq_of Try.underlying34 (by kernel_rfl) ?_
    refine sq_cons (by rfl) (by go_simp; rfl) (by go_simp; rfl) (by go_simp) ?_
    refine sq_cons (by rfl) (by go_simp; rfl) (by go_simp; rfl) (by go_simp) ?_
    refine sq_cons (by rfl) (by go_simp; rfl) (by go_simp; rfl) (by go_simp) ?_
    refine sq_cons (by rfl) (by go_simp; rfl) (by go_simp; rfl) (by go_simp) ?_
    refine sq_cons (by rfl) (by go_simp; rfl) (by go_simp; rfl) (by go_simp) ?_
    refine sq_cons (by rfl) (by go_simp; rfl) (by go_simp; rfl) (by go_simp) ?_
    exact sq_last (by rfl) (by go_simp; rfl) (by go_simp; rfl) (by go_simp)
  rw [key]
  simp
attribute [local go_sem high] eqDs
set_option maxHeartbeats 4000000 in
set_option maxRecDepth 20000 in
theorem lawlocal_walk (z : Zone) (t : Int) (w : World) (hs : z.name.size ≤ maxLen) (ht : -9223372036854775808 ≤ t) (ht' : t ≤ 9223372036854775807) :
    Calls Try.prog 7 #[zval z, .int .i64 t] w fun e w' => e = .returned (.bool true) ∧ Below w.heap.size w w' := by
  have hO := fun W s h1 h2 => offset_calls z s W hs h1 h2
  have hI := fun W d => instants_calls z d W hs
  have hOo := fun s => offR_or (z := z) s
  have hL := fun n d => lfact (z := z) (t := t) (n := n) (d := d)
  obtain ⟨nm, st, su, ⟨b0, b1, b2, b3⟩, ⟨e0, e1, e2, e3⟩⟩ := z
  have hu25 := Try.underlying25
  have hu28 := Try.underlying28
  have hu34 := Try.underlying34
  generalize hof : offR ⟨nm, st, su, ⟨b0, b1, b2, b3⟩, ⟨e0, e1, e2, e3⟩⟩ t = v at *
  have hOt := fun W => hO W t ht ht'
  rw [hof] at hOt
  obtain ⟨n, f1, f2⟩ := v
  have hOn := hOo t
  rw [hof] at hOn
  have HOF := Lib.hid hof
  have HO := Lib.hid hO
  have HOT := Lib.hid hOt
  have HON := Lib.hid hOn
  have HI := Lib.hid hI
  have HL := Lib.hid hL
  clear hO hI hOo hL hof hOt hOn
  go_enter Try.func7, Try.ntmps7
  go_upto_region 1 with fail
  have BZ := Lib.hid (Bk.new w 25 #[.string nm, .int .i64 st, .int .i64 su, .int .i64 b0, .int .i64 b1, .int .i64 b2, .int .i64 b3, .int .i64 e0, .int .i64 e1, .int .i64 e2, .int .i64 e3])
  have BB := Lib.hid (below_al (Below.refl w.heap.size w) (.cells #[.string nm, .int .i64 st, .int .i64 su, .int .i64 b0, .int .i64 b1, .int .i64 b2, .int .i64 b3, .int .i64 e0, .int .i64 e1, .int .i64 e2, .int .i64 e3] 25))
  generalize w.alloc (.cells #[.string nm, .int .i64 st, .int .i64 su, .int .i64 b0, .int .i64 b1, .int .i64 b2, .int .i64 b3, .int .i64 e0, .int .i64 e1, .int .i64 e2, .int .i64 e3] 25) = w0 at *
  go_upto_region 3 with (go_at_call 14; refine (zexample_calls _).mono ?_; rintro e w1 ⟨rfl, hb⟩)
  have JZ := Lib.hid (BZ.out.bel hb)
  have JB := Lib.hid (below_go BB.out hb)
  clear BZ BB hb w0
  have cz := JZ.out.cell
  go_upto_region 4 with (go_at_call 17; refine (HOT.out _).mono ?_; rintro e w2 ⟨rfl, hb⟩)
  have KZ := Lib.hid ((JZ.out.bel hb).al (.cells #[.int .i64 f1, .int .i64 f2] 28))
  have K1 := Lib.hid (Bk.new w2 28 #[.int .i64 f1, .int .i64 f2])
  have KB := Lib.hid (below_al (below_go JB.out hb) (.cells #[.int .i64 f1, .int .i64 f2] 28))
  clear cz JZ JB hb
  generalize w2.heap.size = g1 at *
  generalize w2.alloc (.cells #[.int .i64 f1, .int .i64 f2] 28) = w3 at *
  clear w1 w2
  have cz := KZ.out.cell
  have c1 := K1.out.cell
  refine HON.out.elim (fun hf => ?_) fun hf => ?_
  case refine_2 =>
    obtain ⟨hf0, hn0⟩ := hf
    have p1 : (f1 != 0) = true := by simpa using hf0
    have hn1 : n = 0 := hn0
    subst hn1
    clear hf0 hn0
    go_wp2
    go_ret
    exact ⟨rfl, by with_reducible repeat (first | exact KB.out | refine below_drew1 ?_ | refine below_drewN ?_ _)⟩
  case refine_1 =>
  have hf12 : f1 = 0 ∧ f2 = 0 := by simpa using hf
  obtain ⟨rfl, rfl⟩ := hf12
  clear hf HON
  have hCi := fun W => civil_calls t n W ht ht'
  have hCo := civilR_or t n
  have hL2 := fun d => HL.out n d rfl
  generalize hcr : civilR t n = r at *
  obtain ⟨⟨y, mo, dd, h, mi, s, dz⟩, q1, q2⟩ := r
  have HCR := Lib.hid hcr
  have HCI := Lib.hid hCi
  have HCO := Lib.hid hCo
  have HL2 := Lib.hid hL2
  clear hcr hCi hCo hL2 HL HOT
  go_upto_region 7 with (go_at_call 25; refine (HCI.out _).mono ?_; rintro e w2 ⟨rfl, hb⟩)
  have JZ := Lib.hid (((KZ.out.bel hb).al (.cells #[.int .i64 y, .int .i64 mo, .int .i64 dd, .int .i64 h, .int .i64 mi, .int .i64 s, .int .i64 dz] 34)).al (.cells #[.int .i64 q1, .int .i64 q2] 28))
  have J1 := Lib.hid (((K1.out.bel hb).al (.cells #[.int .i64 y, .int .i64 mo, .int .i64 dd, .int .i64 h, .int .i64 mi, .int .i64 s, .int .i64 dz] 34)).al (.cells #[.int .i64 q1, .int .i64 q2] 28))
  have JD := Lib.hid ((Bk.new w2 34 #[.int .i64 y, .int .i64 mo, .int .i64 dd, .int .i64 h, .int .i64 mi, .int .i64 s, .int .i64 dz]).al (.cells #[.int .i64 q1, .int .i64 q2] 28))
  have JF := Lib.hid (Bk.new' (n := w2.heap.size + 1) (w2.alloc (.cells #[.int .i64 y, .int .i64 mo, .int .i64 dd, .int .i64 h, .int .i64 mi, .int .i64 s, .int .i64 dz] 34)) 28 #[.int .i64 q1, .int .i64 q2] (by simp))
  have JB := Lib.hid (below_al (below_al (below_go KB.out hb) (.cells #[.int .i64 y, .int .i64 mo, .int .i64 dd, .int .i64 h, .int .i64 mi, .int .i64 s, .int .i64 dz] 34)) (.cells #[.int .i64 q1, .int .i64 q2] 28))
  have n1 : w.heap.size < w2.heap.size := (KZ.out.bel hb).lt
  have n2 : g1 < w2.heap.size := (K1.out.bel hb).lt
  clear cz c1 KZ K1 KB hb
  generalize w2.heap.size = gd at *
  generalize (w2.alloc (.cells #[.int .i64 y, .int .i64 mo, .int .i64 dd, .int .i64 h, .int .i64 mi, .int .i64 s, .int .i64 dz] 34)).alloc (.cells #[.int .i64 q1, .int .i64 q2] 28) = w4 at *
  clear w3 w2
  have cz := JZ.out.cell
  have c1 := J1.out.cell
  have cd := JD.out.cell
  have md := JD.out.frozen
  have cf := JF.out.cell
  refine HCO.out.elim (fun hq => ?_) fun hq => ?_
  case refine_2 =>
    have p1 : (q1 != 0) = true := by simpa using hq
    clear hq
    go_wp2
    go_ret
    exact ⟨rfl, by with_reducible repeat (first | exact JB.out | refine below_drew1 ?_ | refine below_drewN ?_ _)⟩
  case refine_1 =>
  have hq12 : q1 = 0 ∧ q2 = 0 := by simpa using hq
  obtain ⟨rfl, rfl⟩ := hq12
  clear hq HCO
  refine (tf (inR y 3 3998)).elim (fun hy => ?_) fun hy => ?_
  · go_wp2_with (go_at_call 24; refine (rIn_is hy _).mono ?_; rintro e w' ⟨rfl, rfl⟩)
    go_ret
    exact ⟨rfl, by with_reducible repeat (first | exact JB.out | refine below_drew1 ?_ | refine below_drewN ?_ _)⟩
  have hlf := HL2.out _ rfl hy
  have hin := fun W => HI.out W ⟨y, mo, dd, h, mi, s, 0⟩
  have hdw : Date.wz ⟨y, mo, dd, h, mi, s, dz⟩ 0 = ⟨y, mo, dd, h, mi, s, 0⟩ := rfl
  have hdo : ∀ o, Date.wz ⟨y, mo, dd, h, mi, s, 0⟩ o = ⟨y, mo, dd, h, mi, s, o⟩ := fun o => rfl
  have HDO := Lib.hid hdo
  rw [hdw] at hlf
  clear hdw hdo HI HL2 HCR HCI
  generalize instR ⟨nm, st, su, ⟨b0, b1, b2, b3⟩, ⟨e0, e1, e2, e3⟩⟩ ⟨y, mo, dd, h, mi, s, 0⟩ = r at *
  obtain ⟨l, g2⟩ := r
  obtain ⟨hg2, hloc⟩ := hlf
  dsimp only at hg2
  subst hg2
  have hhas := hloc.has
  have hlen := hloc.len
  have heach := hloc.each
  have hinc := hloc.inc
  dsimp only at hhas hlen heach hinc
  have HLOC := Lib.hid hloc
  have HIN := Lib.hid hin
  have HHAS := Lib.hid hhas
  have HLEN := Lib.hid hlen
  have HEACH := Lib.hid heach
  have HINC := Lib.hid hinc
  clear hin hloc hhas hlen heach hinc
  go_upto_region 10 with (go_at_call 24; refine (rIn_is hy _).mono ?_; rintro e w' ⟨rfl, rfl⟩)
  have KZ := Lib.hid (JZ.out.far (p := ⟨gd, 6, none⟩) (by simp; omega) (.int .i64 0))
  have KD := Lib.hid (JD.out.put' (cs' := #[.int .i64 y, .int .i64 mo, .int .i64 dd, .int .i64 h, .int .i64 mi, .int .i64 s, .int .i64 0]) 6 (.int .i64 0) rfl)
  have KB := Lib.hid (below_set JB.out (p := ⟨gd, 6, none⟩) (by simp; omega) (.int .i64 0))
  clear JZ J1 JD JF JB cz c1 cd md cf
  generalize w4.setCell ⟨gd, 6, none⟩ (.int .i64 0) = w5 at *
  clear w4
  have cz := KZ.out.cell
  have cd := KD.out.cell
  go_upto_region 11 with (go_at_call 19; refine (HIN.out _).mono ?_; rintro e w2 ⟨A0, k0, rfl, hR, hF, hb⟩)
  have JZ := Lib.hid ((KZ.out.bel hb).al (.cells #[.int .i64 0, .int .i64 0] 28))
  have JD := Lib.hid ((KD.out.bel hb).al (.cells #[.int .i64 0, .int .i64 0] 28))
  have JF := Lib.hid (Bk.new w2 28 #[.int .i64 0, .int .i64 0])
  have JR := Lib.hid (hR.al (.cells #[.int .i64 0, .int .i64 0] 28))
  have JB := Lib.hid (below_al (below_go KB.out hb) (.cells #[.int .i64 0, .int .i64 0] 28))
  clear cz cd KZ KD KB hR hF hb
  generalize w2.heap.size = gf at *
  generalize w2.alloc (.cells #[.int .i64 0, .int .i64 0] 28) = w3 at *
  clear w5 w2
  have cf := JF.out.cell
  have hl2 : (l.length : Int) ≤ 2 := by have := HLEN.out; omega
  have hHas := fun W (R : Rd W iv A0 l) => has_calls A0 l k0 t W R (by have := HLEN.out; unfold maxLen; omega)
  rw [HHAS.out] at hHas
  have HHC := Lib.hid hHas
  clear hHas
  go_upto_region 14 with (go_at_call 26; refine (HHC.out _ JR.out).mono ?_; rintro e w' ⟨rfl, rfl⟩)
  clear cf
  go_loopw [11] (fun i wr => ∃ k : Nat, k ≤ l.length ∧ i = .int .i64 k ∧ Hid (Below w3.heap.size w3 wr)) (fun i _ => l.length - (intOf i).toNat)
  case atStart => exact ⟨0, by omega, rfl, Lib.hid (Below.refl _ _)⟩
  case round =>
    obtain ⟨k, hk, rfl, hb⟩ := hrel
    by_cases hlt : k < l.length
    · have i1 : (0 : Int) ≤ (k : Int) := by omega
      have i2 : (k : Int) < (l.length : Int) := by omega
      obtain ⟨o, ho, hc, s1, s2, o1, o2⟩ := HEACH.out _ (List.getElem_mem hlt)
      have hOk := fun W => HO.out W l[k] (by omega) (by omega)
      rw [ho] at hOk
      have hCk : ∀ W, Calls Try.prog 25 #[.int .i64 l[k], .int .i64 o] W fun e w' => e = .returned (.tuple #[.agg #[.int .i64 y, .int .i64 mo, .int .i64 dd, .int .i64 h, .int .i64 mi, .int .i64 s, .int .i64 o], .agg #[.int .i64 0, .int .i64 0]]) ∧ Below W.heap.size W w' := fun W => by
        have := civil_calls l[k] o W (by omega) (by omega)
        rw [hc] at this
        exact this
      have HOK := Lib.hid hOk
      have HCK := Lib.hid hCk
      clear ho hc hOk hCk
      have RW := Lib.hid (JR.out.bel hb.out)
      have ZW := Lib.hid (JZ.out.bel hb.out)
      have DW := Lib.hid (JD.out.bel hb.out)
      have BW := Lib.hid (below_go JB.out hb.out)
      obtain ⟨ad, rfl, hba, hca⟩ := RW.out.at_ hlt
      clear hba
      have HCA := Lib.hid hca
      clear hca
      go_upto_region 16 with fail
      go_cut [12, 13] (fun s12 s13 wx => ∃ g, s12 = .int .i64 o ∧ s13 = .pointer (some ⟨g, 0, none⟩) ∧ Hid (Bk wx g 28 #[.int .i64 0, .int .i64 0] ∧ Below wr.heap.size wr wx ∧ wr.heap.size ≤ g))
      case first =>
        have cz := ZW.out.cell
        have ca := HCA.out
        have cz2 := (ZW.out.al (.cells #[.int .i64 0, .int .i64 0] 28)).cell
        have ca2 : (wr.alloc (.cells #[.int .i64 0, .int .i64 0] 28)).cell? (ad.add k) = some (.int .i64 l[k]) := by
          obtain ⟨ad', e, _, hc⟩ := (RW.out.al (.cells #[.int .i64 0, .int .i64 0] 28)).at_ hlt
          injection e with e
          subst e
          exact hc
        have n3 : w.heap.size < wr.heap.size := ZW.out.lt
        go_region_with (go_at_call 17; refine (HOK.out _).mono ?_; rintro e w6 ⟨rfl, hb6⟩; first | (have B6 := Lib.hid ((Bk.new wr 28 #[.int .i64 0, .int .i64 0]).dr.bel hb6); have c6 := B6.out.cell; have f6 := B6.out.frozen) | (have B6 := Lib.hid hb6))
        all_goals
          go_wp2_with fail
          go_meet
          first
            | exact ⟨_, rfl, rfl, Lib.hid ⟨Bk.new _ _ _, below_al (below_go (below_drew1 (Below.refl _ _)) hb6) _, (below_go (below_drew1 (Below.refl _ _)) hb6).size⟩⟩
            | exact ⟨_, rfl, rfl, Lib.hid ⟨(B6.out.put 0 _).put' 1 _ rfl, below_set (below_set (below_go (below_drew1 (below_al (Below.refl _ _) _)) hb6) (Nat.le_refl _) _) (Nat.le_refl _) _, Nat.le_refl _⟩⟩
      case rest =>
        obtain ⟨g, rfl, rfl, hcut⟩ := hcut
        obtain ⟨kb, kw, kg⟩ := hcut.out
        have FX := Lib.hid kb
        have ZX := Lib.hid (ZW.out.bel kw)
        have DX := Lib.hid (DW.out.bel kw)
        have RX := Lib.hid (RW.out.bel kw)
        have BX := Lib.hid (below_go hb.out kw)
        clear hcut kb kw kg RW ZW DW BW HCA
        have ca : wc.cell? (ad.add k) = some (.int .i64 l[k]) := by
          obtain ⟨ad', e, _, hc⟩ := RX.out.at_ hlt
          injection e with e
          subst e
          exact hc
        go_upto_region 18 with (go_at_call 25; refine (HCK.out _).mono ?_; rintro e w6 ⟨rfl, hb6⟩)
        have FY := Lib.hid (((FX.out.bel hb6).al (.cells #[.int .i64 y, .int .i64 mo, .int .i64 dd, .int .i64 h, .int .i64 mi, .int .i64 s, .int .i64 o] 34)).al (.cells #[.int .i64 0, .int .i64 0] 28))
        have DY := Lib.hid (((DX.out.bel hb6).al (.cells #[.int .i64 y, .int .i64 mo, .int .i64 dd, .int .i64 h, .int .i64 mi, .int .i64 s, .int .i64 o] 34)).al (.cells #[.int .i64 0, .int .i64 0] 28))
        have RY := Lib.hid (((RX.out.bel hb6).al (.cells #[.int .i64 y, .int .i64 mo, .int .i64 dd, .int .i64 h, .int .i64 mi, .int .i64 s, .int .i64 o] 34)).al (.cells #[.int .i64 0, .int .i64 0] 28))
        have BY := Lib.hid (below_al (below_al (below_go BX.out hb6) (.cells #[.int .i64 y, .int .i64 mo, .int .i64 dd, .int .i64 h, .int .i64 mi, .int .i64 s, .int .i64 o] 34)) (.cells #[.int .i64 0, .int .i64 0] 28))
        have CY := Lib.hid ((Bk.new w6 34 #[.int .i64 y, .int .i64 mo, .int .i64 dd, .int .i64 h, .int .i64 mi, .int .i64 s, .int .i64 o]).al (.cells #[.int .i64 0, .int .i64 0] 28))
        have CF := Lib.hid (Bk.new' (n := w6.heap.size + 1) (w6.alloc (.cells #[.int .i64 y, .int .i64 mo, .int .i64 dd, .int .i64 h, .int .i64 mi, .int .i64 s, .int .i64 o] 34)) 28 #[.int .i64 0, .int .i64 0] (by simp))
        have n4 : g < w6.heap.size := (FX.out.bel hb6).lt
        have n5 : gd < w6.heap.size := (DX.out.bel hb6).lt
        have n6 : w3.heap.size ≤ w6.heap.size := (below_go BX.out hb6).size
        have n7 : ad.block < w6.heap.size := by
          obtain ⟨ad', e, hc, _⟩ := (RX.out.bel hb6).at_ hlt
          injection e with e
          subst e
          exact hc
        clear ca FX ZX DX RX BX hb6
        generalize w6.heap.size = gc at *
        generalize (w6.alloc (.cells #[.int .i64 y, .int .i64 mo, .int .i64 dd, .int .i64 h, .int .i64 mi, .int .i64 s, .int .i64 o] 34)).alloc (.cells #[.int .i64 0, .int .i64 0] 28) = w7 at *
        clear w6 wc
        have cc := CY.out.cell
        have mc := CY.out.frozen
        go_upto_region 19 with fail
        have FZ := Lib.hid (FY.out.far (p := ⟨gc, 6, none⟩) (by simp; omega) (.int .i64 0))
        have DZ0 := Lib.hid (DY.out.far (p := ⟨gc, 6, none⟩) (by simp; omega) (.int .i64 0))
        have RZ := Lib.hid (RY.out.far (p := ⟨gc, 6, none⟩) (fun a h => by injection h with h; subst h; simp; omega) (.int .i64 0))
        have BZ := Lib.hid (below_set BY.out (p := ⟨gc, 6, none⟩) (by simp; omega) (.int .i64 0))
        have CZ := Lib.hid (CY.out.put' (cs' := #[.int .i64 y, .int .i64 mo, .int .i64 dd, .int .i64 h, .int .i64 mi, .int .i64 s, .int .i64 0]) 6 (.int .i64 0) rfl)
        have CE := Lib.hid (CF.out.far (p := ⟨gc, 6, none⟩) (by simp) (.int .i64 0))
        clear cc mc FY DY RY BY CY CF
        generalize w7.setCell ⟨gc, 6, none⟩ (.int .i64 0) = w8 at *
        clear w7
        have hre : ∀ (s : Bel w8) (m : Nat) (hm : m < l.length), s.w.cell? (ad.add m) = some (.int .i64 l[m]) := fun s m hm => by
          obtain ⟨ad', e, _, hc⟩ := (RZ.out.bel s.below).at_ hm
          injection e with e
          subst e
          exact hc
        refine wp_region_bel (by kernel_rfl) (by kernel_rfl) ?_
        have sf := FZ.out.s
        have sd := DZ0.out.s
        have sc := CZ.out.s
        have se := CE.out.s
        rcases Nat.eq_zero_or_pos k with h0 | h0
        · have g1 : (k : Int) ≤ 0 := by omega
          have g2 : decide ((0 : Int) < (k : Int)) = false := by simp; omega
          clear hre
          repeat (go_big_quiet_step (fail))
          refine wpQuiet_nil ?_
          rintro _ ⟨s0, rfl⟩
          have hb0 := Lib.hid (below_go BZ.out s0.below)
          generalize s0.w = w9 at *
          clear s0 sf sd sc se
          go_wp2
          exact ⟨⟨k + 1, by omega, by go_num, hb0⟩, by simp [intOf]; omega⟩
        · obtain ⟨b, h1, h2⟩ := two_inc hlt HLEN.out h0 HINC.out
          have g1 : 0 < (k : Int) := by omega
          have g2 : decide ((0 : Int) < (k : Int)) = true := by simp; omega
          have g3 : IntKind.i64.wrap ((k : Int) - 1) = 0 := by obtain ⟨h3, h4, h5⟩ := h1; rw [i64_id (by omega)]; omega
          have r1 : ∀ s : Bel w8, s.w.cell? (ad.add k) = some (.int .i64 l[k]) := fun s => hre s k hlt
          have r2 : ∀ s : Bel w8, s.w.cell? (ad.add 0) = some (.int .i64 b) := fun s => by obtain ⟨h3, h4, h5⟩ := h1; rw [hre s 0 h3, h5]
          have r3 : ∀ s : Bel w8, s.w.cell? ad = some (.int .i64 b) := fun s => by have := r2 s; rwa [show ad.add 0 = ad by simp [Addr.add]] at this
          have g4 : decide (l[k] ≤ b) = false := by simp; exact h2
          clear hre
          repeat (go_big_quiet_step (fail))
          refine wpQuiet_nil ?_
          rintro _ ⟨s0, rfl⟩
          have hb0 := Lib.hid (below_go BZ.out s0.below)
          generalize s0.w = w9 at *
          clear s0 sf sd sc se r1 r2 r3
          go_wp2
          exact ⟨⟨k + 1, by omega, by go_num, hb0⟩, by simp [intOf]; omega⟩
    · go_wp2
      go_ret
      exact ⟨rfl, below_go JB.out hb.out⟩
end Go.Proofs.Ytnjplichhkmmhaa.CalW
