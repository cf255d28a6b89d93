import Derived.Test.YtnjplichhkmmhaaMm
/- Walk: the reference's BetweenOf. -/
namespace Go.Proofs.Ytnjplichhkmmhaa.CalW
open Go.RowKit Go.Proofs.Ytnjplichhkmmhaa.Base Go.Proofs.Ytnjplichhkmmhaa.Cal
set_option linter.unusedVariables false
set_option linter.unusedSimpArgs false
/-- what is read in a later world. -/
theorem List.length_take_le' {α : Type} (k : Nat) (l : List α) : (l.take k).length ≤ l.length := by simp; omega
theorem rdx {w : World} {ad : Addr} {l : List Int} (hre : ∀ (W : World) (hb : Below w.heap.size w W) (m : Nat) (hm : m < l.length), W.cell? (ad.add m) = some (.int .i64 l[m])) {k : Nat} {x : Int} (hk : k < l.length) (hx : l[k] = x) : ∀ W, Below w.heap.size w W → W.cell? (ad.add k) = some (.int .i64 x) := fun W hb => by rw [hre W hb k hk, hx]
set_option maxHeartbeats 4000000 in
set_option maxRecDepth 20000 in
theorem betweenof_calls (z : Zone) (d : Date) (r : Rule) (sr : RS) (a b : Int) (w : World) (hk : z.fault = (0, 0)) (hq : locf d = (0, 0)) (hy : d.y ≤ 3980) (hrf : r.fault = (0, 0)) (hR : RuleAt w r sr) :
    Calls Try.prog 32 #[zval z, dval d, rval r sr, .int .i64 a, .int .i64 b] w (GivesR w (betL z d r a b)) := by
  have hG := fun W (A : RuleAt W r sr) => regularof_calls z d r sr W hk hq hy hrf A
  have hll := regL_len z d r
  have hal := Rule.ad_len hrf
  have hBL : betL z d r a b = r.ad.foldl (betAdd a b) ((regL z d r).filter (betKeep r a b)) := rfl
  generalize betL z d r a b = BL at *
  generalize hL : regL z d r = L at *
  have hKp : ∀ x, betKeep r a b x = (inR x a b && !r.ex.contains x) := fun x => rfl
  generalize betKeep r a b = kp at *
  have hl6 := hR.l6
  clear hk hq hy hrf hL
  obtain ⟨nm, st, su, ⟨b0, b1, b2, b3⟩, ⟨e0, e1, e2, e3⟩⟩ := z
  obtain ⟨y, mo, dd, h, mi, s, dz⟩ := d
  obtain ⟨fr, ev, ct, un, hu, wd, ex, ad⟩ := r
  obtain ⟨a5, c5, a6, c6, a7, c7⟩ := sr
  have hu25 := Try.underlying25
  have hu34 := Try.underlying34
  have hu49 := Try.underlying49
  have hu28 := Try.underlying28
  dsimp only at hal hBL hl6 hKp
  have hu35 := Try.underlying35
  obtain ⟨i0, hi0, hz0, hz1, hz2⟩ := info_parts info3
  have HI0 := Lib.hid hi0
  have HZ0 := Lib.hid hz0
  have HZ1 := Lib.hid hz1
  have HZ2 := Lib.hid hz2
  have HG := Lib.hid hG
  have HBL := Lib.hid hBL
  have HKP := Lib.hid hKp
  have HLL := Lib.hid hll
  have hl3 : (L.length : Int) ≤ 1501 := by omega
  have hl4 : (ad.length : Int) ≤ 300 := by omega
  clear hi0 hz0 hz1 hz2 hG hBL hKp hll
  have BZ := Lib.hid (((Bk.new w 25 #[.string nm, .int .i64 st, .int .i64 su, .int .i64 b0, .int .i64 b1, .int .i64 b2, .int .i64 b3, .int .i64 e0, .int .i64 e1, .int .i64 e2, .int .i64 e3]).al (.cells #[.int .i64 y, .int .i64 mo, .int .i64 dd, .int .i64 h, .int .i64 mi, .int .i64 s, .int .i64 dz] 34)).al (.cells #[.int .i64 fr, .int .i64 ev, .int .i64 ct, .int .i64 un, .bool hu, .slice a5 wd.length c5, .slice a6 ex.length c6, .slice a7 ad.length c7] 49))
  have BD := Lib.hid ((Bk.new' (n := w.heap.size + 1) (w.alloc (.cells #[.string nm, .int .i64 st, .int .i64 su, .int .i64 b0, .int .i64 b1, .int .i64 b2, .int .i64 b3, .int .i64 e0, .int .i64 e1, .int .i64 e2, .int .i64 e3] 25)) 34 #[.int .i64 y, .int .i64 mo, .int .i64 dd, .int .i64 h, .int .i64 mi, .int .i64 s, .int .i64 dz] (by simp)).al (.cells #[.int .i64 fr, .int .i64 ev, .int .i64 ct, .int .i64 un, .bool hu, .slice a5 wd.length c5, .slice a6 ex.length c6, .slice a7 ad.length c7] 49))
  have BU := Lib.hid (Bk.new' (n := w.heap.size + 1 + 1) ((w.alloc (.cells #[.string nm, .int .i64 st, .int .i64 su, .int .i64 b0, .int .i64 b1, .int .i64 b2, .int .i64 b3, .int .i64 e0, .int .i64 e1, .int .i64 e2, .int .i64 e3] 25)).alloc (.cells #[.int .i64 y, .int .i64 mo, .int .i64 dd, .int .i64 h, .int .i64 mi, .int .i64 s, .int .i64 dz] 34)) 49 #[.int .i64 fr, .int .i64 ev, .int .i64 ct, .int .i64 un, .bool hu, .slice a5 wd.length c5, .slice a6 ex.length c6, .slice a7 ad.length c7] (by simp))
  have BB := Lib.hid (below_al (below_al (below_al (Below.refl w.heap.size w) (.cells #[.string nm, .int .i64 st, .int .i64 su, .int .i64 b0, .int .i64 b1, .int .i64 b2, .int .i64 b3, .int .i64 e0, .int .i64 e1, .int .i64 e2, .int .i64 e3] 25)) (.cells #[.int .i64 y, .int .i64 mo, .int .i64 dd, .int .i64 h, .int .i64 mi, .int .i64 s, .int .i64 dz] 34)) (.cells #[.int .i64 fr, .int .i64 ev, .int .i64 ct, .int .i64 un, .bool hu, .slice a5 wd.length c5, .slice a6 ex.length c6, .slice a7 ad.length c7] 49))
  have BA := Lib.hid (((hR.al (.cells #[.string nm, .int .i64 st, .int .i64 su, .int .i64 b0, .int .i64 b1, .int .i64 b2, .int .i64 b3, .int .i64 e0, .int .i64 e1, .int .i64 e2, .int .i64 e3] 25)).al (.cells #[.int .i64 y, .int .i64 mo, .int .i64 dd, .int .i64 h, .int .i64 mi, .int .i64 s, .int .i64 dz] 34)).al (.cells #[.int .i64 fr, .int .i64 ev, .int .i64 ct, .int .i64 un, .bool hu, .slice a5 wd.length c5, .slice a6 ex.length c6, .slice a7 ad.length c7] 49))
  clear hR
  go_enter Try.func32, Try.ntmps32
  go_upto_region 1 with fail
  generalize ((w.alloc (.cells #[.string nm, .int .i64 st, .int .i64 su, .int .i64 b0, .int .i64 b1, .int .i64 b2, .int .i64 b3, .int .i64 e0, .int .i64 e1, .int .i64 e2, .int .i64 e3] 25)).alloc (.cells #[.int .i64 y, .int .i64 mo, .int .i64 dd, .int .i64 h, .int .i64 mi, .int .i64 s, .int .i64 dz] 34)).alloc (.cells #[.int .i64 fr, .int .i64 ev, .int .i64 ct, .int .i64 un, .bool hu, .slice a5 wd.length c5, .slice a6 ex.length c6, .slice a7 ad.length c7] 49) = w0 at *
  have cz := BZ.out.cell
  have cd := BD.out.cell
  have cr := BU.out.cell
  go_upto_region 4 with (go_at_call 63; ((with_reducible refine (HG.out _ BA.out).mono ?_); rintro e w1 ⟨A0, c0, rfl, hown, hb⟩))
  have KU := Lib.hid (BU.out.bel hb)
  have KB := Lib.hid (below_go BB.out hb)
  have KA := Lib.hid (BA.out.bel hb)
  have KR := Lib.hid (Rd.own hown)
  clear BZ BD BU BB BA cz cd cr hown hb HG
  clear w0
  go_loopw [12, 13] (fun s12 s13 wr => ∃ (k : Nat) (A2 : Option Addr) (c2 : Nat), k ≤ L.length ∧ s13 = .int .i64 k ∧ s12 = .slice A2 ((L.take k).filter kp).length c2 ∧ Hid (OwSt w1 wr ((L.take k).filter kp) (.slice A2 ((L.take k).filter kp).length c2))) (fun _ s13 _ => (L.length - (intOf s13).toNat))
  case atStart => exact ⟨0, none, 0, by omega, rfl, rfl, Lib.hid ⟨World.ownsRow_nil _ _ _ _, Below.refl _ _⟩⟩
  case round =>
    obtain ⟨k, A2, c2, hk, rfl, rfl, S⟩ := hrel
    by_cases hlt : k < L.length
    · have hft := filter_take (p := kp) hlt
      have hlo : ((L.take k).filter kp).length ≤ 1501 := by
        have h1 := List.length_filter_le kp (L.take k)
        have h2 := List.length_take_le k L
        have := HLL.out
        omega
      have i1 : (0 : Int) ≤ (k : Int) := by omega
      have i2 : (k : Int) < (L.length : Int) := by omega
      obtain ⟨ad0, rfl, hre⟩ := rd_all KR.out hlt
      generalize hx : L[k] = x at *
      have HRX := Lib.hid (rdx hre hlt hx)
      clear hre hx
      have hkx := HKP.out x
      generalize hp : (L.take k).filter kp = o at *
      have HFT := Lib.hid hft
      have HLO := Lib.hid hlo
      clear hft hlo hp
      have cr := (KU.out.bel S.out.b).s
      have sx : ∀ s : Bel wr, s.w.cell? (ad0.add k) = some (.int .i64 x) := fun s => HRX.out _ (below_go S.out.b s.below)
      have HS6 := Lib.hid (fun (s : Bel wr) => has_calls a6 ex c6 x s.w ((KA.out.bel (below_go S.out.b s.below)).h6) (by unfold maxLen; omega))
      have HSB := Lib.hid (fun (s : Bel wr) => S.out.bel s.below)
      go_upto_region 6 with fail
      refine wp_region_bel (by kernel_rfl) (by kernel_rfl) ?_
      rcases tf (inR x a b) with h1 | h1
      · have hkf : kp x = false := by rw [hkx, h1]; rfl
        have hft := HFT.out
        rw [if_neg (by rw [hkf]; simp)] at hft
        have HF2 := Lib.hid hft
        clear hft HFT hkx hkf
        repeat (go_big_quiet_step ((go_at_call 24; exact bel_eq (rIn_is h1 _))))
        refine wpQuiet_nil ?_
        rintro _ ⟨s0, rfl⟩
        have T := Lib.hid (HSB.out s0)
        clear S HSB sx cr
        have S := T
        clear T
        generalize s0.w = w2 at *
        clear s0
        go_wp2
        exact ⟨⟨k + 1, A2, c2, by omega, by go_num, by rw [HF2.out], by rw [HF2.out]; exact S⟩, by simp [intOf]; omega⟩
      · rcases tf (ex.contains x) with h2 | h2
        · have hkf : kp x = true := by rw [hkx, h1, h2]; rfl
          have hft := HFT.out
          rw [if_pos hkf] at hft
          have HF2 := Lib.hid hft
          have hs6 := HS6.out
          rw [h2] at hs6
          have HS7 := Lib.hid hs6
          clear hft HFT hkx hkf hs6 HS6
          repeat (go_big_quiet_step (first | (go_at_call 24; exact bel_eq (rIn_is h1 _)) | (go_at_call 26; exact bel_eq (HS7.out _))))
          refine wpQuiet_nil ?_
          rintro _ ⟨s0, rfl⟩
          have T := Lib.hid (HSB.out s0)
          clear S HSB sx cr
          have S := T
          clear T
          generalize s0.w = w2 at *
          clear s0
          have cx := HRX.out _ S.out.b
          go_wp2_with (at_builtin; refine wpList_app1 rfl _ _ 35 rfl w1.heap.size 3 i0 (.int .i64 0) 8 Try.underlying35 HI0.out HZ0.out HZ1.out HZ2.out rfl iv A2 c2 o x _ rfl S.out.own rfl rfl (by have := HLO.out; unfold maxLen; omega) (by have := HLO.out; omega) S.out.b.size ?_; intro A2 c2 w3 hown hg; have T := Lib.hid (S.out.app hg hown); clear S cx hown hg; have S := T; clear T)
          exact ⟨⟨k + 1, A2, c2, by omega, by go_num, by rw [HF2.out]; simp, by rw [HF2.out]; exact S⟩, by simp [intOf]; omega⟩
        · have hkf : kp x = false := by rw [hkx, h1, h2]; rfl
          have hft := HFT.out
          rw [if_neg (by rw [hkf]; simp)] at hft
          have HF2 := Lib.hid hft
          have hs6 := HS6.out
          rw [h2] at hs6
          have HS7 := Lib.hid hs6
          clear hft HFT hkx hkf hs6 HS6
          repeat (go_big_quiet_step (first | (go_at_call 24; exact bel_eq (rIn_is h1 _)) | (go_at_call 26; exact bel_eq (HS7.out _))))
          refine wpQuiet_nil ?_
          rintro _ ⟨s0, rfl⟩
          have T := Lib.hid (HSB.out s0)
          clear S HSB sx cr
          have S := T
          clear T
          generalize s0.w = w2 at *
          clear s0
          go_wp2
          exact ⟨⟨k + 1, A2, c2, by omega, by go_num, by rw [HF2.out], by rw [HF2.out]; exact S⟩, by simp [intOf]; omega⟩
    · have hkl : k = L.length := by omega
      have hfl : (L.take k).filter kp = L.filter kp := by rw [hkl, List.take_of_length_le (Nat.le_refl _)]
      rw [hfl] at S ⊢
      have hlf : (L.filter kp).length ≤ 1501 := by
        have := List.length_filter_le kp L
        have := HLL.out
        omega
      clear hfl hkl
      generalize hF : L.filter kp = F at *
      have hBL2 := HBL.out
      have HLF := Lib.hid hlf
      clear hlf hF hk
      have SR := Lib.hid (Rd.own S.out.own)
      have SB := Lib.hid S.out.b
      clear S
      have cr := (KU.out.bel SB.out).cell
      go_upto_region 9 with fail
      have hlen0 : ∀ k, ((ad.take k).foldl (betAdd a b) F).length ≤ 1801 := fun k => by
        have h1 := betAdd_len a b [] (ad.take k) F
        have h2 := List.length_take_le k ad
        have h3 := List.length_take_le' k ad
        have := HLF.out
        omega
      have HLEN := Lib.hid hlen0
      clear hlen0 cr
      go_loopw [12, 14] (fun s12 s14 wr => ∃ (k : Nat) (A2 : Option Addr) (c2 : Nat), k ≤ ad.length ∧ s14 = .int .i64 k ∧ s12 = .slice A2 ((ad.take k).foldl (betAdd a b) F).length c2 ∧ Hid (Rd wr iv A2 ((ad.take k).foldl (betAdd a b) F)) ∧ Hid (Below w1.heap.size w1 wr)) (fun _ s14 _ => (ad.length - (intOf s14).toNat))
      case atStart => exact ⟨0, A2, c2, by omega, rfl, rfl, SR, SB⟩
      case round =>
        clear SR SB
        obtain ⟨k2, A3, c3, hk2, rfl, rfl, SR, SB⟩ := hrel
        have cr := (KU.out.bel SB.out).cell
        by_cases hlt2 : k2 < ad.length
        · have hft := foldl_take (f := betAdd a b) (o := F) hlt2
          have hlo := HLEN.out k2
          have j1 : (0 : Int) ≤ (k2 : Int) := by omega
          have j2 : (k2 : Int) < (ad.length : Int) := by omega
          obtain ⟨ad7, rfl, hre⟩ := rd_all KA.out.h7 hlt2
          dsimp only at hre
          generalize hx : ad[k2] = x at *
          have HRX := Lib.hid (rdx hre hlt2 hx)
          clear hre hx
          generalize hp : (ad.take k2).foldl (betAdd a b) F = o at *
          have HFT := Lib.hid hft
          have HLO := Lib.hid hlo
          clear hft hlo hp
          have cx := HRX.out _ SB.out
          rcases tf (inR x a b) with h1 | h1
          · have hft := HFT.out
            unfold betAdd at hft
            rw [if_neg (by rw [h1]; simp)] at hft
            have HF2 := Lib.hid hft
            clear hft HFT
            go_wp2_with (go_at_call 24; ((with_reducible refine (rIn_is h1 _).mono ?_); rintro e w' ⟨rfl, rfl⟩))
            exact ⟨⟨k2 + 1, A3, c3, by omega, by go_num, by unfold betAdd; rw [HF2.out], by unfold betAdd; rw [HF2.out]; exact SR, SB⟩, by simp [intOf]; omega⟩
          · have hft := HFT.out
            unfold betAdd at hft
            rw [if_pos h1] at hft
            have HF2 := Lib.hid hft
            have HIS := Lib.hid (fun W R => insert_calls A3 o c3 x W R (by have := HLO.out; omega))
            clear hft HFT
            go_wp2_with (first | (go_at_call 24; ((with_reducible refine (rIn_is h1 _).mono ?_); rintro e w' ⟨rfl, rfl⟩)) | (go_at_call 64; ((with_reducible refine (HIS.out _ SR.out).mono ?_); rintro e w2 ⟨A4, c4, rfl, hR4, hb4⟩; have SR4 := Lib.hid hR4; have SB4 := Lib.hid (below_go SB.out hb4); clear hR4 hb4)))
            exact ⟨⟨k2 + 1, A4, c4, by omega, by go_num, by unfold betAdd; rw [HF2.out], by unfold betAdd; rw [HF2.out]; exact SR4, SB4⟩, by simp [intOf]; omega⟩
        · have hkl : k2 = ad.length := by omega
          have hfl : (ad.take k2).foldl (betAdd a b) F = BL := by rw [hkl, List.take_of_length_le (Nat.le_refl _), HBL.out]
          rw [hfl] at SR ⊢
          clear hfl hkl
          go_wp2
          go_ret
          exact ⟨A3, c3, rfl, SR.out, below_go KB.out SB.out⟩
end Go.Proofs.Ytnjplichhkmmhaa.CalW
