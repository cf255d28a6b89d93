import Derived.Test.YtjgohmfmalcjoaaDoorTrW31
/- Walk: the reference's decoding of base64. -/
namespace Go.Proofs.YtjgohmfmalcjoaaDoor.Tr
theorem bitsV_len (l : List UInt8) : (bitsV l).length ≤ 6 * l.length := by
  induction l with
  | nil => simp [bitsV]
  | cons c r ih =>
    unfold bitsV
    rw [List.length_cons]
    split
    · simp
    · split
      · omega
      · rw [List.length_append]
        have : (bits6 (val6 c)).length = 6 := rfl
        omega
end Go.Proofs.YtjgohmfmalcjoaaDoor.Tr
namespace Go.Proofs.YtjgohmfmalcjoaaDoor.TrW
open Go.RowKit Go.Proofs.YtjgohmfmalcjoaaDoor.Base Go.Proofs.YtjgohmfmalcjoaaDoor.Tr
set_option linter.unusedVariables false
set_option linter.unusedSimpArgs false
set_option maxRecDepth 20000 in
set_option maxHeartbeats 4000000 in
theorem rloose64_calls (A : Option Addr) (l : List UInt8) (c : Nat) (w : World) (h : Rd w bv A l) (hl : l.length ≤ 100000) :
    Calls Tryd.prog 38 #[.slice A l.length c] w (GivesB w (loose64 l)) := by
  have hu79 := Tryd.underlying79
  have hv : loose64 l = bytes8 (bitsV l) ((bitsV l).length / 8) := rfl
  have hbl := bitsV_len l
  have hbb := bitsV_bit l
  have hat : ∀ k (hk : k < l.length), bitsV (l.drop k) = if l[k].toNat = 61 then [] else if val6 l[k] < 0 then bitsV (l.drop (k + 1)) else bits6 (val6 l[k]) ++ bitsV (l.drop (k + 1)) := fun k hk => by
    rw [List.drop_eq_getElem_cons hk]
    rfl
  generalize loose64 l = res at *
  have h0 : bitsV l = [] ++ bitsV (l.drop 0) := by simp
  generalize bitsV l = bs at *
  have HR := Lib.hid h
  have HV := Lib.hid hv
  have HBL := Lib.hid hbl
  have HBB := Lib.hid hbb
  have HAT := Lib.hid hat
  have H0 := Lib.hid h0
  obtain ⟨i0, hi0, hz0, hz1, hz2⟩ := info_parts info3
  obtain ⟨j0, hj0, hy0, hy1, hy2⟩ := info_parts info8
  have HI0 := Lib.hid hi0
  have HZ0 := Lib.hid hz0
  have HZ1 := Lib.hid hz1
  have HZ2 := Lib.hid hz2
  have HJ0 := Lib.hid hj0
  have HY0 := Lib.hid hy0
  have HY1 := Lib.hid hy1
  have HY2 := Lib.hid hy2
  clear hi0 hz0 hz1 hz2 hj0 hy0 hy1 hy2 h hv hbl hbb hat h0
  go_enter Tryd.func38, Tryd.ntmps38
  go_upto_region 3 with fail
  go_loopw [3, 4] (fun s3 s4 wr => ∃ (k : Nat) (out : List Int) (A2 : Option Addr) (c2 : Nat), s3 = .slice A2 out.length c2 ∧ s4 = .int .i64 k ∧ k ≤ l.length ∧ Hid (bs = out ++ bitsV (l.drop k)) ∧ Hid (out.length ≤ 6 * k) ∧ Hid (Ow iv 3 w wr out A2 c2)) (fun _ s4 _ => l.length - (intOf s4).toNat)
  case atStart => exact ⟨0, [], none, 0, rfl, rfl, by omega, H0, Lib.hid (by simp), Lib.hid (Ow.nil w)⟩
  case round =>
    obtain ⟨k, out, A2, c2, rfl, rfl, hk, HU, HOL, O⟩ := hrel
    by_cases hlt : k < l.length ∧ ∀ (h : k < l.length), l[k].toNat ≠ 61
    · obtain ⟨hlt, h61⟩ := hlt
      have h61 := h61 hlt
      have i1 : (0 : Int) ≤ (k : Int) := by omega
      have i2 : (k : Int) < (l.length : Int) := by omega
      have hu := HU.out
      rw [HAT.out k hlt, if_neg h61] at hu
      obtain ⟨ad, hA, hre⟩ := rd_all HR.out hlt
      cases hA
      have hcell : ∀ W, Below w.heap.size w W → W.cell? (ad.add k) = some (bv l[k]) := fun W hb => hre W hb k hlt
      have hvc := fun W => rvalue_calls l[k] W
      have hvb := val6_bd l[k]
      generalize l[k] = x at *
      generalize val6 x = v at *
      have q1 : ((x.toNat : Int) != 61) = true := by simp; omega
      have HC := Lib.hid hcell
      have HVC := Lib.hid hvc
      have ck := HC.out _ O.out.b
      clear hcell hre hvc h61 HU
      by_cases hneg : v < 0
      · rw [if_pos hneg] at hu
        have HU := Lib.hid hu
        clear hu
        go_upto_region 7 with (go_at_call 62; ((with_reducible refine (HVC.out _).mono ?_); rintro e w' ⟨rfl, rfl⟩))
        go_loopw [3, 6] (fun s3 s6 wx => s3 = .slice A2 out.length c2 ∧ s6 = .int .i64 5 ∧ Hid (Ow iv 3 w wx out A2 c2)) (fun _ _ _ => 0)
        case atStart => exact ⟨rfl, rfl, O⟩
        case round =>
          clear O
          obtain ⟨rfl, rfl, O⟩ := hrel
          go_wp2
          exact ⟨⟨k + 1, out, A2, c2, rfl, by go_num, by omega, HU, Lib.hid (by have := HOL.out; omega), O⟩, by simp [intOf]; omega⟩
      · rw [if_neg hneg] at hu
        have HU := Lib.hid hu
        have g0 : 0 ≤ v := by omega
        clear hu hneg
        go_upto_region 7 with (go_at_call 62; ((with_reducible refine (HVC.out _).mono ?_); rintro e w' ⟨rfl, rfl⟩))
        clear ck
        go_loopw [3, 6] (fun s3 s6 wx => ∃ (j : Nat) (o2 : List Int) (A5 : Option Addr) (c5 : Nat), s3 = .slice A5 o2.length c5 ∧ s6 = .int .i64 (5 - (j : Int)) ∧ j ≤ 6 ∧ Hid (o2 = out ++ (bits6 v).take j) ∧ Hid (o2.length ≤ out.length + 6) ∧ Hid (Ow iv 3 w wx o2 A5 c5)) (fun _ s6 _ => (intOf s6 + 1).toNat)
        case atStart => exact ⟨0, out, A2, c2, rfl, rfl, by omega, Lib.hid (by simp), Lib.hid (by omega), O⟩
        case round =>
          clear O
          obtain ⟨j, o2, A5, c5, rfl, rfl, hj, HO2, HOL2, O⟩ := hrel
          rcases (show j = 0 ∨ j = 1 ∨ j = 2 ∨ j = 3 ∨ j = 4 ∨ j = 5 ∨ j = 6 by omega) with rfl | rfl | rfl | rfl | rfl | rfl | rfl
          · go_wp2_with (at_builtin; refine wpList_appG (f := iv) (l := o2) (r := [_]) iv1 (by rfl) _ _ 77 rfl i0 (.int .i64 0) 8 Tryd.underlying77 HI0.out HZ0.out HZ1.out HZ2.out rfl rfl (O.out.al _).own rfl (rd_new (r := [_]) (Bk.new _ _ _) rfl) (by show o2.length + 1 ≤ _; have := HOL2.out; have := HOL.out; unfold maxLen; omega) (by show (o2.length + 1) * 8 ≤ _; have := HOL2.out; have := HOL.out; omega) (O.out.al _).b.size ?_; intro A6 c6 w6 hown hg _; have T := Lib.hid ((O.out.al _).app hg hown); clear O hown hg; have O := T; clear T)
            exact ⟨⟨1, o2 ++ [v / 32 % 2], A6, c6, by simp, by first | rfl | go_num | (apply congrArg; omega), by omega, Lib.hid (by rw [HO2.out, List.append_assoc]; rfl), Lib.hid (by rw [HO2.out]; simp [bits6]), O⟩, by simp [intOf]⟩
          · go_wp2_with (at_builtin; refine wpList_appG (f := iv) (l := o2) (r := [_]) iv1 (by rfl) _ _ 77 rfl i0 (.int .i64 0) 8 Tryd.underlying77 HI0.out HZ0.out HZ1.out HZ2.out rfl rfl (O.out.al _).own rfl (rd_new (r := [_]) (Bk.new _ _ _) rfl) (by show o2.length + 1 ≤ _; have := HOL2.out; have := HOL.out; unfold maxLen; omega) (by show (o2.length + 1) * 8 ≤ _; have := HOL2.out; have := HOL.out; omega) (O.out.al _).b.size ?_; intro A6 c6 w6 hown hg _; have T := Lib.hid ((O.out.al _).app hg hown); clear O hown hg; have O := T; clear T)
            exact ⟨⟨2, o2 ++ [v / 16 % 2], A6, c6, by simp, by first | rfl | go_num | (apply congrArg; omega), by omega, Lib.hid (by rw [HO2.out, List.append_assoc]; rfl), Lib.hid (by rw [HO2.out]; simp [bits6]), O⟩, by simp [intOf]⟩
          · go_wp2_with (at_builtin; refine wpList_appG (f := iv) (l := o2) (r := [_]) iv1 (by rfl) _ _ 77 rfl i0 (.int .i64 0) 8 Tryd.underlying77 HI0.out HZ0.out HZ1.out HZ2.out rfl rfl (O.out.al _).own rfl (rd_new (r := [_]) (Bk.new _ _ _) rfl) (by show o2.length + 1 ≤ _; have := HOL2.out; have := HOL.out; unfold maxLen; omega) (by show (o2.length + 1) * 8 ≤ _; have := HOL2.out; have := HOL.out; omega) (O.out.al _).b.size ?_; intro A6 c6 w6 hown hg _; have T := Lib.hid ((O.out.al _).app hg hown); clear O hown hg; have O := T; clear T)
            exact ⟨⟨3, o2 ++ [v / 8 % 2], A6, c6, by simp, by first | rfl | go_num | (apply congrArg; omega), by omega, Lib.hid (by rw [HO2.out, List.append_assoc]; rfl), Lib.hid (by rw [HO2.out]; simp [bits6]), O⟩, by simp [intOf]⟩
          · go_wp2_with (at_builtin; refine wpList_appG (f := iv) (l := o2) (r := [_]) iv1 (by rfl) _ _ 77 rfl i0 (.int .i64 0) 8 Tryd.underlying77 HI0.out HZ0.out HZ1.out HZ2.out rfl rfl (O.out.al _).own rfl (rd_new (r := [_]) (Bk.new _ _ _) rfl) (by show o2.length + 1 ≤ _; have := HOL2.out; have := HOL.out; unfold maxLen; omega) (by show (o2.length + 1) * 8 ≤ _; have := HOL2.out; have := HOL.out; omega) (O.out.al _).b.size ?_; intro A6 c6 w6 hown hg _; have T := Lib.hid ((O.out.al _).app hg hown); clear O hown hg; have O := T; clear T)
            exact ⟨⟨4, o2 ++ [v / 4 % 2], A6, c6, by simp, by first | rfl | go_num | (apply congrArg; omega), by omega, Lib.hid (by rw [HO2.out, List.append_assoc]; rfl), Lib.hid (by rw [HO2.out]; simp [bits6]), O⟩, by simp [intOf]⟩
          · go_wp2_with (at_builtin; refine wpList_appG (f := iv) (l := o2) (r := [_]) iv1 (by rfl) _ _ 77 rfl i0 (.int .i64 0) 8 Tryd.underlying77 HI0.out HZ0.out HZ1.out HZ2.out rfl rfl (O.out.al _).own rfl (rd_new (r := [_]) (Bk.new _ _ _) rfl) (by show o2.length + 1 ≤ _; have := HOL2.out; have := HOL.out; unfold maxLen; omega) (by show (o2.length + 1) * 8 ≤ _; have := HOL2.out; have := HOL.out; omega) (O.out.al _).b.size ?_; intro A6 c6 w6 hown hg _; have T := Lib.hid ((O.out.al _).app hg hown); clear O hown hg; have O := T; clear T)
            exact ⟨⟨5, o2 ++ [v / 2 % 2], A6, c6, by simp, by first | rfl | go_num | (apply congrArg; omega), by omega, Lib.hid (by rw [HO2.out, List.append_assoc]; rfl), Lib.hid (by rw [HO2.out]; simp [bits6]), O⟩, by simp [intOf]⟩
          · go_wp2_with (at_builtin; refine wpList_appG (f := iv) (l := o2) (r := [_]) iv1 (by rfl) _ _ 77 rfl i0 (.int .i64 0) 8 Tryd.underlying77 HI0.out HZ0.out HZ1.out HZ2.out rfl rfl (O.out.al _).own rfl (rd_new (r := [_]) (Bk.new _ _ _) rfl) (by show o2.length + 1 ≤ _; have := HOL2.out; have := HOL.out; unfold maxLen; omega) (by show (o2.length + 1) * 8 ≤ _; have := HOL2.out; have := HOL.out; omega) (O.out.al _).b.size ?_; intro A6 c6 w6 hown hg _; have T := Lib.hid ((O.out.al _).app hg hown); clear O hown hg; have O := T; clear T)
            exact ⟨⟨6, o2 ++ [v % 2], A6, c6, by simp, by first | rfl | go_num | (apply congrArg; omega), by omega, Lib.hid (by rw [HO2.out, List.append_assoc]; rfl), Lib.hid (by rw [HO2.out]; simp [bits6]), O⟩, by simp [intOf]⟩
          · go_wp2
            exact ⟨⟨k + 1, o2, A5, c5, rfl, by go_num, by omega, Lib.hid (by rw [HU.out, HO2.out, List.append_assoc]; rfl), Lib.hid (by rw [HO2.out, List.length_append]; have := HOL.out; show _ + 6 ≤ _; omega), O⟩, by simp [intOf]; omega⟩
    · have hend : out = bs := by
        have hu := HU.out
        rcases Nat.lt_or_ge k l.length with h1 | h1
        · have h61 : l[k].toNat = 61 := by
            refine Decidable.byContradiction fun hn => hlt ⟨h1, fun _ => hn⟩
          rw [HAT.out k h1, if_pos h61, List.append_nil] at hu
          exact hu.symm
        · rw [List.drop_eq_nil_of_le h1] at hu
          simp only [bitsV, List.append_nil] at hu
          exact hu.symm
      have hg : ((l.length : Int) ≤ (k : Int)) ∨ (∃ (ad : Addr) (x : UInt8), A = some ad ∧ (k : Int) < (l.length : Int) ∧ wr.cell? (ad.add k) = some (bv x) ∧ x.toNat = 61) := by
        rcases Nat.lt_or_ge k l.length with h1 | h1
        · right
          obtain ⟨ad, hA, hre⟩ := rd_all HR.out h1
          exact ⟨ad, l[k], hA, by omega, hre _ O.out.b k h1, Decidable.byContradiction fun hn => hlt ⟨h1, fun _ => hn⟩⟩
        · exact .inl (by omega)
      subst hend
      have HM := Lib.hid (show out.length ≤ 600000 by have := HBL.out; omega)
      have hcap := own_cap O.out.own
      clear hlt HU HOL
      rcases hg with hg | ⟨ad, x, rfl, hg, hg2, hg3⟩
      case' inr =>
        have i1 : (0 : Int) ≤ (k : Int) := by omega
        have q1 : ((x.toNat : Int) != 61) = false := by simp; omega
        clear hg3
      all_goals
        go_upto_region 12 with fail
        have RB := Lib.hid O.out.rd
        have OB := Lib.hid O.out.b
        try clear hg2
        clear O
        go_loopw [7, 8] (fun s7 s8 wx => ∃ (j i : Nat) (o2 : List UInt8) (A5 : Option Addr) (c5 : Nat), s7 = .slice A5 o2.length c5 ∧ s8 = .int .i64 i ∧ Hid (i = 8 * j) ∧ Hid (8 * j ≤ out.length) ∧ Hid (o2 = bytes8 out j) ∧ Hid (o2.length = j) ∧ Hid (Ow bv 5 wr wx o2 A5 c5)) (fun _ s8 _ => out.length - (intOf s8).toNat)
        case atStart => exact ⟨0, 0, [], none, 0, rfl, rfl, Lib.hid rfl, Lib.hid (by omega), Lib.hid rfl, Lib.hid rfl, Lib.hid (Ow.nil wr)⟩
        case round =>
          obtain ⟨j, i, o2, A5, c5, rfl, rfl, HI, HJ, HO2, HO2L, O⟩ := hrel
          have hij := HI.out
          have hM := HM.out
          have hJ := HJ.out
          have j0' : (0 : Int) ≤ (i : Int) := by omega
          have j1 : (i : Int) ≤ 700000 := by omega
          by_cases hlt : i + 8 ≤ out.length
          · have i2 : (i : Int) + 8 ≤ (out.length : Int) := by omega
            have i3 : (i : Int) + 8 ≤ (c2 : Int) := by omega
            have i4 : (i : Int) ≤ (c2 : Int) := by omega
            have hne : ¬ c2 = i := by omega
            obtain ⟨a2, hA, _⟩ := RB.out (by omega)
            subst hA
            have hL : ((out.drop i).take 8).length = 8 := by rw [List.length_take, List.length_drop]; omega
            have hbt : Bit ((out.drop i).take 8) := fun x hx => HBB.out x (List.mem_of_mem_drop (List.mem_of_mem_take hx))
            have hsum := fun W hb => sum_calls (some (a2.add i)) ((out.drop i).take 8) (c2 - i) W (((RB.out.bel hb).drop i).take 8) hbt (by omega)
            have hbd := sumL_bd8 (b := (out.drop i).take 8) hbt (by omega)
            have hs := bytes8_succ out j
            rw [← hij] at hs
            rw [hL] at hsum
            generalize sumL ((out.drop i).take 8) = sm at *
            have hw := u8_of (e := sm) hbd.1
            rw [show sm % 256 = sm by omega] at hw
            generalize UInt8.ofNat sm.toNat = y at *
            have HSUM := Lib.hid hsum
            have HS := Lib.hid hs
            clear hsum hs hbd hL hij hM hJ hbt
            go_wp2_with (first
              | (go_at_call 63; ((with_reducible refine (HSUM.out _ O.out.b).mono ?_); rintro en w' ⟨rfl, rfl⟩))
              | (at_builtin; refine wpList_appG (f := bv) (l := o2) (r := [y]) bv1 (by rfl) _ _ 22 rfl j0 (.int .u8 0) 1 Tryd.underlying22 HJ0.out HY0.out HY1.out HY2.out rfl rfl (O.out.al _).own rfl (rd_new (r := [y]) (Bk.new _ _ _) rfl) (by show o2.length + 1 ≤ _; have := HO2L.out; have := HJ.out; have := HM.out; unfold maxLen; omega) (by show (o2.length + 1) * 1 ≤ _; have := HO2L.out; have := HJ.out; have := HM.out; omega) (O.out.al _).b.size ?_; intro A6 c6 w6 hown hg9 _; have T := Lib.hid ((O.out.al _).app hg9 hown); clear O hown hg9; have O := T; clear T))
            exact ⟨⟨j + 1, i + 8, o2 ++ [y], A6, c6, by simp, by go_num, Lib.hid (by have := HI.out; omega), Lib.hid (by have := HI.out; omega), Lib.hid (by rw [HS.out, HO2.out]), Lib.hid (by rw [List.length_append, HO2L.out]; rfl), O⟩, by simp [intOf]; omega⟩
          · have hjj : out.length / 8 = j := by omega
            have hv := HV.out
            rw [hjj, ← HO2.out] at hv
            have HV2 := Lib.hid hv
            have i2 : (out.length : Int) < (i : Int) + 8 := by omega
            clear hij hM hJ hjj hv
            go_wp2
            go_ret
            exact ⟨A5, c5, by rw [HV2.out]; rfl, by rw [HV2.out]; exact O.out.rd, by rw [HV2.out]; exact Fr.own O.out.own OB.out.size, below_go OB.out O.out.b⟩
end Go.Proofs.YtjgohmfmalcjoaaDoor.TrW
