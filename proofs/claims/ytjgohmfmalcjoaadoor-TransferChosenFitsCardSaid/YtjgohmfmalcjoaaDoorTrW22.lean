import Derived.Test.YtjgohmfmalcjoaaDoorMc
import Derived.Test.YtjgohmfmalcjoaaDoorTrW21
/- Walks: the reference's characters of base64. -/
namespace Go.Proofs.YtjgohmfmalcjoaaDoor.TrW
open Go.RowKit Go.Proofs.YtjgohmfmalcjoaaDoor.Base Go.Proofs.YtjgohmfmalcjoaaDoor.Tr
set_option linter.unusedVariables false
set_option linter.unusedSimpArgs false
theorem letY (k : Nat) (h : k < 64) : letS.extract k (k + 1) = ⟨#[let6 k]⟩ := letX ⟨k, h⟩
set_option maxHeartbeats 2000000 in
set_option maxRecDepth 20000 in
theorem chars_calls (A : Option Addr) (l : List UInt8) (c : Nat) (w : World) (h : Rd w bv A l) (hl : l.length ≤ 100000) :
    Calls Tryd.prog 43 #[.slice A l.length c] w fun e w' => e = .returned (.string ⟨(chars64 l).toArray⟩) ∧ Below w.heap.size w w' := by
  have hB := bits_calls A l c w h hl
  have hll := bitsL_len l
  have hbit := bitsL_bit l
  have hch : chars64 l = c6To (padL (bitsL l)) ((padL (bitsL l)).length / 6) ++ List.replicate ((4 - ((padL (bitsL l)).length / 6) % 4) % 4) 61 := rfl
  have hpad : padL (bitsL l) = bitsL l ++ List.replicate ((6 - (bitsL l).length % 6) % 6) 0 := rfl
  have hpl := padL_len (bitsL l)
  generalize chars64 l = v at *
  generalize padL (bitsL l) = P at *
  generalize bitsL l = b at *
  have HB := Lib.hid hB
  have HBIT := Lib.hid hbit
  have HCH := Lib.hid hch
  have HPAD := Lib.hid hpad
  have HPL := Lib.hid hpl
  obtain ⟨i0, hi0, hz0, hz1, hz2⟩ := info_parts info3
  have HI0 := Lib.hid hi0
  have HZ0 := Lib.hid hz0
  have HZ1 := Lib.hid hz1
  have HZ2 := Lib.hid hz2
  have HLL := Lib.hid hll
  clear hi0 hz0 hz1 hz2 hB hbit hch hpad hpl h hll
  go_enter Tryd.func43, Tryd.ntmps43
  go_upto_region 2 with (go_at_call 69; ((with_reducible refine HB.out.mono ?_); rintro en w1 ⟨A1, c1, rfl, hown, hb1⟩; skip))
  have O1 : Hid (Ow iv 3 w w1 b A1 c1) := Lib.hid ⟨hown, hb1⟩
  clear hown hb1 HB
  go_loopw [3] (fun s3 wr => ∃ (j : Nat) (out : List Int) (A2 : Option Addr) (c2 : Nat), s3 = .slice A2 out.length c2 ∧ j ≤ (6 - b.length % 6) % 6 ∧ Hid (out = b ++ List.replicate j 0) ∧ Hid (out.length = b.length + j) ∧ Hid (Ow iv 3 w wr out A2 c2)) (fun s3 _ => 5 + b.length - lenOf' s3)
  case atStart => exact ⟨0, b, A1, c1, rfl, by omega, Lib.hid (by simp), Lib.hid (by simp), O1⟩
  case round =>
    clear O1
    obtain ⟨j, out, A2, c2, rfl, hj, HU, HOL, O⟩ := hrel
    have hb8 : b.length ≤ 800000 := by have := HLL.out; omega
    by_cases hlt : j < (6 - b.length % 6) % 6
    · have hol := HOL.out
      obtain ⟨r, hr⟩ : ∃ r : Nat, r = out.length % 6 := ⟨_, rfl⟩
      have e1 : (out.length : Int).tmod 6 = (r : Int) := by rw [Int.tmod_eq_emod_of_nonneg (by omega)]; omega
      have e2 : ((r : Int) != 0) = true := by simp; omega
      have hbd : out.length ≤ b.length + 5 := by omega
      have hbl : b.length ≤ out.length := by omega
      clear hol hr
      go_wp2_with (at_builtin; refine wpList_appG (f := iv) (l := out) (r := [0]) iv1 (by rfl) _ _ 77 rfl i0 (.int .i64 0) 8 Tryd.underlying77 HI0.out HZ0.out HZ1.out HZ2.out rfl rfl (O.out.al _).own rfl (rd_new (r := [0]) (Bk.new _ _ _) rfl) (by show out.length + 1 ≤ _; unfold maxLen; omega) (by show (out.length + 1) * 8 ≤ _; omega) (O.out.al _).b.size ?_; intro A6 c6 w6 hown hg _; have T := Lib.hid ((O.out.al _).app hg hown); clear O hown hg; have O := T; clear T)
      exact ⟨⟨j + 1, out ++ [0], A6, c6, by simp, by omega, Lib.hid (by rw [HU.out, List.replicate_succ', List.append_assoc]), Lib.hid (by rw [List.length_append, HOL.out]; rfl), O⟩, by have := HOL.out; simp [lenOf']; omega⟩
    · have hjj : j = (6 - b.length % 6) % 6 := by omega
      have hP : out = P := by rw [HU.out, HPAD.out, hjj]
      have hol := HOL.out
      subst hP
      have e1 : (out.length : Int).tmod 6 = 0 := by rw [Int.tmod_eq_emod_of_nonneg (by omega)]; have := HPL.out.1; omega
      obtain ⟨m, hm⟩ : ∃ m, out.length = 6 * m := ⟨out.length / 6, by have := HPL.out.1; omega⟩
      have hmb : m ≤ 200000 := by omega
      have hPb : Bit out := by
        intro x hx
        rw [HU.out] at hx
        rcases List.mem_append.1 hx with hx | hx
        · exact HBIT.out x hx
        · exact .inl (List.eq_of_mem_replicate hx)
      have hcap := own_cap O.out.own
      have hrd := O.out.rd
      have hch2 : v = c6To out m ++ List.replicate ((4 - m % 4) % 4) 61 := by rw [HCH.out, hm]; simp
      have HRD := Lib.hid hrd
      have HM := Lib.hid hm
      have HPB := Lib.hid hPb
      have HCH2 := Lib.hid hch2
      have HOB := Lib.hid O.out.b
      clear hjj hol hlt hj hPb hrd HCH HPAD HPL HBIT hch2 O HU HOL hm
      go_upto_region 6 with fail
      go_loop [4, 5] (fun s4 s5 => ∃ (i j : Nat) (o : List UInt8), s4 = .string ⟨o.toArray⟩ ∧ s5 = .int .i64 i ∧ Hid (i = 6 * j) ∧ j ≤ m ∧ Hid (o = c6To out j)) (fun _ s5 => 6 * m - (intOf s5).toNat)
      case atStart => exact ⟨0, 0, [], rfl, rfl, Lib.hid rfl, by omega, Lib.hid rfl⟩
      case round =>
        obtain ⟨i, j, o, rfl, rfl, HIJ, hj, HO⟩ := hrel
        by_cases hlt : j < m
        · have hs := c6To_succ out j
          rw [← HO.out] at hs
          have hij := HIJ.out
          have hm := HM.out
          have i1 : (0 : Int) ≤ (i : Int) := by omega
          have i2 : (i : Int) < (out.length : Int) := by omega
          have i3 : (i : Int) + 6 ≤ (c2 : Int) := by omega
          have i4 : (i : Int) ≤ (c2 : Int) := by omega
          have i5 : (0 : Int) ≤ (i : Int) + 6 := by omega
          have hne : ¬ c2 = i := by omega
          have i6 : (i : Int) ≤ 1200000 := by omega
          obtain ⟨ad, hA, _⟩ := HRD.out (by omega)
          subst hA
          have hL : ((out.drop i).take 6).length = 6 := by rw [List.length_take, List.length_drop]; omega
          have hsum := sum_calls (some (ad.add i)) ((out.drop i).take 6) (c2 - i) wr ((HRD.out.drop i).take 6) (fun x hx => HPB.out x (List.mem_of_mem_drop (List.mem_of_mem_take hx))) (by omega)
          have hbd := sumL_bd (b := (out.drop i).take 6) (fun x hx => HPB.out x (List.mem_of_mem_drop (List.mem_of_mem_take hx))) (by omega)
          rw [hL] at hsum
          rw [← hij] at hs
          generalize sumL ((out.drop i).take 6) = sm at *
          obtain ⟨kk, rfl⟩ : ∃ kk : Nat, sm = kk := ⟨sm.toNat, by omega⟩
          have hk64 : kk < 64 := by omega
          have k0 : (0 : Int) ≤ (kk : Int) := by omega
          have k1 : (kk : Int) < 64 := by omega
          have hle := letY kk hk64
          unfold letS at hle
          rw [Int.toNat_natCast] at hs
          have hol : o.length = j := by rw [HO.out, c6To_len]
          have hol2 : o.length ≤ 200000 := by omega
          have hb1 : ¬ 9223372036854775807 < o.length + 1 := by omega
          have HSUM := Lib.hid hsum
          have HS := Lib.hid hs
          have HOL := Lib.hid hol
          clear hsum hs hbd hL hij hm hol
          go_wp2_with (go_at_call 63; ((with_reducible refine HSUM.out.mono ?_); rintro en w' ⟨rfl, rfl⟩))
          go_round
          case rel => exact ⟨i + 6, j + 1, o ++ [let6 kk], by rw [← bapp], by go_num, Lib.hid (by rw [HIJ.out]; omega), by omega, Lib.hid HS.out.symm⟩
          case measure => have := HIJ.out; simp [intOf]; omega
        · have hjm : j = m := by omega
          have hij := HIJ.out
          have ho := HO.out
          rw [hjm] at ho hij
          have hol : o.length = m := by rw [ho, c6To_len]
          have g1 : (out.length : Int) ≤ (i : Int) := by have := HM.out; omega
          have hv := HCH2.out
          rw [← ho] at hv
          have HVV := Lib.hid hv
          have HOL := Lib.hid hol
          clear hjm hij ho hv hol HCH2 HO HIJ hj hlt
          go_upto_region 10 with fail
          go_loop [4] (fun s4 => ∃ (t : Nat) (o2 : List UInt8), s4 = .string ⟨o2.toArray⟩ ∧ t ≤ (4 - m % 4) % 4 ∧ Hid (o2 = o ++ List.replicate t 61) ∧ Hid (o2.length = m + t)) (fun s4 => m + 4 - lenS s4)
          case atStart => exact ⟨0, o, rfl, by omega, Lib.hid (by simp), Lib.hid (by have := HOL.out; omega)⟩
          case round =>
            obtain ⟨t, o2, rfl, ht, HT, HT2⟩ := hrel
            obtain ⟨r, hr⟩ : ∃ r : Nat, r = o2.length % 4 := ⟨_, rfl⟩
            have hol2 := HT2.out
            have e1 : (o2.length : Int).tmod 4 = (r : Int) := by rw [Int.tmod_eq_emod_of_nonneg (by omega)]; omega
            have hb1 : ¬ 9223372036854775807 < o2.length + 1 := by omega
            by_cases hlt : t < (4 - m % 4) % 4
            · have e2 : ((r : Int) != 0) = true := by simp; omega
              clear hol2 hr
              go_wp2
              go_round
              case rel => exact ⟨t + 1, o2 ++ [61], by rw [← bapp], by omega, Lib.hid (by rw [HT.out, List.replicate_succ', List.append_assoc]), Lib.hid (by rw [List.length_append, HT2.out]; rfl)⟩
              case measure =>
                have h2 := HT2.out
                have e5 : (⟨o2.toArray⟩ : ByteArray).size = o2.length := rfl
                have e6 : ((⟨o2.toArray⟩ : ByteArray) ++ ⟨#[61]⟩).size = o2.length + 1 := by
                  rw [show (⟨#[61]⟩ : ByteArray) = ⟨[61].toArray⟩ from rfl, bapp]
                  show (o2 ++ [61]).length = _
                  simp
                simp only [Array.getD_eq_getD_getElem?] at *
                simp [lenS, e5, e6]
                omega
            · have htt : t = (4 - m % 4) % 4 := by omega
              have e2 : ((r : Int) != 0) = false := by simp; omega
              have hv : o2 = v := by rw [HT.out, htt, HVV.out]
              have HO2V := Lib.hid hv
              clear hol2 hr htt hv
              go_wp2
              go_ret
              exact ⟨by rw [← HO2V.out]; rfl, HOB.out⟩
end Go.Proofs.YtjgohmfmalcjoaaDoor.TrW
