import Derived.Test.YtjgohmfmalcjoaaDoorTrW15
import Derived.Test.YtjgohmfmalcjoaaDoorTr5
/- Walks: quoted.Loose. -/
namespace Go.Proofs.YtjgohmfmalcjoaaDoor.TrW
open Go.RowKit Go.Proofs.YtjgohmfmalcjoaaDoor.Base Go.Proofs.YtjgohmfmalcjoaaDoor.Tr
set_option linter.unusedVariables false
set_option linter.unusedSimpArgs false
/-- the length of a slice. -/
def lenOf' : Value → Nat
  | .slice _ n _ => n
  | _ => 0
set_option maxHeartbeats 2000000 in
set_option maxRecDepth 20000 in
theorem loose_calls (A : Option Addr) (l : List UInt8) (c : Nat) (w : World) (h : Rd w bv A l) (hl : l.length ≤ 100000) (hc : l.length ≤ c) (hc63 : c ≤ 9223372036854775807) :
    Calls Tryd.prog 116 #[.slice A l.length c] w (GivesB w (looseL l)) := by
  have hLn := fun A l c W R h1 h2 h3 => line_calls A l c W R h1 h2 h3
  generalize hv : looseL l = v
  have HV := Lib.hid hv
  have HR := Lib.hid h
  have HLINE := Lib.hid hLn
  obtain ⟨i0, hi0, hz0, hz1, hz2⟩ := info_parts info8
  have HI0 := Lib.hid hi0
  have HZ0 := Lib.hid hz0
  have HZ1 := Lib.hid hz1
  have HZ2 := Lib.hid hz2
  clear hi0 hz0 hz1 hz2 hv h hLn
  go_enter Tryd.func116, Tryd.ntmps116
  go_upto_region 2 with fail
  go_loopw [0, 3] (fun s0 s3 wr => ∃ (n : Nat) (l2 : List UInt8) (A2 : Option Addr) (c2 : Nat) (out : List UInt8) (A5 : Option Addr) (c5 : Nat), s0 = .slice A2 l2.length c2 ∧ s3 = .slice A5 out.length c5 ∧ l2.length ≤ c2 ∧ c2 ≤ 9223372036854775807 ∧ Hid (l2.length ≤ n) ∧ Hid (out.length + l2.length ≤ l.length) ∧ Hid (looseF n l2 out = v) ∧ Hid (Rd w bv A2 l2) ∧ Hid (Ow bv 5 w wr out A5 c5)) (fun s0 _ _ => lenOf' s0)
  case atStart => exact ⟨l.length, l, A, c, [], none, 0, rfl, rfl, by omega, by omega, Lib.hid (by omega), Lib.hid (by simp), HV, HR, Lib.hid (Ow.nil w)⟩
  case round =>
    obtain ⟨n, l2, A2, c2, out, A5, c5, rfl, rfl, hlc, hc2, HN, HSU, HF, HRL, O⟩ := hrel
    by_cases hlt : 0 < l2.length
    · have i1 : (0 : Int) < (l2.length : Int) := by omega
      have hn := HN.out
      obtain ⟨n, rfl⟩ : ∃ m, n = m + 1 := ⟨n - 1, by omega⟩
      obtain ⟨ad, hA, _⟩ := rd_all HRL.out hlt
      cases hA
      have hl2 : l2.length ≤ 100000 := by have := HSU.out; omega
      have hbd := ib_bd 10 l2
      have hcell : (wr.alloc (.cells #[.int .u8 10] 5)).cell? ⟨wr.heap.size, 0, none⟩ = some (bv 10) := (Bk.new wr 5 #[.int .u8 10]).cell 0
      have hRa : Rd (wr.alloc (.cells #[.int .u8 10] 5)) bv (some ad) l2 := (HRL.out.bel O.out.b).al _
      by_cases hnl : 0 ≤ nlAt l2
      · obtain ⟨k, hk⟩ : ∃ k : Nat, nlAt l2 = k := ⟨(nlAt l2).toNat, by omega⟩
        have hkl : k < l2.length := by unfold nlAt at hk; omega
        have hcut := cut_found ad l2 c2 wr.heap.size k 10 _ w HRL.out hRa hcell hlc hc2 hk
        have HCUT := Lib.hid hcut
        have hf := HF.out
        rw [looseF_nl hlt hk] at hf
        have HF2 := Lib.hid hf
        have hso := stepO_len l2 k (by omega)
        have hst : stepO l2 k = lineF (crL l2 k) ++ (if lineS (crL l2 k) = true then [] else if crB l2 k = true then [13, 10] else [10]) := rfl
        have hcl : crL l2 k = if crB l2 k = true then l2.take (k - 1) else l2.take k := rfl
        have hcb : crB l2 k = (decide (0 < k) && decide ((l2.getD (k - 1) 0).toNat = 13)) := rfl
        have HSO := Lib.hid hso
        clear hcut hf HF hnl hbd hcell hRa hso
        generalize crL l2 k = L1 at *
        generalize crB l2 k = cb at *
        have hLk : cb = false → ∀ W, Rd W bv (some ad) l2 → Calls Tryd.prog 137 #[.slice (some ad) k c2] W (GivesBB W (lineF L1) (lineS L1)) := fun hcb0 W R => by
          rw [hcb0] at hcl
          simp only [Bool.false_eq_true, if_false] at hcl
          have e1 : L1.length = k := by rw [hcl, List.length_take]; omega
          have := HLINE.out (some ad) L1 c2 W (by rw [hcl]; exact R.take k) (by omega) (by omega) hc2
          rwa [e1] at this
        have hLm : ∀ m, k = m + 1 → cb = true → ∀ W, Rd W bv (some ad) l2 → Calls Tryd.prog 137 #[.slice (some ad) m c2] W (GivesBB W (lineF L1) (lineS L1)) := fun m hm hcb0 W R => by
          rw [hcb0] at hcl
          simp only [if_true] at hcl
          have e1 : L1.length = m := by rw [hcl, List.length_take]; omega
          have := HLINE.out (some ad) L1 c2 W (by rw [hcl]; exact R.take _) (by omega) (by omega) hc2
          rwa [e1] at this
        have hld : (lineF L1).length ≤ k := by
          have h1 := lineF_len L1
          have h2 : L1.length ≤ k := by rw [hcl]; split <;> rw [List.length_take] <;> omega
          omega
        generalize lineF L1 = data at *
        generalize lineS L1 = sf at *
        have HLD := Lib.hid (show data.length ≤ l2.length by omega)
        clear hld hcl HLINE
        rcases Nat.eq_zero_or_pos k with hk0 | hk0
        · have hcb0 : cb = false := by rw [hcb, hk0]; rfl
          have HLN := Lib.hid (hLk hcb0)
          rw [hcb0] at hst
          have g1 : (k : Int) ≤ 0 := by omega
          clear hLk hLm hcb hcb0 hk0
          cases sf
          · rw [if_neg (by simp), if_neg (by simp)] at hst
            rw [hst, ← List.append_assoc] at HF2
            have HST := Lib.hid hst
            clear hst
            go_wp2_with (first | (go_at_call 97; ((with_reducible refine HCUT.out.mono ?_); rintro e w2 ⟨A9, rfl, hrd, hb2⟩; have T := Lib.hid ((O.out.al _).bel hb2); have HRD := Lib.hid hrd; clear O hrd hb2; have O := T; clear T)) | (go_at_call 137; ((with_reducible refine (HLN.out _ (HRL.out.bel O.out.b)).mono ?_); rintro e w4 ⟨A3, c3, rfl, hr3, hf3, hb4⟩; have T := Lib.hid (O.out.bel hb4); have HR3 := Lib.hid hr3; clear O hr3 hf3 hb4; have O := T; clear T)) | (at_builtin; refine wpList_appG (f := bv) (l := out) (r := data) bv1 (by rfl) _ _ 22 rfl i0 (.int .u8 0) 1 Tryd.underlying22 HI0.out HZ0.out HZ1.out HZ2.out rfl rfl O.out.own rfl HR3.out (by have := HLD.out; have := HSU.out; unfold maxLen; omega) (by have := HLD.out; have := HSU.out; omega) O.out.b.size ?_; intro A6 c6 w6 hown hg _; have hod : (out ++ data).length = out.length + data.length := (List.length_append); generalize out ++ data = od at *; have HOD := Lib.hid hod; have T := Lib.hid (O.out.app hg hown); clear O HR3 hown hg hod; have O := T; clear T) | (at_builtin; refine wpList_appS (r := [10]) (by rfl) _ _ rfl _ rfl O.out.own rfl rfl (by decide) (by show _ + 1 ≤ _; have := HLD.out; have := HSU.out; have := HOD.out; omega) O.out.b.size ?_; intro A7 c7 w7 hown hg _; have T := Lib.hid (O.out.app hg hown); clear O hown hg; have O := T; clear T))
            exact ⟨⟨n, l2.drop (k + 1), A9, c2 - (k + 1), od ++ [10], _, _, by rw [List.length_drop], by simp, by rw [List.length_drop]; omega, by omega, Lib.hid (by rw [List.length_drop]; have := HN.out; omega), Lib.hid (by have h1 := HSU.out; have h2 := HSO.out; have h3 := HOD.out; rw [HST.out] at h2; simp only [List.length_append, List.length_drop, List.length_cons, List.length_nil] at *; omega), HF2, HRD, O⟩, by simp [lenOf']; omega⟩
          · rw [if_pos rfl, List.append_nil] at hst
            rw [hst] at HF2
            have HST := Lib.hid hst
            clear hst
            go_wp2_with (first | (go_at_call 97; ((with_reducible refine HCUT.out.mono ?_); rintro e w2 ⟨A9, rfl, hrd, hb2⟩; have T := Lib.hid ((O.out.al _).bel hb2); have HRD := Lib.hid hrd; clear O hrd hb2; have O := T; clear T)) | (go_at_call 137; ((with_reducible refine (HLN.out _ (HRL.out.bel O.out.b)).mono ?_); rintro e w4 ⟨A3, c3, rfl, hr3, hf3, hb4⟩; have T := Lib.hid (O.out.bel hb4); have HR3 := Lib.hid hr3; clear O hr3 hf3 hb4; have O := T; clear T)) | (at_builtin; refine wpList_appG (f := bv) (l := out) (r := data) bv1 (by rfl) _ _ 22 rfl i0 (.int .u8 0) 1 Tryd.underlying22 HI0.out HZ0.out HZ1.out HZ2.out rfl rfl O.out.own rfl HR3.out (by have := HLD.out; have := HSU.out; unfold maxLen; omega) (by have := HLD.out; have := HSU.out; omega) O.out.b.size ?_; intro A6 c6 w6 hown hg _; have hod : (out ++ data).length = out.length + data.length := (List.length_append); generalize out ++ data = od at *; have HOD := Lib.hid hod; have T := Lib.hid (O.out.app hg hown); clear O HR3 hown hg hod; have O := T; clear T))
            exact ⟨⟨n, l2.drop (k + 1), A9, c2 - (k + 1), od, _, _, by rw [List.length_drop], by simp, by rw [List.length_drop]; omega, by omega, Lib.hid (by rw [List.length_drop]; have := HN.out; omega), Lib.hid (by have h1 := HSU.out; have h2 := HSO.out; have h3 := HOD.out; rw [HST.out] at h2; simp only [List.length_append, List.length_drop, List.length_cons, List.length_nil] at *; omega), HF2, HRD, O⟩, by simp [lenOf']; omega⟩
        · obtain ⟨m, hm⟩ : ∃ m, k = m + 1 := ⟨k - 1, by omega⟩
          have ek : (k : Int) - 1 = (m : Int) := by omega
          have m0 : (0 : Int) ≤ (m : Int) := by omega
          have m1 : (m : Int) < (k : Int) := by omega
          have m2 : (m : Int) ≤ (c2 : Int) := by omega
          have k0 : (0 : Int) < (k : Int) := by omega
          have hgm : l2.getD (k - 1) 0 = l2[m] := by simp [List.getD, hm, List.getElem?_eq_getElem (show m < l2.length by omega)]
          obtain ⟨ad', hA, hre⟩ := rd_all HRL.out (show m < l2.length by omega)
          injection hA with hA
          subst hA
          have hcx : ∀ W, Below w.heap.size w W → W.cell? (ad.add m) = some (bv l2[m]) := fun W hb => hre W hb m (by omega)
          rw [hgm] at hcb
          generalize l2[m] = x at *
          have HCL := Lib.hid hcx
          clear hre hcx hgm
          by_cases h13 : x.toNat = 13
          · have hcb0 : cb = true := by rw [hcb]; simp [h13, hk0]
            have q13 : ((x.toNat : Int) == 13) = true := by simp; omega
            have HLN := Lib.hid (hLm m hm hcb0)
            rw [hcb0] at hst
            clear hLk hLm hcb hcb0 h13 hk0 hm
            cases sf
            · rw [if_neg (by simp), if_pos rfl] at hst
              rw [hst, ← List.append_assoc] at HF2
              have HST := Lib.hid hst
              clear hst
              go_wp2_with (first | (go_at_call 97; ((with_reducible refine HCUT.out.mono ?_); rintro e w2 ⟨A9, rfl, hrd, hb2⟩; have T := Lib.hid ((O.out.al _).bel hb2); have HRD := Lib.hid hrd; clear O hrd hb2; have O := T; clear T; have cl := HCL.out _ O.out.b)) | (go_at_call 137; ((with_reducible refine (HLN.out _ (HRL.out.bel O.out.b)).mono ?_); rintro e w4 ⟨A3, c3, rfl, hr3, hf3, hb4⟩; have T := Lib.hid (O.out.bel hb4); have HR3 := Lib.hid hr3; clear O hr3 hf3 hb4 cl; have O := T; clear T)) | (at_builtin; refine wpList_appG (f := bv) (l := out) (r := data) bv1 (by rfl) _ _ 22 rfl i0 (.int .u8 0) 1 Tryd.underlying22 HI0.out HZ0.out HZ1.out HZ2.out rfl rfl O.out.own rfl HR3.out (by have := HLD.out; have := HSU.out; unfold maxLen; omega) (by have := HLD.out; have := HSU.out; omega) O.out.b.size ?_; intro A6 c6 w6 hown hg _; have hod : (out ++ data).length = out.length + data.length := (List.length_append); generalize out ++ data = od at *; have HOD := Lib.hid hod; have T := Lib.hid (O.out.app hg hown); clear O HR3 hown hg hod; have O := T; clear T) | (at_builtin; refine wpList_appS (r := [13, 10]) (by rfl) _ _ rfl _ rfl O.out.own rfl rfl (by decide) (by show _ + 2 ≤ _; have := HLD.out; have := HSU.out; have := HOD.out; omega) O.out.b.size ?_; intro A7 c7 w7 hown hg _; have T := Lib.hid (O.out.app hg hown); clear O hown hg; have O := T; clear T))
              exact ⟨⟨n, l2.drop (k + 1), A9, c2 - (k + 1), od ++ [13, 10], _, _, by rw [List.length_drop], by simp, by rw [List.length_drop]; omega, by omega, Lib.hid (by rw [List.length_drop]; have := HN.out; omega), Lib.hid (by have h1 := HSU.out; have h2 := HSO.out; have h3 := HOD.out; rw [HST.out] at h2; simp only [List.length_append, List.length_drop, List.length_cons, List.length_nil] at *; omega), HF2, HRD, O⟩, by simp [lenOf']; omega⟩
            · rw [if_pos rfl, List.append_nil] at hst
              rw [hst] at HF2
              have HST := Lib.hid hst
              clear hst
              go_wp2_with (first | (go_at_call 97; ((with_reducible refine HCUT.out.mono ?_); rintro e w2 ⟨A9, rfl, hrd, hb2⟩; have T := Lib.hid ((O.out.al _).bel hb2); have HRD := Lib.hid hrd; clear O hrd hb2; have O := T; clear T; have cl := HCL.out _ O.out.b)) | (go_at_call 137; ((with_reducible refine (HLN.out _ (HRL.out.bel O.out.b)).mono ?_); rintro e w4 ⟨A3, c3, rfl, hr3, hf3, hb4⟩; have T := Lib.hid (O.out.bel hb4); have HR3 := Lib.hid hr3; clear O hr3 hf3 hb4 cl; have O := T; clear T)) | (at_builtin; refine wpList_appG (f := bv) (l := out) (r := data) bv1 (by rfl) _ _ 22 rfl i0 (.int .u8 0) 1 Tryd.underlying22 HI0.out HZ0.out HZ1.out HZ2.out rfl rfl O.out.own rfl HR3.out (by have := HLD.out; have := HSU.out; unfold maxLen; omega) (by have := HLD.out; have := HSU.out; omega) O.out.b.size ?_; intro A6 c6 w6 hown hg _; have hod : (out ++ data).length = out.length + data.length := (List.length_append); generalize out ++ data = od at *; have HOD := Lib.hid hod; have T := Lib.hid (O.out.app hg hown); clear O HR3 hown hg hod; have O := T; clear T))
              exact ⟨⟨n, l2.drop (k + 1), A9, c2 - (k + 1), od, _, _, by rw [List.length_drop], by simp, by rw [List.length_drop]; omega, by omega, Lib.hid (by rw [List.length_drop]; have := HN.out; omega), Lib.hid (by have h1 := HSU.out; have h2 := HSO.out; have h3 := HOD.out; rw [HST.out] at h2; simp only [List.length_append, List.length_drop, List.length_cons, List.length_nil] at *; omega), HF2, HRD, O⟩, by simp [lenOf']; omega⟩
          · have hcb0 : cb = false := by rw [hcb]; simp [h13]
            have q13 : ((x.toNat : Int) == 13) = false := by simp; omega
            have HLN := Lib.hid (hLk hcb0)
            rw [hcb0] at hst
            clear hLk hLm hcb hcb0 h13 hk0 hm
            cases sf
            · rw [if_neg (by simp), if_neg (by simp)] at hst
              rw [hst, ← List.append_assoc] at HF2
              have HST := Lib.hid hst
              clear hst
              go_wp2_with (first | (go_at_call 97; ((with_reducible refine HCUT.out.mono ?_); rintro e w2 ⟨A9, rfl, hrd, hb2⟩; have T := Lib.hid ((O.out.al _).bel hb2); have HRD := Lib.hid hrd; clear O hrd hb2; have O := T; clear T; have cl := HCL.out _ O.out.b)) | (go_at_call 137; ((with_reducible refine (HLN.out _ (HRL.out.bel O.out.b)).mono ?_); rintro e w4 ⟨A3, c3, rfl, hr3, hf3, hb4⟩; have T := Lib.hid (O.out.bel hb4); have HR3 := Lib.hid hr3; clear O hr3 hf3 hb4 cl; have O := T; clear T)) | (at_builtin; refine wpList_appG (f := bv) (l := out) (r := data) bv1 (by rfl) _ _ 22 rfl i0 (.int .u8 0) 1 Tryd.underlying22 HI0.out HZ0.out HZ1.out HZ2.out rfl rfl O.out.own rfl HR3.out (by have := HLD.out; have := HSU.out; unfold maxLen; omega) (by have := HLD.out; have := HSU.out; omega) O.out.b.size ?_; intro A6 c6 w6 hown hg _; have hod : (out ++ data).length = out.length + data.length := (List.length_append); generalize out ++ data = od at *; have HOD := Lib.hid hod; have T := Lib.hid (O.out.app hg hown); clear O HR3 hown hg hod; have O := T; clear T) | (at_builtin; refine wpList_appS (r := [10]) (by rfl) _ _ rfl _ rfl O.out.own rfl rfl (by decide) (by show _ + 1 ≤ _; have := HLD.out; have := HSU.out; have := HOD.out; omega) O.out.b.size ?_; intro A7 c7 w7 hown hg _; have T := Lib.hid (O.out.app hg hown); clear O hown hg; have O := T; clear T))
              exact ⟨⟨n, l2.drop (k + 1), A9, c2 - (k + 1), od ++ [10], _, _, by rw [List.length_drop], by simp, by rw [List.length_drop]; omega, by omega, Lib.hid (by rw [List.length_drop]; have := HN.out; omega), Lib.hid (by have h1 := HSU.out; have h2 := HSO.out; have h3 := HOD.out; rw [HST.out] at h2; simp only [List.length_append, List.length_drop, List.length_cons, List.length_nil] at *; omega), HF2, HRD, O⟩, by simp [lenOf']; omega⟩
            · rw [if_pos rfl, List.append_nil] at hst
              rw [hst] at HF2
              have HST := Lib.hid hst
              clear hst
              go_wp2_with (first | (go_at_call 97; ((with_reducible refine HCUT.out.mono ?_); rintro e w2 ⟨A9, rfl, hrd, hb2⟩; have T := Lib.hid ((O.out.al _).bel hb2); have HRD := Lib.hid hrd; clear O hrd hb2; have O := T; clear T; have cl := HCL.out _ O.out.b)) | (go_at_call 137; ((with_reducible refine (HLN.out _ (HRL.out.bel O.out.b)).mono ?_); rintro e w4 ⟨A3, c3, rfl, hr3, hf3, hb4⟩; have T := Lib.hid (O.out.bel hb4); have HR3 := Lib.hid hr3; clear O hr3 hf3 hb4 cl; have O := T; clear T)) | (at_builtin; refine wpList_appG (f := bv) (l := out) (r := data) bv1 (by rfl) _ _ 22 rfl i0 (.int .u8 0) 1 Tryd.underlying22 HI0.out HZ0.out HZ1.out HZ2.out rfl rfl O.out.own rfl HR3.out (by have := HLD.out; have := HSU.out; unfold maxLen; omega) (by have := HLD.out; have := HSU.out; omega) O.out.b.size ?_; intro A6 c6 w6 hown hg _; have hod : (out ++ data).length = out.length + data.length := (List.length_append); generalize out ++ data = od at *; have HOD := Lib.hid hod; have T := Lib.hid (O.out.app hg hown); clear O HR3 hown hg hod; have O := T; clear T))
              exact ⟨⟨n, l2.drop (k + 1), A9, c2 - (k + 1), od, _, _, by rw [List.length_drop], by simp, by rw [List.length_drop]; omega, by omega, Lib.hid (by rw [List.length_drop]; have := HN.out; omega), Lib.hid (by have h1 := HSU.out; have h2 := HSO.out; have h3 := HOD.out; rw [HST.out] at h2; simp only [List.length_append, List.length_drop, List.length_cons, List.length_nil] at *; omega), HF2, HRD, O⟩, by simp [lenOf']; omega⟩
      · have hnl2 : nlAt l2 = -1 := by unfold nlAt at *; omega
        have hcut := cut_none ad l2 c2 wr.heap.size 10 _ hRa hcell hnl2
        have HCUT := Lib.hid hcut
        have hf := HF.out
        rw [looseF_no hlt hnl2] at hf
        have HLN := Lib.hid (fun W R => HLINE.out (some ad) l2 c2 W R hl2 hlc hc2)
        have hld := lineF_len l2
        generalize lineF l2 = data at *
        generalize lineS l2 = sf at *
        have HLD := Lib.hid hld
        have hf2 : looseF n [] (out ++ data) = v := by rw [looseF_end]; exact hf
        have HF2 := Lib.hid hf2
        clear hcut hf hf2 HF hnl hnl2 hbd hcell hRa hld HLINE
        cases sf
        all_goals
          go_wp2_with (first | (go_at_call 97; ((with_reducible refine HCUT.out.mono ?_); rintro e w2 ⟨rfl, hb2⟩; have T := Lib.hid ((O.out.al _).bel hb2); clear O hb2; have O := T; clear T)) | (go_at_call 137; ((with_reducible refine (HLN.out _ (HRL.out.bel O.out.b)).mono ?_); rintro e w4 ⟨A3, c3, rfl, hr3, hf3, hb4⟩; have T := Lib.hid (O.out.bel hb4); have HR3 := Lib.hid hr3; clear O hr3 hf3 hb4; have O := T; clear T)) | (at_builtin; refine wpList_appG (f := bv) (l := out) (r := data) bv1 (by rfl) _ _ 22 rfl i0 (.int .u8 0) 1 Tryd.underlying22 HI0.out HZ0.out HZ1.out HZ2.out rfl rfl O.out.own rfl HR3.out (by have := HLD.out; have := HSU.out; unfold maxLen; omega) (by have := HLD.out; have := HSU.out; omega) O.out.b.size ?_; intro A6 c6 w6 hown hg _; have hod : (out ++ data).length = out.length + data.length := (List.length_append); generalize out ++ data = od at *; have HOD := Lib.hid hod; have T := Lib.hid (O.out.app hg hown); clear O HR3 hown hg hod; have O := T; clear T))
          exact ⟨⟨n, [], none, 0, od, _, _, rfl, by simp, by simp, by omega, Lib.hid (by simp), Lib.hid (by have := HSU.out; have := HLD.out; have := HOD.out; rw [List.length_nil]; omega), HF2, Lib.hid Rd.nil, O⟩, by simp [lenOf']; omega⟩
    · have hl0 : l2 = [] := List.eq_nil_of_length_eq_zero (by omega)
      subst hl0
      have hf := HF.out
      rw [looseF_end] at hf
      have HF2 := Lib.hid hf
      clear HF hf
      have z1 : (([] : List UInt8).length : Int) = 0 := rfl
      go_wp2
      go_ret
      exact ⟨A5, c5, by rw [← HF2.out]; rfl, by rw [← HF2.out]; exact O.out.rd, by rw [← HF2.out]; exact Fr.own O.out.own (Nat.le_refl _), O.out.b⟩
end Go.Proofs.YtjgohmfmalcjoaaDoor.TrW
