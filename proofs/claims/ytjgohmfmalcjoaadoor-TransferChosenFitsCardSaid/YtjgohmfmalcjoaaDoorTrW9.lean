import Derived.Test.YtjgohmfmalcjoaaDoorMc
import Derived.Test.YtjgohmfmalcjoaaDoorTrW8
/- Walks: quoted text, encoding. -/
namespace Go.Proofs.YtjgohmfmalcjoaaDoor.TrW
open Go.RowKit Go.Proofs.YtjgohmfmalcjoaaDoor.Base Go.Proofs.YtjgohmfmalcjoaaDoor.Tr
set_option linter.unusedVariables false
set_option linter.unusedSimpArgs false
set_option maxHeartbeats 4000000 in
set_option maxRecDepth 20000 in
theorem quo_calls (A : Option Addr) (l : List UInt8) (c : Nat) (w : World) (h : Rd w bv A l) (hl : l.length ≤ 100000) :
    Calls Tryd.prog 66 #[.slice A l.length c] w (GivesB w (quoL l)) := by
  have hE := fun i W (R : Rd W bv A l) hi => eol_calls A l c i W R (by unfold maxLen; omega) hi
  have hT := fun i W (R : Rd W bv A l) hi => token_calls A l c i W R (by unfold maxLen; omega) hi
  generalize hv : quoL l = v
  have HV := Lib.hid hv
  have HR := Lib.hid h
  have HE := Lib.hid hE
  have HT := Lib.hid hT
  have hu22 := Tryd.underlying22
  have hu9 := Tryd.underlying9
  obtain ⟨i0, hi0, hz0, hz1, hz2⟩ := info_parts info8
  have HI0 := Lib.hid hi0
  have HZ0 := Lib.hid hz0
  have HZ1 := Lib.hid hz1
  have HZ2 := Lib.hid hz2
  clear hi0 hz0 hz1 hz2 hv h hE hT
  go_enter Tryd.func66, Tryd.ntmps66
  go_upto_region 4 with fail
  go_loopw [3, 4, 5] (fun s3 s4 s5 wr => ∃ (n i col : Nat) (out : List UInt8) (A2 : Option Addr) (c2 : Nat), s3 = .slice A2 out.length c2 ∧ s4 = .int .i64 col ∧ s5 = .int .i64 i ∧ i ≤ l.length ∧ col ≤ 100 ∧ l.length ≤ i + n ∧ out.length ≤ 6 * i ∧ Hid (quoF l n i col out = v) ∧ Hid (Ow bv 5 w wr out A2 c2)) (fun _ _ s5 _ => l.length - (intOf s5).toNat)
  case atStart => exact ⟨l.length, 0, 0, [], none, 0, rfl, rfl, rfl, by omega, by omega, by omega, by simp, HV, Lib.hid (Ow.nil w)⟩
  case round =>
    obtain ⟨n, i, col, out, A2, c2, rfl, rfl, rfl, hi, hcol, hn, ho, HF, O⟩ := hrel
    by_cases hlt : i < l.length
    · have i1 : (0 : Int) ≤ (i : Int) := by omega
      have i2 : (i : Int) < (l.length : Int) := by omega
      obtain ⟨n, rfl⟩ : ∃ m, n = m + 1 := ⟨n - 1, by omega⟩
      have hf := HF.out
      rw [quoF_at hlt] at hf
      have hr2 : Rd wr bv A l := HR.out.bel O.out.b
      have hee := HE.out i wr hr2 hi
      rw [eol_in hlt] at hee
      have HR2 := Lib.hid hr2
      rcases tf (crlfAt l i) with hcr | hcr
      · rw [hcr] at hee hf
        rw [if_neg (by simp)] at hf
        have HEE := Lib.hid hee
        have htl : 1 ≤ (tokQ l i).length ∧ (tokQ l i).length ≤ 3 := tokC_len _ _
        have htt := fun W R => HT.out i W R hlt
        have he1 := fun W R => HE.out (i + 1) W R (by omega)
        have hrm : roomQ l i = if eolAt l (i + 1) = true then 76 else 75 := rfl
        generalize roomQ l i = rm at *
        generalize tokQ l i = t at *
        generalize eolAt l (i + 1) = e at *
        have ei : ((i + 1 : Nat) : Int) = (i : Int) + 1 := by omega
        rw [ei] at he1
        have HTT := Lib.hid htt
        have HE1 := Lib.hid he1
        clear hee hcr HT HE HF htt he1 hr2 ei
        have t1 := htl.1
        have t2 := htl.2
        clear htl
        go_upto_region 10 with (first
          | (go_at_call 91; ((with_reducible refine HEE.out.mono ?_); rintro en w' ⟨rfl, rfl⟩))
          | (go_at_call 92; ((with_reducible refine (HTT.out _ HR2.out).mono ?_); rintro en w3 ⟨A3, c3, rfl, hr3, hf3, hb3⟩)))
        have T := Lib.hid (O.out.bel hb3)
        have HR3 := Lib.hid hr3
        have HRL := Lib.hid (HR2.out.bel hb3)
        have hne : ∀ ad, A3 = some ad → some ad.block ≠ (Value.slice A2 out.length c2).ownBlock := fun ad e he => by
          have h1 := hf3 ad e
          have h2 := (O.out.own.lt _ he.symm).2
          omega
        have HNE := Lib.hid hne
        clear O HR2 HEE HTT hr3 hf3 hb3 hne
        have O := T
        clear T
        clear wr
        by_cases hov : rm < col + t.length
        · rw [if_pos hov] at hf
          have HF2 := Lib.hid hf
          clear hf
          cases e
          · rw [if_neg (by simp)] at hrm
            subst hrm
            have g1 : (75 : Int) < (col : Int) + (t.length : Int) := by omega
            clear hov
            go_wp2_with (first | (go_at_call 91; ((with_reducible refine (HE1.out _ HRL.out).mono ?_); rintro en w' ⟨rfl, rfl⟩)) | (at_builtin; refine wpList_appS (r := [61, 13, 10]) (by rfl) _ _ rfl _ rfl O.out.own rfl rfl (by decide) (by show out.length + 3 ≤ _; omega) O.out.b.size ?_; intro A4 c4 w4 hown hg lies; have hl4 : (out ++ [61, 13, 10]).length = out.length + 3 := (by simp); generalize out ++ [61, 13, 10] = o4 at *; have hr5 := Rd.grown HR3.out hg HNE.out; have hne5 := Rd.off HR3.out t1 HNE.out lies; have T := Lib.hid (O.out.app hg hown); have HR5 := Lib.hid hr5; have HNE5 := Lib.hid hne5; have HL4 := Lib.hid hl4; clear O HR3 HNE hown hg lies hr5 hne5 hl4; have O := T; have HR3 := HR5; have HNE := HNE5; clear T HR5 HNE5) | (at_builtin; refine wpList_appG (f := bv) (l := o4) (r := t) bv1 (by rfl) _ _ 22 rfl i0 (.int .u8 0) 1 Tryd.underlying22 HI0.out HZ0.out HZ1.out HZ2.out rfl rfl O.out.own rfl HR3.out (by have := HL4.out; unfold maxLen; omega) (by have := HL4.out; omega) O.out.b.size ?_; intro A5 c5 w5 hown hg _; have T := Lib.hid (O.out.app hg hown); clear O HR3 HNE hown hg; have O := T; clear T))
            exact ⟨⟨n, i + 1, t.length, o4 ++ t, A5, c5, by simp, by first | rfl | go_num, by go_num, by omega, by omega, by omega, by have := HL4.out; rw [List.length_append]; omega, HF2, O⟩, by simp [intOf]; omega⟩
          · rw [if_pos rfl] at hrm
            subst hrm
            have g1 : (76 : Int) < (col : Int) + (t.length : Int) := by omega
            clear hov
            go_wp2_with (first | (go_at_call 91; ((with_reducible refine (HE1.out _ HRL.out).mono ?_); rintro en w' ⟨rfl, rfl⟩)) | (at_builtin; refine wpList_appS (r := [61, 13, 10]) (by rfl) _ _ rfl _ rfl O.out.own rfl rfl (by decide) (by show out.length + 3 ≤ _; omega) O.out.b.size ?_; intro A4 c4 w4 hown hg lies; have hl4 : (out ++ [61, 13, 10]).length = out.length + 3 := (by simp); generalize out ++ [61, 13, 10] = o4 at *; have hr5 := Rd.grown HR3.out hg HNE.out; have hne5 := Rd.off HR3.out t1 HNE.out lies; have T := Lib.hid (O.out.app hg hown); have HR5 := Lib.hid hr5; have HNE5 := Lib.hid hne5; have HL4 := Lib.hid hl4; clear O HR3 HNE hown hg lies hr5 hne5 hl4; have O := T; have HR3 := HR5; have HNE := HNE5; clear T HR5 HNE5) | (at_builtin; refine wpList_appG (f := bv) (l := o4) (r := t) bv1 (by rfl) _ _ 22 rfl i0 (.int .u8 0) 1 Tryd.underlying22 HI0.out HZ0.out HZ1.out HZ2.out rfl rfl O.out.own rfl HR3.out (by have := HL4.out; unfold maxLen; omega) (by have := HL4.out; omega) O.out.b.size ?_; intro A5 c5 w5 hown hg _; have T := Lib.hid (O.out.app hg hown); clear O HR3 HNE hown hg; have O := T; clear T))
            exact ⟨⟨n, i + 1, t.length, o4 ++ t, A5, c5, by simp, by first | rfl | go_num, by go_num, by omega, by omega, by omega, by have := HL4.out; rw [List.length_append]; omega, HF2, O⟩, by simp [intOf]; omega⟩
        · rw [if_neg hov] at hf
          have HF2 := Lib.hid hf
          clear hf
          cases e
          · rw [if_neg (by simp)] at hrm
            subst hrm
            have g1 : (col : Int) + (t.length : Int) ≤ 75 := by omega
            clear hov
            go_wp2_with (first | (go_at_call 91; ((with_reducible refine (HE1.out _ HRL.out).mono ?_); rintro en w' ⟨rfl, rfl⟩)) | (at_builtin; refine wpList_appG (f := bv) (l := out) (r := t) bv1 (by rfl) _ _ 22 rfl i0 (.int .u8 0) 1 Tryd.underlying22 HI0.out HZ0.out HZ1.out HZ2.out rfl rfl O.out.own rfl HR3.out (by unfold maxLen; omega) (by omega) O.out.b.size ?_; intro A5 c5 w5 hown hg _; have T := Lib.hid (O.out.app hg hown); clear O HR3 HNE hown hg; have O := T; clear T))
            exact ⟨⟨n, i + 1, col + t.length, out ++ t, A5, c5, by simp, by first | rfl | go_num, by go_num, by omega, by omega, by omega, by rw [List.length_append]; omega, HF2, O⟩, by simp [intOf]; omega⟩
          · rw [if_pos rfl] at hrm
            subst hrm
            have g1 : (col : Int) + (t.length : Int) ≤ 76 := by omega
            clear hov
            go_wp2_with (first | (go_at_call 91; ((with_reducible refine (HE1.out _ HRL.out).mono ?_); rintro en w' ⟨rfl, rfl⟩)) | (at_builtin; refine wpList_appG (f := bv) (l := out) (r := t) bv1 (by rfl) _ _ 22 rfl i0 (.int .u8 0) 1 Tryd.underlying22 HI0.out HZ0.out HZ1.out HZ2.out rfl rfl O.out.own rfl HR3.out (by unfold maxLen; omega) (by omega) O.out.b.size ?_; intro A5 c5 w5 hown hg _; have T := Lib.hid (O.out.app hg hown); clear O HR3 HNE hown hg; have O := T; clear T))
            exact ⟨⟨n, i + 1, col + t.length, out ++ t, A5, c5, by simp, by first | rfl | go_num, by go_num, by omega, by omega, by omega, by rw [List.length_append]; omega, HF2, O⟩, by simp [intOf]; omega⟩
      · rw [hcr] at hee hf
        rw [if_pos rfl] at hf
        have HEE := Lib.hid hee
        have HF2 := Lib.hid hf
        have hlt2 : i + 1 < l.length := by
          refine Decidable.byContradiction fun h => ?_
          rw [crlf_end (by omega)] at hcr
          cases hcr
        clear hee hcr hf HF HT HE hr2 HR2
        go_wp2_with (first | (go_at_call 91; ((with_reducible refine HEE.out.mono ?_); rintro en w' ⟨rfl, rfl⟩)) | (at_builtin; refine wpList_appG (f := bv) (l := out) (r := [13, 10]) bv1 (by rfl) _ _ 22 rfl i0 (.int .u8 0) 1 Tryd.underlying22 HI0.out HZ0.out HZ1.out HZ2.out rfl rfl (O.out.al _).own rfl (rd_new (r := [13, 10]) (Bk.new _ _ _) rfl) (by show out.length + 2 ≤ _; unfold maxLen; omega) (by show (out.length + 2) * 1 ≤ _; omega) (O.out.al _).b.size ?_; intro A5 c5 w5 hown hg _; have T := Lib.hid ((O.out.al _).app hg hown); clear O HEE hown hg; have O := T; clear T))
        exact ⟨⟨n, i + 2, 0, out ++ [13, 10], A5, c5, by simp, rfl, by go_num, by omega, by omega, by omega, by simp; omega, HF2, O⟩, by simp [intOf]; omega⟩
    · have hf := HF.out
      rw [quoF_end (by omega)] at hf
      have HF2 := Lib.hid hf
      clear HF hf HT HE
      go_wp2
      go_ret
      exact ⟨A2, c2, by rw [← HF2.out]; rfl, by rw [← HF2.out]; exact O.out.rd, by rw [← HF2.out]; exact Fr.own O.out.own (Nat.le_refl _), O.out.b⟩
end Go.Proofs.YtjgohmfmalcjoaaDoor.TrW
