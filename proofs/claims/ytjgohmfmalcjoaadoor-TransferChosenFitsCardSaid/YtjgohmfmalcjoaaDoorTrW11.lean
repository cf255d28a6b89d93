import Derived.Test.YtjgohmfmalcjoaaDoorMc
import Derived.Test.YtjgohmfmalcjoaaDoorTrW10
/- Walks: the reference's quoted text. -/
namespace Go.Proofs.YtjgohmfmalcjoaaDoor.Tr
theorem part_getD {l : List UInt8} {at_ k j : Nat} (h : j < k) : ((l.drop at_).take k).getD j 0 = l.getD (at_ + j) 0 := by
  simp only [List.getD_eq_getElem?_getD, List.getElem?_take_of_lt h, List.getElem?_drop]
theorem eol_part {l : List UInt8} {at_ e j : Nat} (he : e ≤ l.length) (hj : at_ + j < e) (hno : ∀ k, at_ ≤ k → k < e → crlfAt l k = false) (hend : e = l.length ∨ crlfAt l e = true) : eolAt l (at_ + j + 1) = decide (j + 1 = e - at_) := by
  by_cases h : j + 1 = e - at_
  · have e1 : at_ + j + 1 = e := by omega
    rw [e1]
    have : eolAt l e = true := by
      unfold eolAt
      rcases hend with h | h
      · simp [h]
      · simp [h]
    rw [this]; simp [h]
  · have h2 : at_ + j + 1 < e := by omega
    rw [eol_in (by omega), hno _ (by omega) h2]
    simp [h]
end Go.Proofs.YtjgohmfmalcjoaaDoor.Tr
namespace Go.Proofs.YtjgohmfmalcjoaaDoor.TrW
open Go.RowKit Go.Proofs.YtjgohmfmalcjoaaDoor.Base Go.Proofs.YtjgohmfmalcjoaaDoor.Tr
set_option linter.unusedVariables false
set_option linter.unusedSimpArgs false
theorem unit_eq {l : List UInt8} {at_ e j : Nat} (he : e ≤ l.length) (hj : at_ + j < e) (hno : ∀ k, at_ ≤ k → k < e → crlfAt l k = false) (hend : e = l.length ∨ crlfAt l e = true) : (unitsTo ((l.drop at_).take (e - at_)) (e - at_))[j]? = some (tokQ l (at_ + j)) ∧ roomQ l (at_ + j) = if j + 1 = e - at_ then 76 else 75 := by
  have hl : ((l.drop at_).take (e - at_)).length = e - at_ := by simp; omega
  have h1 := eol_part he hj hno hend
  constructor
  · unfold unitsTo tokQ
    rw [List.getElem?_map, List.getElem?_range (by omega)]
    simp only [Option.map_some]
    rw [part_getD (by omega), hl, h1]
  · unfold roomQ
    rw [h1]
    simp
set_option maxHeartbeats 4000000 in
set_option maxRecDepth 20000 in
theorem rquoted_calls (A : Option Addr) (l : List UInt8) (c : Nat) (w : World) (h : Rd w bv A l) (hl : l.length ≤ 100000) (hc : l.length ≤ c) (hc63 : c ≤ 9223372036854775807) (hA : A = none → c = 0) :
    Calls Tryd.prog 22 #[.slice A l.length c] w (GivesBw w (quoL l)) := by
  have hC := fun i hi W (R : Rd W bv A l) => rcrlf_calls A l c i W R (by unfold maxLen; omega) hi
  have hun := fun (at_ e j : Nat) he hj hno hend => unit_eq (l := l) (at_ := at_) (e := e) (j := j) he hj hno hend
  generalize hv : quoL l = v
  have HV := Lib.hid hv
  have HR := Lib.hid h
  have HC := Lib.hid hC
  have HUN := Lib.hid hun
  have hu22 := Tryd.underlying22
  clear hv h hC hun
  go_enter Tryd.func22, Tryd.ntmps22
  go_upto_region 3 with fail
  go_loopw [3, 4] (fun s3 s4 wr => ∃ (n at_ : Nat) (out : List UInt8), s3 = .string ⟨out.toArray⟩ ∧ s4 = .int .i64 at_ ∧ at_ ≤ l.length ∧ l.length ≤ at_ + n ∧ Hid (out.length ≤ 6 * at_) ∧ Hid (quoF l n at_ 0 out = v) ∧ Hid (Below w.heap.size w wr)) (fun _ s4 _ => l.length + 1 - (intOf s4).toNat)
  case atStart => exact ⟨l.length, 0, [], rfl, rfl, by omega, by omega, Lib.hid (by simp), HV, Lib.hid (Below.refl _ _)⟩
  case round =>
    obtain ⟨n, at_, out, rfl, rfl, hat, hn, HO, HF, HB⟩ := hrel
    have i1 : (0 : Int) ≤ (at_ : Int) := by omega
    have i2 : (at_ : Int) ≤ (l.length : Int) := by omega
    go_upto_region 5 with fail
    go_loop [5] (fun s5 => ∃ e : Nat, s5 = .int .i64 e ∧ at_ ≤ e ∧ e ≤ l.length ∧ Hid (∀ k, at_ ≤ k → k < e → crlfAt l k = false)) (fun s5 => l.length - (intOf s5).toNat)
    case atStart => exact ⟨at_, rfl, by omega, by omega, Lib.hid (fun k h1 h2 => by omega)⟩
    case round =>
      obtain ⟨e, rfl, he1, he2, HNO⟩ := hrel
      by_cases hlt : e < l.length ∧ crlfAt l e = false
      · obtain ⟨hlt, hcr⟩ := hlt
        have j1 : (e : Int) < (l.length : Int) := by omega
        have hcc := HC.out e hlt wr (HR.out.bel HB.out)
        rw [hcr] at hcc
        have HCC := Lib.hid hcc
        have HCR := Lib.hid hcr
        clear hcc hcr
        go_wp2_with (go_at_call 37; ((with_reducible refine HCC.out.mono ?_); rintro en w' ⟨rfl, rfl⟩))
        go_round
        case rel => exact ⟨e + 1, by go_num, by omega, by omega, Lib.hid (fun k h1 h2 => by
          rcases Nat.lt_or_ge k e with h3 | h3
          · exact HNO.out k h1 h3
          · have : k = e := by omega
            subst this
            exact HCR.out)⟩
        case measure => simp [intOf]; omega
      · have hend : e = l.length ∨ crlfAt l e = true := by
          rcases tf (crlfAt l e) with h | h
          · left
            refine Decidable.byContradiction fun h2 => hlt ⟨by omega, h⟩
          · exact .inr h
        have HEND := Lib.hid hend
        have e1 : (0 : Int) ≤ (e : Int) := by omega
        have e2 : (e : Int) ≤ (l.length : Int) := by omega
        have e3 : (at_ : Int) ≤ (e : Int) := by omega
        have e4 : (e : Int) ≤ (c : Int) := by omega
        clear hlt hend
        have hline : ((l.drop at_).take (e - at_)).length = e - at_ := by simp; omega
        have hU := fun A2 c2 W R => units_calls A2 ((l.drop at_).take (e - at_)) c2 W R (by rw [hline]; omega)
        have hus := fun j hj => HUN.out at_ e j he2 hj HNO.out HEND.out
        rw [hline] at hU
        have hul : (unitsTo ((l.drop at_).take (e - at_)) (e - at_)).length = e - at_ := unitsTo_len _ _
        generalize unitsTo ((l.drop at_).take (e - at_)) (e - at_) = us at *
        have HU := Lib.hid hU
        have HUS := Lib.hid hus
        have HUL := Lib.hid hul
        clear hU hus hul hline
        by_cases hlt : e < l.length
        · have hcr : crlfAt l e = true := by
            rcases HEND.out with h | h
            · omega
            · exact h
          have hend : e < l.length ∧ crlfAt l e = true := ⟨hlt, hcr⟩
          have hlt3 : e + 1 < l.length := by
            refine Decidable.byContradiction fun h => ?_
            rw [crlf_end (by omega)] at hcr
            cases hcr
          have e5 : (e : Int) < (l.length : Int) := by omega
          have hcc := HC.out e hlt wr (HR.out.bel HB.out)
          rw [hcr] at hcc
          have HCC := Lib.hid hcc
          clear hcc
          have HRP := Lib.hid (rd_part (at_ := at_) (k := e - at_) (HR.out.bel HB.out) hc)
          cases A with
          | none =>
            have hc0 := hA rfl
            subst hc0
            have hl0 : l.length = 0 := by omega
            have ea : at_ = 0 := by omega
            have ee : e = 0 := by omega
            omega
          | some ad =>
            unfold partA at HRP
            dsimp only at HRP
            rw [if_neg (by omega)] at HRP
            go_upto_region 10 with (first | (go_at_call 37; ((with_reducible refine HCC.out.mono ?_); rintro en w' ⟨rfl, rfl⟩)) | (go_at_call 42; ((with_reducible refine (HU.out _ _ _ HRP.out).mono ?_); rintro en wr2 ⟨A3, c3, rfl, hru, hb2⟩)))
            have HRU := Lib.hid hru
            have HB2 := Lib.hid hb2
            clear hru hb2 HRP HU
            go_loop [3, 7, 8] (fun s3 s7 s8 => ∃ (n col i : Nat) (out : List UInt8), s3 = .string ⟨out.toArray⟩ ∧ s7 = .int .i64 col ∧ s8 = .int .i64 i ∧ i ≤ us.length ∧ l.length ≤ at_ + i + n ∧ col ≤ 100 ∧ Hid (out.length ≤ 6 * (at_ + i)) ∧ Hid (quoF l n (at_ + i) col out = v)) (fun _ _ s8 => us.length - (intOf s8).toNat)
            case atStart => exact ⟨n, 0, 0, out, rfl, rfl, rfl, by omega, by omega, by omega, HO, HF⟩
            case round =>
              clear HO HF
              obtain ⟨n, col, i, out, rfl, rfl, rfl, hi, hn, hcol, HO, HF⟩ := hrel
              by_cases hlt : i < us.length
              · have k1 : (0 : Int) ≤ (i : Int) := by omega
                have ho2 : out.length ≤ 600100 := by have := HO.out; have := HUL.out; omega
                have k2 : (i : Int) < (us.length : Int) := by omega
                have hlt' : at_ + i < e := by have := HUL.out; omega
                obtain ⟨n, rfl⟩ : ∃ m, n = m + 1 := ⟨n - 1, by omega⟩
                have hu := HUS.out i (by omega)
                have hcrn := HNO.out (at_ + i) (by omega) (by omega)
                have hf := HF.out
                rw [quoF_at (by omega), if_neg (by rw [hcrn]; simp)] at hf
                have ht := tokC_len (l.getD (at_ + i) 0) (eolAt l (at_ + i + 1))
                change 1 ≤ (tokQ l (at_ + i)).length ∧ (tokQ l (at_ + i)).length ≤ 3 at ht
                obtain ⟨t1, t2⟩ := ht
                obtain ⟨hu1, hu2⟩ := hu
                generalize roomQ l (at_ + i) = rm at *
                generalize tokQ l (at_ + i) = t at *
                obtain ⟨ad2, hA2, _, hcell⟩ := HRU.out (by have := HUL.out; omega)
                have ck := hcell i t hu1
                subst hA2
                obtain ⟨sx, hsx⟩ : ∃ sx : ByteArray, sx = ⟨t.toArray⟩ := ⟨_, rfl⟩
                have hsz : sx.size = t.length := by rw [hsx]; rfl
                unfold uv at ck
                rw [← hsx] at ck
                rw [← hsz] at hf t1 t2
                have HSX := Lib.hid hsx
                have HSZ := Lib.hid hsz
                clear HF hcrn hu1 hcell hsx hsz
                have ei : at_ + i + 1 = at_ + (i + 1) := by omega
                rw [ei] at hf
                clear ei
                have b1 : ¬ 9223372036854775807 < out.length + 3 := by omega
                have b2 : ¬ 9223372036854775807 < out.length + 3 + sx.size := by omega
                have b3 : ¬ 9223372036854775807 < out.length + sx.size := by omega
                by_cases hlast : i + 1 = e - at_
                · rw [if_pos hlast] at hu2
                  subst hu2
                  have k3 : ((i : Int) + 1 == (us.length : Int)) = true := by have := HUL.out; simp; omega
                  by_cases hov : 76 < col + sx.size
                  · rw [if_pos hov] at hf
                    have g1 : (76 : Int) < (col : Int) + (sx.size : Int) := by omega
                    have HF2 := Lib.hid hf
                    clear hf hov
                    go_wp2
                    go_round
                    case rel => exact ⟨n, sx.size, i + 1, out ++ [61, 13, 10] ++ t, by rw [HSX.out, ← bapp, ← bapp], by go_num, by go_num, by omega, by omega, by omega, Lib.hid (by have := HO.out; have := HSZ.out; rw [List.length_append, List.length_append]; simp; omega), HF2⟩
                    case measure => simp [intOf]; omega
                  · rw [if_neg hov] at hf
                    have g1 : (col : Int) + (sx.size : Int) ≤ 76 := by omega
                    have HF2 := Lib.hid hf
                    clear hf hov
                    go_wp2
                    go_round
                    case rel => exact ⟨n, col + sx.size, i + 1, out ++ t, by rw [HSX.out, ← bapp], by go_num, by go_num, by omega, by omega, by omega, Lib.hid (by have := HO.out; have := HSZ.out; rw [List.length_append]; omega), HF2⟩
                    case measure => simp [intOf]; omega
                · rw [if_neg hlast] at hu2
                  subst hu2
                  have k3 : ((i : Int) + 1 == (us.length : Int)) = false := by have := HUL.out; simp; omega
                  by_cases hov : 75 < col + sx.size
                  · rw [if_pos hov] at hf
                    have g1 : (75 : Int) < (col : Int) + (sx.size : Int) := by omega
                    have HF2 := Lib.hid hf
                    clear hf hov
                    go_wp2
                    go_round
                    case rel => exact ⟨n, sx.size, i + 1, out ++ [61, 13, 10] ++ t, by rw [HSX.out, ← bapp, ← bapp], by go_num, by go_num, by omega, by omega, by omega, Lib.hid (by have := HO.out; have := HSZ.out; rw [List.length_append, List.length_append]; simp; omega), HF2⟩
                    case measure => simp [intOf]; omega
                  · rw [if_neg hov] at hf
                    have g1 : (col : Int) + (sx.size : Int) ≤ 75 := by omega
                    have HF2 := Lib.hid hf
                    clear hf hov
                    go_wp2
                    go_round
                    case rel => exact ⟨n, col + sx.size, i + 1, out ++ t, by rw [HSX.out, ← bapp], by go_num, by go_num, by omega, by omega, by omega, Lib.hid (by have := HO.out; have := HSZ.out; rw [List.length_append]; omega), HF2⟩
                    case measure => simp [intOf]; omega
              · have hie : i = e - at_ := by have := HUL.out; omega
                have hge : us.length ≤ i := by omega
                have hge' : (us.length : Int) ≤ (i : Int) := by omega
                clear hge
                have e7 : at_ + i = e := by omega
                clear hie
                have hf := HF.out
                have ho := HO.out
                rw [e7] at hf ho hn
                have ho2 : out.length ≤ 600100 := by omega
                have b1 : ¬ 9223372036854775807 < out.length + 2 := by omega
                have HO2 := Lib.hid ho
                clear HF HO ho
                obtain ⟨n, rfl⟩ : ∃ m, n = m + 1 := ⟨n - 1, by omega⟩
                rw [quoF_at (by omega), if_pos hend.2] at hf
                have HF2 := Lib.hid hf
                have q : ((e : Int) == (l.length : Int)) = false := by simp; omega
                clear hf
                go_wp2
                exact ⟨⟨n, e + 2, out ++ [13, 10], by rw [← bapp], by go_num, by omega, by omega, Lib.hid (by have := HO2.out; simp; omega), HF2, Lib.hid (below_go HB.out HB2.out)⟩, by simp [intOf]; omega⟩
        · obtain rfl : e = l.length := by omega
          clear hlt
          have HRP := Lib.hid (rd_part (at_ := at_) (k := l.length - at_) (HR.out.bel HB.out) hc)
          cases A with
          | none =>
            have hc0 := hA rfl
            subst hc0
            have hl0 : l.length = 0 := by omega
            have ea : at_ = 0 := by omega
            subst ea
            obtain rfl : l = [] := List.eq_nil_of_length_eq_zero hl0
            have hus0 : us = [] := List.eq_nil_of_length_eq_zero (by have := HUL.out; simpa using this)
            subst hus0
            have hu0 : Calls Tryd.prog 42 #[.slice none 0 0] wr (GivesU wr []) := HU.out none 0 wr Rd.nil
            have HU0 := Lib.hid hu0
            clear hu0 HU HUS HUL HUN HRP
            go_upto_region 10 with ((go_at_call 42; ((with_reducible refine HU0.out.mono ?_); rintro en wr2 ⟨A3, c3, rfl, hru, hb2⟩)))
            have HB2 := Lib.hid hb2
            have hf := HF.out
            rw [quoF_end (by simp)] at hf
            clear hru hb2 HF
            subst hf
            obtain ⟨cap, W3, hcv, hb3, hr3⟩ := bytes_of' out wr2
            go_loop [3, 8] (fun s3 s8 => s3 = .string ⟨out.toArray⟩ ∧ s8 = .int .i64 0) (fun _ _ => 0)
            case atStart => exact ⟨rfl, rfl⟩
            case round =>
              obtain ⟨rfl, rfl⟩ := hrel
              have z1 : (([] : List (List UInt8)).length : Int) = 0 := rfl
              have z2 : (([] : List UInt8).length : Int) = 0 := rfl
              have z3 : ((0 : Nat) : Int) = 0 := rfl
              go_wp2
              go_ret
              exact ⟨_, cap, rfl, hr3, fun ad h => by injection h with h; subst h; exact Nat.le_trans HB.out.size HB2.out.size, below_go (below_go HB.out HB2.out) hb3⟩
          | some ad =>
            unfold partA at HRP
            dsimp only at HRP
            obtain ⟨X, hX⟩ : ∃ X, (if c = at_ then some ad else some (ad.add at_)) = X := ⟨_, rfl⟩
            rw [hX] at HRP
            go_upto_region 10 with ((go_at_call 42; ((with_reducible refine (HU.out _ _ _ HRP.out).mono ?_); rintro en wr2 ⟨A3, c3, rfl, hru, hb2⟩)))
            have HRU := Lib.hid hru
            have HB2 := Lib.hid hb2
            clear hru hb2 HRP HU
            go_loop [3, 7, 8] (fun s3 s7 s8 => ∃ (n col i : Nat) (out : List UInt8), s3 = .string ⟨out.toArray⟩ ∧ s7 = .int .i64 col ∧ s8 = .int .i64 i ∧ i ≤ us.length ∧ l.length ≤ at_ + i + n ∧ col ≤ 100 ∧ Hid (out.length ≤ 6 * (at_ + i)) ∧ Hid (quoF l n (at_ + i) col out = v)) (fun _ _ s8 => us.length - (intOf s8).toNat)
            case atStart => exact ⟨n, 0, 0, out, rfl, rfl, rfl, by omega, by omega, by omega, HO, HF⟩
            case round =>
              clear HO HF
              obtain ⟨n, col, i, out, rfl, rfl, rfl, hi, hn, hcol, HO, HF⟩ := hrel
              by_cases hlt : i < us.length
              · have k1 : (0 : Int) ≤ (i : Int) := by omega
                have ho2 : out.length ≤ 600100 := by have := HO.out; have := HUL.out; omega
                have k2 : (i : Int) < (us.length : Int) := by omega
                have hlt' : at_ + i < l.length := by have := HUL.out; omega
                obtain ⟨n, rfl⟩ : ∃ m, n = m + 1 := ⟨n - 1, by omega⟩
                have hu := HUS.out i (by omega)
                have hcrn := HNO.out (at_ + i) (by omega) (by omega)
                have hf := HF.out
                rw [quoF_at (by omega), if_neg (by rw [hcrn]; simp)] at hf
                have ht := tokC_len (l.getD (at_ + i) 0) (eolAt l (at_ + i + 1))
                change 1 ≤ (tokQ l (at_ + i)).length ∧ (tokQ l (at_ + i)).length ≤ 3 at ht
                obtain ⟨t1, t2⟩ := ht
                obtain ⟨hu1, hu2⟩ := hu
                generalize roomQ l (at_ + i) = rm at *
                generalize tokQ l (at_ + i) = t at *
                obtain ⟨ad2, hA2, _, hcell⟩ := HRU.out (by have := HUL.out; omega)
                have ck := hcell i t hu1
                subst hA2
                obtain ⟨sx, hsx⟩ : ∃ sx : ByteArray, sx = ⟨t.toArray⟩ := ⟨_, rfl⟩
                have hsz : sx.size = t.length := by rw [hsx]; rfl
                unfold uv at ck
                rw [← hsx] at ck
                rw [← hsz] at hf t1 t2
                have HSX := Lib.hid hsx
                have HSZ := Lib.hid hsz
                clear HF hcrn hu1 hcell hsx hsz
                have ei : at_ + i + 1 = at_ + (i + 1) := by omega
                rw [ei] at hf
                clear ei
                have b1 : ¬ 9223372036854775807 < out.length + 3 := by omega
                have b2 : ¬ 9223372036854775807 < out.length + 3 + sx.size := by omega
                have b3 : ¬ 9223372036854775807 < out.length + sx.size := by omega
                by_cases hlast : i + 1 = l.length - at_
                · rw [if_pos hlast] at hu2
                  subst hu2
                  have k3 : ((i : Int) + 1 == (us.length : Int)) = true := by have := HUL.out; simp; omega
                  by_cases hov : 76 < col + sx.size
                  · rw [if_pos hov] at hf
                    have g1 : (76 : Int) < (col : Int) + (sx.size : Int) := by omega
                    have HF2 := Lib.hid hf
                    clear hf hov
                    go_wp2
                    go_round
                    case rel => exact ⟨n, sx.size, i + 1, out ++ [61, 13, 10] ++ t, by rw [HSX.out, ← bapp, ← bapp], by go_num, by go_num, by omega, by omega, by omega, Lib.hid (by have := HO.out; have := HSZ.out; rw [List.length_append, List.length_append]; simp; omega), HF2⟩
                    case measure => simp [intOf]; omega
                  · rw [if_neg hov] at hf
                    have g1 : (col : Int) + (sx.size : Int) ≤ 76 := by omega
                    have HF2 := Lib.hid hf
                    clear hf hov
                    go_wp2
                    go_round
                    case rel => exact ⟨n, col + sx.size, i + 1, out ++ t, by rw [HSX.out, ← bapp], by go_num, by go_num, by omega, by omega, by omega, Lib.hid (by have := HO.out; have := HSZ.out; rw [List.length_append]; omega), HF2⟩
                    case measure => simp [intOf]; omega
                · rw [if_neg hlast] at hu2
                  subst hu2
                  have k3 : ((i : Int) + 1 == (us.length : Int)) = false := by have := HUL.out; simp; omega
                  by_cases hov : 75 < col + sx.size
                  · rw [if_pos hov] at hf
                    have g1 : (75 : Int) < (col : Int) + (sx.size : Int) := by omega
                    have HF2 := Lib.hid hf
                    clear hf hov
                    go_wp2
                    go_round
                    case rel => exact ⟨n, sx.size, i + 1, out ++ [61, 13, 10] ++ t, by rw [HSX.out, ← bapp, ← bapp], by go_num, by go_num, by omega, by omega, by omega, Lib.hid (by have := HO.out; have := HSZ.out; rw [List.length_append, List.length_append]; simp; omega), HF2⟩
                    case measure => simp [intOf]; omega
                  · rw [if_neg hov] at hf
                    have g1 : (col : Int) + (sx.size : Int) ≤ 75 := by omega
                    have HF2 := Lib.hid hf
                    clear hf hov
                    go_wp2
                    go_round
                    case rel => exact ⟨n, col + sx.size, i + 1, out ++ t, by rw [HSX.out, ← bapp], by go_num, by go_num, by omega, by omega, by omega, Lib.hid (by have := HO.out; have := HSZ.out; rw [List.length_append]; omega), HF2⟩
                    case measure => simp [intOf]; omega
              · have hie : i = l.length - at_ := by have := HUL.out; omega
                have hge : us.length ≤ i := by omega
                have hge' : (us.length : Int) ≤ (i : Int) := by omega
                clear hge
                have e7 : at_ + i = l.length := by omega
                clear hie
                have hf := HF.out
                have ho := HO.out
                rw [e7] at hf ho hn
                have ho2 : out.length ≤ 600100 := by omega
                have b1 : ¬ 9223372036854775807 < out.length + 2 := by omega
                have HO2 := Lib.hid ho
                clear HF HO ho
                rw [quoF_end (by omega)] at hf
                subst hf
                obtain ⟨cap, W3, hcv, hb3, hr3⟩ := bytes_of' out wr2
                go_wp2
                go_ret
                exact ⟨_, cap, rfl, hr3, fun ad h => by injection h with h; subst h; exact Nat.le_trans HB.out.size HB2.out.size, below_go (below_go HB.out HB2.out) hb3⟩
end Go.Proofs.YtjgohmfmalcjoaaDoor.TrW
