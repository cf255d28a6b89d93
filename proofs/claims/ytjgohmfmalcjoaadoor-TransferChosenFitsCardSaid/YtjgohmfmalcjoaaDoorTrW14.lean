import Derived.Test.YtjgohmfmalcjoaaDoorMc
import Derived.Test.YtjgohmfmalcjoaaDoorTrW13
import Derived.Deep.AppendLies
import Derived.Deep.RegionHeld3
import Derived.Deep.RegionWith
import Derived.Laws.BitsLemmas
/- Walks: quoted.line. -/
namespace Go.Proofs.YtjgohmfmalcjoaaDoor.TrW
open Go.RowKit Go.Proofs.YtjgohmfmalcjoaaDoor.Base Go.Proofs.YtjgohmfmalcjoaaDoor.Tr
set_option linter.unusedVariables false
set_option linter.unusedSimpArgs false
/-- the call hands back a list of bytes of its own, and a bool. -/
def GivesBB (w : World) (l : List UInt8) (b : Bool) (e : Ending) (w' : World) : Prop := ∃ A c, e = .returned (.tuple #[.slice A l.length c, .bool b]) ∧ Rd w' bv A l ∧ Fr w A l.length c ∧ Below w.heap.size w w'
set_option maxHeartbeats 1000000 in
set_option maxRecDepth 20000 in
theorem line_calls (A : Option Addr) (l : List UInt8) (c : Nat) (w : World) (h : Rd w bv A l) (hl : l.length ≤ 100000) (hc : l.length ≤ c) (hc63 : c ≤ 9223372036854775807) :
    Calls Tryd.prog 137 #[.slice A l.length c] w (GivesBB w (lineF l) (lineS l)) := by
  have hT := trim_calls A l c w h hc hc63
  have hB : lineB l = if lineS l = true then (lineT l).take ((lineT l).length - 1) else lineT l := rfl
  have hS : lineS l = (decide (0 < (lineT l).length) && decide (((lineT l).getD ((lineT l).length - 1) 0).toNat = 61)) := rfl
  have hF : lineF l = unqF (lineB l) (lineB l).length 0 [] := rfl
  have hRt : Rd w bv A (lineT l) := by rw [show lineT l = l.take (lineT l).length from trim_take l [32, 9]]; exact h.take _
  have htl : (lineT l).length ≤ 100000 := Nat.le_trans (trim_len l [32, 9]) hl
  have htc : (lineT l).length ≤ c := Nat.le_trans (trim_len l [32, 9]) hc
  generalize lineT l = t at *
  generalize lineF l = v at *
  generalize lineS l = sf at *
  generalize lineB l = u at *
  have HT := Lib.hid hT
  have HRT := Lib.hid hRt
  have HF := Lib.hid hF
  obtain ⟨i0, hi0, hz0, hz1, hz2⟩ := info_parts info8
  have HI0 := Lib.hid hi0
  have HZ0 := Lib.hid hz0
  have HZ1 := Lib.hid hz1
  have HZ2 := Lib.hid hz2
  clear hi0 hz0 hz1 hz2 hT h hRt hF
  by_cases ht : 0 < t.length
  · obtain ⟨k, hk⟩ : ∃ k, t.length = k + 1 := ⟨t.length - 1, by omega⟩
    have ek : (t.length : Int) - 1 = (k : Int) := by omega
    have e0 : (0 : Int) ≤ (k : Int) := by omega
    have e1 : (k : Int) < (t.length : Int) := by omega
    have e2 : (0 : Int) < (t.length : Int) := by omega
    have e3 : (k : Int) ≤ (c : Int) := by omega
    obtain ⟨ad, hA, hre⟩ := rd_all HRT.out (show k < t.length by omega)
    subst hA
    have hgk : t.getD (t.length - 1) 0 = t[k] := by simp [List.getD, hk]
    rw [hgk] at hS
    generalize hx : t[k] = x at *
    by_cases h61 : x.toNat = 61
    · have q61 : ((x.toNat : Int) == 61) = true := by simp; omega
      have hs : sf = true := by rw [hS]; simp [ht, h61]
      rw [if_pos hs] at hB
      have hB2 : u = t.take k := by rw [hB, hk]; rfl
      have hul : u.length = k := by rw [hB2, List.length_take]; omega
      have hRe : ∀ W, Below w.heap.size w W → W.cell? (ad.add k) = some (bv x) := fun W hb => by rw [hre W hb k (by omega), hx]
      have HRE := Lib.hid hRe
      subst hs
      clear hS hB hre hx hRe hgk
      go_enter Tryd.func137, Tryd.ntmps137
      go_upto_region 7 with (go_at_call 149; ((with_reducible refine HT.out.mono ?_); rintro e w1 ⟨rfl, hb1⟩; have HB1 := Lib.hid hb1; have HRT1 := Lib.hid (HRT.out.bel hb1); clear hb1 HRT HT; have hre1 := HRE.out _ HB1.out; clear HRE))
      have HRU := Lib.hid (Rd.take HRT1.out k)
      rw [← hB2] at HRU
      clear HRT1 hB2 hre1
      have hul2 : u.length ≤ 100000 := by omega
      have huk : k = u.length := hul.symm
      clear hul
      subst huk
      go_loopw [5, 6] (fun s5 s6 wr => ∃ (n i : Nat) (out : List UInt8) (A2 : Option Addr) (c2 : Nat), s5 = .slice A2 out.length c2 ∧ s6 = .int .i64 i ∧ i ≤ u.length ∧ Hid (u.length ≤ i + n) ∧ Hid (out.length ≤ i) ∧ Hid (unqF u n i out = v) ∧ Hid (Ow bv 5 w1 wr out A2 c2)) (fun _ s6 _ => u.length - (intOf s6).toNat)
      case atStart => exact ⟨u.length, 0, [], none, 0, rfl, rfl, by omega, Lib.hid (by omega), Lib.hid (by simp), Lib.hid HF.out.symm, Lib.hid (Ow.nil w1)⟩
      case round =>
        clear HF
        obtain ⟨n, i, out, A2, c2, rfl, rfl, hi, HN, HO, HF, O⟩ := hrel
        by_cases hlt : i < u.length
        · have i1 : (0 : Int) ≤ (i : Int) := by omega
          have i2 : (i : Int) < (u.length : Int) := by omega
          have hn := HN.out
          obtain ⟨n, rfl⟩ : ∃ m, n = m + 1 := ⟨n - 1, by omega⟩
          have hf := HF.out
          rw [unqF_at hlt] at hf
          obtain ⟨ad, hA, hre⟩ := rd_all HRU.out hlt
          cases hA
          have hgd : u.getD i 0 = u[i] := by simp [List.getD, List.getElem?_eq_getElem hlt]
          have hes : escAt u i = (decide ((u.getD i 0).toNat = 61) && decide (i + 2 < u.length) && decide (0 ≤ hexV (u.getD (i + 1) 0)) && decide (0 ≤ hexV (u.getD (i + 2) 0))) := rfl
          have heb : escB u i = UInt8.ofNat (16 * hexV (u.getD (i + 1) 0) + hexV (u.getD (i + 2) 0)).toNat := rfl
          rw [hgd] at hes hf
          have hr0 : ∀ W, Below w1.heap.size w1 W → W.cell? (ad.add i) = some (bv u[i]) := fun W hb => hre W hb i hlt
          have HR0 := Lib.hid hr0
          generalize u[i] = x at *
          clear hgd hr0 HF
          by_cases hesc : x.toNat = 61 ∧ i + 2 < u.length
          · obtain ⟨h61, hlt2⟩ := hesc
            have q1 : ((x.toNat : Int) == 61) = true := by simp; omega
            have i3 : (i : Int) + 2 < (u.length : Int) := by omega
            have i4 : (i : Int) + 1 < (u.length : Int) := by omega
            have hg1 : u.getD (i + 1) 0 = u[i + 1] := by simp [List.getD, List.getElem?_eq_getElem (show i + 1 < u.length by omega)]
            have hg2 : u.getD (i + 2) 0 = u[i + 2] := by simp [List.getD, List.getElem?_eq_getElem hlt2]
            rw [hg1, hg2] at hes heb
            have hr1 : ∀ W, Below w1.heap.size w1 W → W.cell? ⟨ad.block, ad.off + (i + 1), none⟩ = some (bv u[i + 1]) := fun W hb => by rw [← add_succ]; exact hre W hb (i + 1) (by omega)
            have hr2 : ∀ W, Below w1.heap.size w1 W → W.cell? ⟨ad.block, ad.off + (i + 2), none⟩ = some (bv u[i + 2]) := fun W hb => by rw [← add_succ ad (i + 1)]; exact hre W hb (i + 2) hlt2
            have HR1 := Lib.hid hr1
            have HR2 := Lib.hid hr2
            have hbd1 := hexV_bd u[i + 1]
            have hbd2 := hexV_bd u[i + 2]
            have hx1 := fun W => hex_calls u[i + 1] W
            have hx2 := fun W => hex_calls u[i + 2] W
            generalize u[i + 1] = y1 at *
            generalize u[i + 2] = y2 at *
            generalize hexV y1 = v1 at *
            generalize hexV y2 = v2 at *
            have HX1 := Lib.hid hx1
            have HX2 := Lib.hid hx2
            clear hg1 hg2 hr1 hr2 hx1 hx2 hre
            have c0 := HR0.out _ O.out.b
            have c1 := HR1.out _ O.out.b
            have c2' := HR2.out _ O.out.b
            by_cases hv : 0 ≤ v1 ∧ 0 ≤ v2
            · obtain ⟨g1, g2⟩ := hv
              have hb0 : escAt u i = true := by rw [hes]; simp [h61, hlt2, g1, g2]
              rw [if_pos hb0] at hf
              rw [heb] at hf
              have HF2 := Lib.hid hf
              clear hf hes heb hb0 h61
              go_upto_region 10 with (first | (go_at_call 150; ((with_reducible refine (HX1.out _).mono ?_); rintro e wr2 ⟨rfl, hb2⟩; have T := Lib.hid (O.out.bel hb2); clear O hb2 c0 c1 c2'; have O := T; clear T; have c0 := HR0.out _ O.out.b; have c1 := HR1.out _ O.out.b; have c2' := HR2.out _ O.out.b)) | (go_at_call 150; ((with_reducible refine (HX2.out _).mono ?_); rintro e wr2 ⟨rfl, hb2⟩; have T := Lib.hid (O.out.bel hb2); clear O hb2 c0 c1 c2'; have O := T; clear T; have c0 := HR0.out _ O.out.b; have c1 := HR1.out _ O.out.b; have c2' := HR2.out _ O.out.b)))
              have hor : bits .or .i64 (v1 * 16) v2 = v1 * 16 + v2 := bits_join .i64 63 (by decide) (fun n h0 h1 => i64_id (by omega)) 4 (v1 * 16) v2 (by omega) (by omega) (by omega) g2 (by omega) (by omega)
              have hval : IntKind.u8.wrap (bits .or .i64 (IntKind.i64.wrap (v1 * 16)) v2) = v1 * 16 + v2 := by rw [i64_id (by omega), hor, IntKind.wrap_u8]; omega
              have HVAL := Lib.hid hval
              clear hval hor
              have hnb : ((UInt8.ofNat (16 * v1 + v2).toNat).toNat : Int) = v1 * 16 + v2 := by simp; omega
              go_cut [5] (fun s5 wx => ∃ (A5 : Option Addr) (c5 : Nat), s5 = .slice A5 (out ++ [UInt8.ofNat (16 * v1 + v2).toNat]).length c5 ∧ Hid (Ow bv 5 w1 wx (out ++ [UInt8.ofNat (16 * v1 + v2).toNat]) A5 c5))
              case first =>
                clear c0 c1 c2'
                have ho := HO.out
                have hw1 : IntKind.i64.wrap ((i : Int) + 1) = (i : Int) + 1 := i64_id (by omega)
                have hw2 : IntKind.i64.wrap ((i : Int) + 2) = (i : Int) + 2 := i64_id (by omega)
                have ht1 : ((i : Int) + 1).toNat = i + 1 := by omega
                have ht2 : ((i : Int) + 2).toNat = i + 2 := by omega
                have ht3 : (0 : Int) ≤ (i : Int) + 1 := by omega
                have ht4 : (0 : Int) ≤ (i : Int) + 2 := by omega
                go_region_held3 (fun w' => w'.cell? ⟨ad.block, ad.off + (i + 1), none⟩ = some (bv y1) ∧ w'.cell? ⟨ad.block, ad.off + (i + 2), none⟩ = some (bv y2)) (first | exact ⟨HR1.out _ hb9.out, HR2.out _ hb9.out⟩ | exact ⟨HR1.out _ (by with_reducible repeat (first | exact O.out.b | refine below_drew1 ?_ | refine below_al ?_ _)), HR2.out _ (by with_reducible repeat (first | exact O.out.b | refine below_drew1 ?_ | refine below_al ?_ _))⟩) ((first | (go_at_call 150; ((with_reducible refine (HX1.out _).mono ?_); rintro e wr3 ⟨rfl, hb3⟩; have T : Hid (Ow bv 5 w1 wr3 out A2 c2) := (by first | exact Lib.hid (O.out.bel hb3) | exact Lib.hid (O.out.dr.bel hb3)); clear O hb3; have O := T; clear T)) | (go_at_call 150; ((with_reducible refine (HX2.out _).mono ?_); rintro e wr3 ⟨rfl, hb3⟩; have T : Hid (Ow bv 5 w1 wr3 out A2 c2) := (by first | exact Lib.hid (O.out.bel hb3) | exact Lib.hid (O.out.dr.bel hb3)); clear O hb3; have O := T; clear T)) | (refine step_append_lies _ (by rfl) _ _ 22 (by rfl) w1.heap.size 5 i0 (.int .u8 0) 1 1 Tryd.underlying22 HI0.out HZ0.out HZ1.out HZ2.out rfl (by omega) (.slice A2 out.length c2) out.length (out.map bv) (by rfl) (O.out.al _).own _ 1 1 [.int .u8 (IntKind.u8.wrap (bits .or .i64 (IntKind.i64.wrap (v1 * 16)) v2))] (by rfl) rfl (cell_one_new _ _ _) (fun u hu => by simp at hu; subst hu; rfl) (by omega) (by unfold maxLen; omega) (by omega) (O.out.al _).b.size _ rfl ?_; intro g cap w9 hown hgrow hat hlt9; have hb9 := Lib.hid (below_grown (O.out.al _).b hgrow (O.out.al _).own (Nat.le_refl _)))))
                all_goals
                  go_wp2_with fail
                  go_meet
                  rw [HVAL.out] at hown
                  have hown2 : w9.ownsRow w1.heap.size 5 1 (.slice (some ⟨g, 0, none⟩) (out ++ [UInt8.ofNat (16 * v1 + v2).toNat]).length cap) (out ++ [UInt8.ofNat (16 * v1 + v2).toNat]).length ((out ++ [UInt8.ofNat (16 * v1 + v2).toNat]).map bv) := by
                    rw [List.length_append, List.map_append]
                    unfold bv at *
                    simp only [List.map_cons, List.map_nil, hnb, List.length_singleton]
                    exact hown
                  exact ⟨_, cap, by rw [List.length_append]; rfl, Lib.hid ⟨hown2, hb9.out⟩⟩
              case rest =>
                obtain ⟨A5, c5, rfl, O5⟩ := hcut
                clear O c0 c1 c2'
                go_wp2
                exact ⟨⟨n, i + 3, _, A5, c5, rfl, by go_num, by omega, Lib.hid (by have := HN.out; omega), Lib.hid (by have := HO.out; simp; omega), HF2, O5⟩, by simp [intOf]; omega⟩
            · have hb0 : escAt u i = false := by
                rw [hes]
                simp only [Bool.and_eq_false_iff, decide_eq_false_iff_not]
                by_cases h : 0 ≤ v1
                · exact .inr (fun h2 => hv ⟨h, h2⟩)
                · exact .inl (.inr h)
              rw [if_neg (by rw [hb0]; simp)] at hf
              have HF2 := Lib.hid hf
              have hvv : v1 < 0 ∨ (0 ≤ v1 ∧ v2 < 0) := by omega
              clear hf hes heb hb0 h61 hv
              rcases hvv with g1 | ⟨g1, g2⟩
              all_goals
                go_wp2_with (first | (go_at_call 150; ((with_reducible refine (HX1.out _).mono ?_); rintro e wr2 ⟨rfl, hb2⟩; have T := Lib.hid (O.out.bel hb2); clear O hb2 c0 c1 c2'; have O := T; clear T; have c0 := HR0.out _ O.out.b; have c1 := HR1.out _ O.out.b; have c2' := HR2.out _ O.out.b)) | (go_at_call 150; ((with_reducible refine (HX2.out _).mono ?_); rintro e wr2 ⟨rfl, hb2⟩; have T := Lib.hid (O.out.bel hb2); clear O hb2 c0 c1 c2'; have O := T; clear T; have c0 := HR0.out _ O.out.b; have c1 := HR1.out _ O.out.b; have c2' := HR2.out _ O.out.b)) | (at_builtin; refine wpList_appG (f := bv) (l := out) (r := [x]) bv1 (by rfl) _ _ 22 rfl i0 (.int .u8 0) 1 Tryd.underlying22 HI0.out HZ0.out HZ1.out HZ2.out rfl rfl (O.out.al _).own rfl (rd_new (r := [x]) (Bk.new _ _ _) rfl) (by show out.length + 1 ≤ _; have := HO.out; unfold maxLen; omega) (by show (out.length + 1) * 1 ≤ _; have := HO.out; omega) (O.out.al _).b.size ?_; intro A5 c5 w5 hown hg _; have T := Lib.hid ((O.out.al _).app hg hown); clear O c0 c1 c2' hown hg; have O := T; clear T))
                exact ⟨⟨n, i + 1, out ++ [x], A5, c5, by simp, by go_num, by omega, Lib.hid (by have := HN.out; omega), Lib.hid (by have := HO.out; simp; omega), HF2, O⟩, by simp [intOf]; omega⟩
          · have hb0 : escAt u i = false := by
              rw [hes]
              simp only [Bool.and_eq_false_iff, decide_eq_false_iff_not]
              by_cases h : x.toNat = 61
              · exact .inl (.inl (.inr (fun h2 => hesc ⟨h, h2⟩)))
              · exact .inl (.inl (.inl h))
            rw [if_neg (by rw [hb0]; simp)] at hf
            have HF2 := Lib.hid hf
            have hvv : ((x.toNat : Int) == 61) = false ∨ (((x.toNat : Int) == 61) = true ∧ (u.length : Int) ≤ (i : Int) + 2) := by
              by_cases h : x.toNat = 61
              · right; refine ⟨by simp; omega, ?_⟩
                have : ¬ (i + 2 < u.length) := fun h2 => hesc ⟨h, h2⟩
                omega
              · left; simp; omega
            have c0 := HR0.out _ O.out.b
            clear hf hes heb hb0 hesc hre
            rcases hvv with g1 | ⟨g1, g2⟩
            all_goals
              go_wp2_with (at_builtin; refine wpList_appG (f := bv) (l := out) (r := [x]) bv1 (by rfl) _ _ 22 rfl i0 (.int .u8 0) 1 Tryd.underlying22 HI0.out HZ0.out HZ1.out HZ2.out rfl rfl (O.out.al _).own rfl (rd_new (r := [x]) (Bk.new _ _ _) rfl) (by show out.length + 1 ≤ _; have := HO.out; unfold maxLen; omega) (by show (out.length + 1) * 1 ≤ _; have := HO.out; omega) (O.out.al _).b.size ?_; intro A5 c5 w5 hown hg _; have T := Lib.hid ((O.out.al _).app hg hown); clear O c0 hown hg; have O := T; clear T)
              exact ⟨⟨n, i + 1, out ++ [x], A5, c5, by simp, by go_num, by omega, Lib.hid (by have := HN.out; omega), Lib.hid (by have := HO.out; simp; omega), HF2, O⟩, by simp [intOf]; omega⟩
        · have hf := HF.out
          rw [unqF_end (by omega)] at hf
          have HF2 := Lib.hid hf
          clear HF hf
          go_wp2
          exact bodyPost_ret (res_tt Tryd.results137) rfl ⟨A2, c2, by rw [← HF2.out]; rfl, by rw [← HF2.out]; exact O.out.rd, by rw [← HF2.out]; exact (Fr.own O.out.own (Nat.le_refl _)).up HB1.out.size, below_go HB1.out O.out.b⟩
    · have q61 : ((x.toNat : Int) == 61) = false := by simp; omega
      have hs : sf = false := by rw [hS]; simp [ht, h61]
      rw [if_neg (by rw [hs]; simp)] at hB
      have hRe : ∀ W, Below w.heap.size w W → W.cell? (ad.add k) = some (bv x) := fun W hb => by rw [hre W hb k (by omega), hx]
      have HRE := Lib.hid hRe
      subst hs
      subst hB
      clear hS hre hx hRe hgk
      go_enter Tryd.func137, Tryd.ntmps137
      go_upto_region 7 with (go_at_call 149; ((with_reducible refine HT.out.mono ?_); rintro e w1 ⟨rfl, hb1⟩; have HB1 := Lib.hid hb1; have HRT1 := Lib.hid (HRT.out.bel hb1); clear hb1 HRT HT; have hre1 := HRE.out _ HB1.out; clear HRE))
      have HRU := HRT1
      clear HRT1 hre1
      have hul2 := htl
      clear ek e0 e1 e2 e3 q61
      go_loopw [5, 6] (fun s5 s6 wr => ∃ (n i : Nat) (out : List UInt8) (A2 : Option Addr) (c2 : Nat), s5 = .slice A2 out.length c2 ∧ s6 = .int .i64 i ∧ i ≤ u.length ∧ Hid (u.length ≤ i + n) ∧ Hid (out.length ≤ i) ∧ Hid (unqF u n i out = v) ∧ Hid (Ow bv 5 w1 wr out A2 c2)) (fun _ s6 _ => u.length - (intOf s6).toNat)
      case atStart => exact ⟨u.length, 0, [], none, 0, rfl, rfl, by omega, Lib.hid (by omega), Lib.hid (by simp), Lib.hid HF.out.symm, Lib.hid (Ow.nil w1)⟩
      case round =>
        clear HF
        obtain ⟨n, i, out, A2, c2, rfl, rfl, hi, HN, HO, HF, O⟩ := hrel
        by_cases hlt : i < u.length
        · have i1 : (0 : Int) ≤ (i : Int) := by omega
          have i2 : (i : Int) < (u.length : Int) := by omega
          have hn := HN.out
          obtain ⟨n, rfl⟩ : ∃ m, n = m + 1 := ⟨n - 1, by omega⟩
          have hf := HF.out
          rw [unqF_at hlt] at hf
          obtain ⟨ad, hA, hre⟩ := rd_all HRU.out hlt
          cases hA
          have hgd : u.getD i 0 = u[i] := by simp [List.getD, List.getElem?_eq_getElem hlt]
          have hes : escAt u i = (decide ((u.getD i 0).toNat = 61) && decide (i + 2 < u.length) && decide (0 ≤ hexV (u.getD (i + 1) 0)) && decide (0 ≤ hexV (u.getD (i + 2) 0))) := rfl
          have heb : escB u i = UInt8.ofNat (16 * hexV (u.getD (i + 1) 0) + hexV (u.getD (i + 2) 0)).toNat := rfl
          rw [hgd] at hes hf
          have hr0 : ∀ W, Below w1.heap.size w1 W → W.cell? (ad.add i) = some (bv u[i]) := fun W hb => hre W hb i hlt
          have HR0 := Lib.hid hr0
          generalize u[i] = x at *
          clear hgd hr0 HF
          by_cases hesc : x.toNat = 61 ∧ i + 2 < u.length
          · obtain ⟨h61, hlt2⟩ := hesc
            have q1 : ((x.toNat : Int) == 61) = true := by simp; omega
            have i3 : (i : Int) + 2 < (u.length : Int) := by omega
            have i4 : (i : Int) + 1 < (u.length : Int) := by omega
            have hg1 : u.getD (i + 1) 0 = u[i + 1] := by simp [List.getD, List.getElem?_eq_getElem (show i + 1 < u.length by omega)]
            have hg2 : u.getD (i + 2) 0 = u[i + 2] := by simp [List.getD, List.getElem?_eq_getElem hlt2]
            rw [hg1, hg2] at hes heb
            have hr1 : ∀ W, Below w1.heap.size w1 W → W.cell? ⟨ad.block, ad.off + (i + 1), none⟩ = some (bv u[i + 1]) := fun W hb => by rw [← add_succ]; exact hre W hb (i + 1) (by omega)
            have hr2 : ∀ W, Below w1.heap.size w1 W → W.cell? ⟨ad.block, ad.off + (i + 2), none⟩ = some (bv u[i + 2]) := fun W hb => by rw [← add_succ ad (i + 1)]; exact hre W hb (i + 2) hlt2
            have HR1 := Lib.hid hr1
            have HR2 := Lib.hid hr2
            have hbd1 := hexV_bd u[i + 1]
            have hbd2 := hexV_bd u[i + 2]
            have hx1 := fun W => hex_calls u[i + 1] W
            have hx2 := fun W => hex_calls u[i + 2] W
            generalize u[i + 1] = y1 at *
            generalize u[i + 2] = y2 at *
            generalize hexV y1 = v1 at *
            generalize hexV y2 = v2 at *
            have HX1 := Lib.hid hx1
            have HX2 := Lib.hid hx2
            clear hg1 hg2 hr1 hr2 hx1 hx2 hre
            have c0 := HR0.out _ O.out.b
            have c1 := HR1.out _ O.out.b
            have c2' := HR2.out _ O.out.b
            by_cases hv : 0 ≤ v1 ∧ 0 ≤ v2
            · obtain ⟨g1, g2⟩ := hv
              have hb0 : escAt u i = true := by rw [hes]; simp [h61, hlt2, g1, g2]
              rw [if_pos hb0] at hf
              rw [heb] at hf
              have HF2 := Lib.hid hf
              clear hf hes heb hb0 h61
              go_upto_region 10 with (first | (go_at_call 150; ((with_reducible refine (HX1.out _).mono ?_); rintro e wr2 ⟨rfl, hb2⟩; have T := Lib.hid (O.out.bel hb2); clear O hb2 c0 c1 c2'; have O := T; clear T; have c0 := HR0.out _ O.out.b; have c1 := HR1.out _ O.out.b; have c2' := HR2.out _ O.out.b)) | (go_at_call 150; ((with_reducible refine (HX2.out _).mono ?_); rintro e wr2 ⟨rfl, hb2⟩; have T := Lib.hid (O.out.bel hb2); clear O hb2 c0 c1 c2'; have O := T; clear T; have c0 := HR0.out _ O.out.b; have c1 := HR1.out _ O.out.b; have c2' := HR2.out _ O.out.b)))
              have hor : bits .or .i64 (v1 * 16) v2 = v1 * 16 + v2 := bits_join .i64 63 (by decide) (fun n h0 h1 => i64_id (by omega)) 4 (v1 * 16) v2 (by omega) (by omega) (by omega) g2 (by omega) (by omega)
              have hval : IntKind.u8.wrap (bits .or .i64 (IntKind.i64.wrap (v1 * 16)) v2) = v1 * 16 + v2 := by rw [i64_id (by omega), hor, IntKind.wrap_u8]; omega
              have HVAL := Lib.hid hval
              clear hval hor
              have hnb : ((UInt8.ofNat (16 * v1 + v2).toNat).toNat : Int) = v1 * 16 + v2 := by simp; omega
              go_cut [5] (fun s5 wx => ∃ (A5 : Option Addr) (c5 : Nat), s5 = .slice A5 (out ++ [UInt8.ofNat (16 * v1 + v2).toNat]).length c5 ∧ Hid (Ow bv 5 w1 wx (out ++ [UInt8.ofNat (16 * v1 + v2).toNat]) A5 c5))
              case first =>
                clear c0 c1 c2'
                have ho := HO.out
                have hw1 : IntKind.i64.wrap ((i : Int) + 1) = (i : Int) + 1 := i64_id (by omega)
                have hw2 : IntKind.i64.wrap ((i : Int) + 2) = (i : Int) + 2 := i64_id (by omega)
                have ht1 : ((i : Int) + 1).toNat = i + 1 := by omega
                have ht2 : ((i : Int) + 2).toNat = i + 2 := by omega
                have ht3 : (0 : Int) ≤ (i : Int) + 1 := by omega
                have ht4 : (0 : Int) ≤ (i : Int) + 2 := by omega
                have hik : i < k := by omega
                go_region_held3 (fun w' => w'.cell? ⟨ad.block, ad.off + (i + 1), none⟩ = some (bv y1) ∧ w'.cell? ⟨ad.block, ad.off + (i + 2), none⟩ = some (bv y2)) (first | exact ⟨HR1.out _ hb9.out, HR2.out _ hb9.out⟩ | exact ⟨HR1.out _ (by with_reducible repeat (first | exact O.out.b | refine below_drew1 ?_ | refine below_al ?_ _)), HR2.out _ (by with_reducible repeat (first | exact O.out.b | refine below_drew1 ?_ | refine below_al ?_ _))⟩) ((first | (go_at_call 150; ((with_reducible refine (HX1.out _).mono ?_); rintro e wr3 ⟨rfl, hb3⟩; have T : Hid (Ow bv 5 w1 wr3 out A2 c2) := (by first | exact Lib.hid (O.out.bel hb3) | exact Lib.hid (O.out.dr.bel hb3)); clear O hb3; have O := T; clear T)) | (go_at_call 150; ((with_reducible refine (HX2.out _).mono ?_); rintro e wr3 ⟨rfl, hb3⟩; have T : Hid (Ow bv 5 w1 wr3 out A2 c2) := (by first | exact Lib.hid (O.out.bel hb3) | exact Lib.hid (O.out.dr.bel hb3)); clear O hb3; have O := T; clear T)) | (refine step_append_lies _ (by rfl) _ _ 22 (by rfl) w1.heap.size 5 i0 (.int .u8 0) 1 1 Tryd.underlying22 HI0.out HZ0.out HZ1.out HZ2.out rfl (by omega) (.slice A2 out.length c2) out.length (out.map bv) (by rfl) (O.out.al _).own _ 1 1 [.int .u8 (IntKind.u8.wrap (bits .or .i64 (IntKind.i64.wrap (v1 * 16)) v2))] (by rfl) rfl (cell_one_new _ _ _) (fun u hu => by simp at hu; subst hu; rfl) (by omega) (by unfold maxLen; omega) (by omega) (O.out.al _).b.size _ rfl ?_; intro g cap w9 hown hgrow hat hlt9; have hb9 := Lib.hid (below_grown (O.out.al _).b hgrow (O.out.al _).own (Nat.le_refl _)))))
                all_goals
                  go_wp2_with fail
                  go_meet
                  rw [HVAL.out] at hown
                  have hown2 : w9.ownsRow w1.heap.size 5 1 (.slice (some ⟨g, 0, none⟩) (out ++ [UInt8.ofNat (16 * v1 + v2).toNat]).length cap) (out ++ [UInt8.ofNat (16 * v1 + v2).toNat]).length ((out ++ [UInt8.ofNat (16 * v1 + v2).toNat]).map bv) := by
                    rw [List.length_append, List.map_append]
                    unfold bv at *
                    simp only [List.map_cons, List.map_nil, hnb, List.length_singleton]
                    exact hown
                  exact ⟨_, cap, by rw [List.length_append]; rfl, Lib.hid ⟨hown2, hb9.out⟩⟩
              case rest =>
                obtain ⟨A5, c5, rfl, O5⟩ := hcut
                clear O c0 c1 c2'
                go_wp2
                exact ⟨⟨n, i + 3, _, A5, c5, rfl, by go_num, by omega, Lib.hid (by have := HN.out; omega), Lib.hid (by have := HO.out; simp; omega), HF2, O5⟩, by simp [intOf]; omega⟩
            · have hb0 : escAt u i = false := by
                rw [hes]
                simp only [Bool.and_eq_false_iff, decide_eq_false_iff_not]
                by_cases h : 0 ≤ v1
                · exact .inr (fun h2 => hv ⟨h, h2⟩)
                · exact .inl (.inr h)
              rw [if_neg (by rw [hb0]; simp)] at hf
              have HF2 := Lib.hid hf
              have hvv : v1 < 0 ∨ (0 ≤ v1 ∧ v2 < 0) := by omega
              clear hf hes heb hb0 h61 hv
              rcases hvv with g1 | ⟨g1, g2⟩
              all_goals
                go_wp2_with (first | (go_at_call 150; ((with_reducible refine (HX1.out _).mono ?_); rintro e wr2 ⟨rfl, hb2⟩; have T := Lib.hid (O.out.bel hb2); clear O hb2 c0 c1 c2'; have O := T; clear T; have c0 := HR0.out _ O.out.b; have c1 := HR1.out _ O.out.b; have c2' := HR2.out _ O.out.b)) | (go_at_call 150; ((with_reducible refine (HX2.out _).mono ?_); rintro e wr2 ⟨rfl, hb2⟩; have T := Lib.hid (O.out.bel hb2); clear O hb2 c0 c1 c2'; have O := T; clear T; have c0 := HR0.out _ O.out.b; have c1 := HR1.out _ O.out.b; have c2' := HR2.out _ O.out.b)) | (at_builtin; refine wpList_appG (f := bv) (l := out) (r := [x]) bv1 (by rfl) _ _ 22 rfl i0 (.int .u8 0) 1 Tryd.underlying22 HI0.out HZ0.out HZ1.out HZ2.out rfl rfl (O.out.al _).own rfl (rd_new (r := [x]) (Bk.new _ _ _) rfl) (by show out.length + 1 ≤ _; have := HO.out; unfold maxLen; omega) (by show (out.length + 1) * 1 ≤ _; have := HO.out; omega) (O.out.al _).b.size ?_; intro A5 c5 w5 hown hg _; have T := Lib.hid ((O.out.al _).app hg hown); clear O c0 c1 c2' hown hg; have O := T; clear T))
                exact ⟨⟨n, i + 1, out ++ [x], A5, c5, by simp, by go_num, by omega, Lib.hid (by have := HN.out; omega), Lib.hid (by have := HO.out; simp; omega), HF2, O⟩, by simp [intOf]; omega⟩
          · have hb0 : escAt u i = false := by
              rw [hes]
              simp only [Bool.and_eq_false_iff, decide_eq_false_iff_not]
              by_cases h : x.toNat = 61
              · exact .inl (.inl (.inr (fun h2 => hesc ⟨h, h2⟩)))
              · exact .inl (.inl (.inl h))
            rw [if_neg (by rw [hb0]; simp)] at hf
            have HF2 := Lib.hid hf
            have hvv : ((x.toNat : Int) == 61) = false ∨ (((x.toNat : Int) == 61) = true ∧ (u.length : Int) ≤ (i : Int) + 2) := by
              by_cases h : x.toNat = 61
              · right; refine ⟨by simp; omega, ?_⟩
                have : ¬ (i + 2 < u.length) := fun h2 => hesc ⟨h, h2⟩
                omega
              · left; simp; omega
            have c0 := HR0.out _ O.out.b
            clear hf hes heb hb0 hesc hre
            rcases hvv with g1 | ⟨g1, g2⟩
            all_goals
              go_wp2_with (at_builtin; refine wpList_appG (f := bv) (l := out) (r := [x]) bv1 (by rfl) _ _ 22 rfl i0 (.int .u8 0) 1 Tryd.underlying22 HI0.out HZ0.out HZ1.out HZ2.out rfl rfl (O.out.al _).own rfl (rd_new (r := [x]) (Bk.new _ _ _) rfl) (by show out.length + 1 ≤ _; have := HO.out; unfold maxLen; omega) (by show (out.length + 1) * 1 ≤ _; have := HO.out; omega) (O.out.al _).b.size ?_; intro A5 c5 w5 hown hg _; have T := Lib.hid ((O.out.al _).app hg hown); clear O c0 hown hg; have O := T; clear T)
              exact ⟨⟨n, i + 1, out ++ [x], A5, c5, by simp, by go_num, by omega, Lib.hid (by have := HN.out; omega), Lib.hid (by have := HO.out; simp; omega), HF2, O⟩, by simp [intOf]; omega⟩
        · have hf := HF.out
          rw [unqF_end (by omega)] at hf
          have HF2 := Lib.hid hf
          clear HF hf
          go_wp2
          exact bodyPost_ret (res_tt Tryd.results137) rfl ⟨A2, c2, by rw [← HF2.out]; rfl, by rw [← HF2.out]; exact O.out.rd, by rw [← HF2.out]; exact (Fr.own O.out.own (Nat.le_refl _)).up HB1.out.size, below_go HB1.out O.out.b⟩
  · have hBt : u = t := by
      have hs : sf = false := by rw [hS]; simp; omega
      rw [hB, if_neg (by rw [hs]; simp)]
    subst hBt
    have hs : sf = false := by rw [hS]; simp; omega
    have e2 : (u.length : Int) ≤ 0 := by omega
    rw [if_neg (by rw [hs]; simp)] at hB
    subst hs
    clear hS
    go_enter Tryd.func137, Tryd.ntmps137
    go_upto_region 7 with (go_at_call 149; ((with_reducible refine HT.out.mono ?_); rintro e w1 ⟨rfl, hb1⟩; have HB1 := Lib.hid hb1; have HRT1 := Lib.hid (HRT.out.bel hb1); clear hb1 HRT HT))
    have HRU := HRT1
    clear HRT1
    have hul2 := htl
    clear e2
    go_loopw [5, 6] (fun s5 s6 wr => ∃ (n i : Nat) (out : List UInt8) (A2 : Option Addr) (c2 : Nat), s5 = .slice A2 out.length c2 ∧ s6 = .int .i64 i ∧ i ≤ u.length ∧ Hid (u.length ≤ i + n) ∧ Hid (out.length ≤ i) ∧ Hid (unqF u n i out = v) ∧ Hid (Ow bv 5 w1 wr out A2 c2)) (fun _ s6 _ => u.length - (intOf s6).toNat)
    case atStart => exact ⟨u.length, 0, [], none, 0, rfl, rfl, by omega, Lib.hid (by omega), Lib.hid (by simp), Lib.hid HF.out.symm, Lib.hid (Ow.nil w1)⟩
    case round =>
      clear HF
      obtain ⟨n, i, out, A2, c2, rfl, rfl, hi, HN, HO, HF, O⟩ := hrel
      by_cases hlt : i < u.length
      · omega
      · have hf := HF.out
        rw [unqF_end (by omega)] at hf
        have HF2 := Lib.hid hf
        clear HF hf
        go_wp2
        exact bodyPost_ret (res_tt Tryd.results137) rfl ⟨A2, c2, by rw [← HF2.out]; rfl, by rw [← HF2.out]; exact O.out.rd, by rw [← HF2.out]; exact (Fr.own O.out.own (Nat.le_refl _)).up HB1.out.size, below_go HB1.out O.out.b⟩
end Go.Proofs.YtjgohmfmalcjoaaDoor.TrW
