import Derived.Test.YtjgohmfmalcjoaaDoorMc
import Derived.Test.YtjgohmfmalcjoaaDoorTrW9
/- Walks: quoted.Encode; the reference's two digits and units of a line. -/
namespace Go.Proofs.YtjgohmfmalcjoaaDoor.Tr
def quoE (l : List UInt8) : List UInt8 × (Int × Int) := if 12000 < l.length then ([], (1, -1)) else (quoL l, (0, 0))
end Go.Proofs.YtjgohmfmalcjoaaDoor.Tr
namespace Go.Proofs.YtjgohmfmalcjoaaDoor.TrW
open Go.RowKit Go.Proofs.YtjgohmfmalcjoaaDoor.Base Go.Proofs.YtjgohmfmalcjoaaDoor.Tr
set_option linter.unusedVariables false
set_option linter.unusedSimpArgs false
set_option maxHeartbeats 1000000 in
set_option maxRecDepth 20000 in
theorem quoenc_calls (A : Option Addr) (l : List UInt8) (c : Nat) (w : World) (h : Rd w bv A l) :
    Calls Tryd.prog 40 #[.slice A l.length c] w (GivesBF w (quoE l).1 (quoE l).2) := by
  have hu28 := Tryd.underlying25
  have hv : quoE l = if 12000 < l.length then ([], (1, -1)) else (quoL l, (0, 0)) := rfl
  generalize quoE l = v at *
  have BF := Lib.hid (Bk.new w 25 #[.int .i64 0, .int .i64 0])
  have HR := Lib.hid (h.al (.cells #[.int .i64 0, .int .i64 0] 25))
  have HB := Lib.hid (below_al (Below.refl w.heap.size w) (.cells #[.int .i64 0, .int .i64 0] 25))
  clear h
  rcases Nat.lt_or_ge 12000 l.length with hlen | hlen
  · rw [if_pos hlen] at hv
    subst hv
    have g1 : (12000 : Int) < (l.length : Int) := by omega
    go_enter Tryd.func40, Tryd.ntmps40
    go_upto_region 1 with fail
    generalize w.alloc (.cells #[.int .i64 0, .int .i64 0] 25) = w0 at *
    have cf := BF.out.cell
    have ff := BF.out.frozen
    go_wp2
    exact bodyPost_ret (res_tc Tryd.results40 rfl ((BF.out.put 0 (.int .i64 1)).put' (cs' := #[.int .i64 1, .int .i64 (-1)]) 1 (.int .i64 (-1)) rfl) hu28 rfl (by kernel_rfl)) rfl ⟨none, 0, rfl, Rd.nil, Fr.none _, below_set (below_set HB.out (Nat.le_refl _) _) (Nat.le_refl _) _⟩
  · rw [if_neg (by omega)] at hv
    have g1 : (l.length : Int) ≤ 12000 := by omega
    have hK := fun W h => quo_calls A l c W h (by omega)
    subst hv
    generalize quoL l = r at *
    have HK := Lib.hid hK
    clear hK
    go_enter Tryd.func40, Tryd.ntmps40
    go_upto_region 1 with fail
    generalize w.alloc (.cells #[.int .i64 0, .int .i64 0] 25) = w0 at *
    have cf := BF.out.cell
    have ff := BF.out.frozen
    go_wp2_with ((go_at_call 66; ((with_reducible refine (HK.out _ HR.out).mono ?_); rintro en w1 ⟨A1, c1, rfl, hr1, hf1, hb1⟩; have B1 := Lib.hid (BF.out.bel hb1); clear cf ff; have cf := B1.out.cell; have ff := B1.out.frozen)))
    have lt0 : w.heap.size < w0.heap.size := BF.out.lt
    have hh : ∀ ad, A1 = some ad → ad.block ≠ w.heap.size := fun ad h => by have := hf1 ad h; omega
    exact bodyPost_ret (res_tc Tryd.results40 rfl ((B1.out.put 0 (.int .i64 0)).put' (cs' := #[.int .i64 0, .int .i64 0]) 1 (.int .i64 0) rfl) hu28 rfl (by kernel_rfl)) rfl ⟨A1, c1, rfl, (hr1.far (p := ⟨w.heap.size, 0, none⟩) hh _).far (p := ⟨w.heap.size, 1, none⟩) hh _, hf1.up (by omega), below_set (below_set (below_go HB.out hb1) (Nat.le_refl _) _) (Nat.le_refl _) _⟩

theorem hexX (k : Nat) (h : k < 16) : (⟨#[48, 49, 50, 51, 52, 53, 54, 55, 56, 57, 65, 66, 67, 68, 69, 70]⟩ : ByteArray).extract k (k + 1) = ⟨#[hexD k]⟩ := by
  have : k = 0 ∨ k = 1 ∨ k = 2 ∨ k = 3 ∨ k = 4 ∨ k = 5 ∨ k = 6 ∨ k = 7 ∨ k = 8 ∨ k = 9 ∨ k = 10 ∨ k = 11 ∨ k = 12 ∨ k = 13 ∨ k = 14 ∨ k = 15 := by omega
  rcases this with rfl | rfl | rfl | rfl | rfl | rfl | rfl | rfl | rfl | rfl | rfl | rfl | rfl | rfl | rfl | rfl <;> decide +kernel
set_option maxHeartbeats 1000000 in
set_option maxRecDepth 20000 in
theorem two_calls (x : UInt8) (w : World) :
    Calls Tryd.prog 68 #[bv x] w fun en w' => en = .returned (.string ⟨#[hexD (x.toNat / 16), hexD (x.toNat % 16)]⟩) ∧ Below w.heap.size w w' := by
  have hx := u8_lt x
  obtain ⟨a, ha⟩ : ∃ a, a = x.toNat / 16 := ⟨_, rfl⟩
  obtain ⟨b, hb⟩ : ∃ b, b = x.toNat % 16 := ⟨_, rfl⟩
  have ea : (x.toNat : Int) / 16 = (a : Int) := by omega
  have eb : (x.toNat : Int) % 16 = (b : Int) := by omega
  have ea' : (x.toNat : Int).tdiv 16 = (a : Int) := by rw [Int.tdiv_eq_ediv_of_nonneg (by omega)]; exact ea
  have eb' : (x.toNat : Int).tmod 16 = (b : Int) := by rw [Int.tmod_eq_emod_of_nonneg (by omega)]; exact eb
  have a0 : (0 : Int) ≤ (a : Int) := by omega
  have b0 : (0 : Int) ≤ (b : Int) := by omega
  have a1 : (a : Int) < 16 := by omega
  have b1 : (b : Int) < 16 := by omega
  rw [← ha, ← hb]
  clear ha hb
  go_enter Tryd.func68, Tryd.ntmps68
  go_upto_region 1 with fail
  refine wp_region_bel (by kernel_rfl) (by kernel_rfl) ?_
  repeat (go_big_quiet_step (fail))
  refine wpQuiet_nil ?_
  rintro _ ⟨s0, rfl⟩
  have hb2 := Lib.hid s0.below
  generalize s0.w = w2 at *
  clear s0
  have e1 : (⟨#[48, 49, 50, 51, 52, 53, 54, 55, 56, 57, 65, 66, 67, 68, 69, 70]⟩ : ByteArray).extract a (a + 1) ++ (⟨#[48, 49, 50, 51, 52, 53, 54, 55, 56, 57, 65, 66, 67, 68, 69, 70]⟩ : ByteArray).extract b (b + 1) = ⟨#[hexD a, hexD b]⟩ := by
    rw [hexX a (by omega), hexX b (by omega)]
    exact bapp [hexD a] [hexD b]
  rw [e1]
  go_wp2
  go_ret
  exact ⟨rfl, hb2.out⟩
/-- the units of a line. -/
def unitsTo (l : List UInt8) (k : Nat) : List (List UInt8) := (List.range k).map fun j => tokC (l.getD j 0) (decide (j + 1 = l.length))
theorem unitsTo_len (l : List UInt8) (k : Nat) : (unitsTo l k).length = k := by simp [unitsTo]
theorem unitsTo_succ (l : List UInt8) (k : Nat) : unitsTo l (k + 1) = unitsTo l k ++ [tokC (l.getD k 0) (decide (k + 1 = l.length))] := by simp [unitsTo, List.range_succ]
/-- the call hands back a list of units. -/
def GivesU (w : World) (us : List (List UInt8)) (e : Ending) (w' : World) : Prop := ∃ A c, e = .returned (.slice A us.length c) ∧ Rd w' uv A us ∧ Below w.heap.size w w'
set_option maxHeartbeats 4000000 in
set_option maxRecDepth 20000 in
theorem units_calls (A : Option Addr) (l : List UInt8) (c : Nat) (w : World) (h : Rd w bv A l) (hl : l.length ≤ 100000) :
    Calls Tryd.prog 42 #[.slice A l.length c] w (GivesU w (unitsTo l l.length)) := by
  have HR := Lib.hid h
  obtain ⟨i0, hi0, hz0, hz1, hz2⟩ := info_parts info9
  have HI0 := Lib.hid hi0
  have HZ0 := Lib.hid hz0
  have HZ1 := Lib.hid hz1
  have HZ2 := Lib.hid hz2
  clear hi0 hz0 hz1 hz2 h
  go_enter Tryd.func42, Tryd.ntmps42
  go_upto_region 3 with fail
  go_loopw [3, 4] (fun s3 s4 wr => ∃ (k : Nat) (us : List (List UInt8)) (A2 : Option Addr) (c2 : Nat), s3 = .slice A2 us.length c2 ∧ s4 = .int .i64 k ∧ k ≤ l.length ∧ Hid (us.length = k) ∧ Hid (us = unitsTo l k) ∧ Hid (Ow uv 9 w wr us A2 c2)) (fun _ s4 _ => l.length - (intOf s4).toNat)
  case atStart => exact ⟨0, [], none, 0, rfl, rfl, by omega, Lib.hid rfl, Lib.hid rfl, Lib.hid (Ow.nil w)⟩
  case round =>
    obtain ⟨k, us, A2, c2, rfl, rfl, hk, HUL, HU, O⟩ := hrel
    by_cases hlt : k < l.length
    · have i1 : (0 : Int) ≤ (k : Int) := by omega
      have i2 : (k : Int) < (l.length : Int) := by omega
      have hsu := unitsTo_succ l k
      have hgd : l.getD k 0 = l[k] := by simp [List.getD, List.getElem?_eq_getElem hlt]
      rw [hgd, ← HU.out] at hsu
      obtain ⟨ad, rfl, _, ck⟩ := (HR.out.bel O.out.b).at_ hlt
      generalize l[k] = x at *
      have hx := u8_lt x
      clear HU hgd
      have hcv := string_of (c := 1) (rd_new (f := bv) (r := [x]) (Bk.new wr 5 #[bv x]) rfl)
      have hcv2 : (convert 22 9 (.slice (some ⟨wr.heap.size, 0, none⟩) 1 1)).run Tryd.prog (wr.alloc (.cells #[.int .u8 (x.toNat : Int)] 5)) = .ok (uv [x]) (wr.alloc (.cells #[.int .u8 (x.toNat : Int)] 5)) := hcv
      clear hcv
      by_cases hp : plainC x = true
      · have hin : inR (x.toNat : Int) 33 126 = true := by simp [plainC] at hp; exact inR_mk (by omega) (by omega)
        have q2 : ((x.toNat : Int) != 61) = true := by simp [plainC] at hp; simp; omega
        unfold tokC at hsu
        rw [if_pos (.inl hp)] at hsu
        have HS := Lib.hid hsu
        clear hsu hp
        go_wp2_with (first
          | (go_at_call 67; refine (rIn_is hin _).mono ?_; rintro e w' ⟨rfl, rfl⟩)
          | (at_builtin; refine wpList_appG (f := uv) (l := us) (r := [[x]]) uv1 (by rfl) _ _ 49 rfl i0 (.string ⟨#[]⟩) 16 Tryd.underlying49 HI0.out HZ0.out HZ1.out HZ2.out rfl rfl ((O.out.al _).al _).own rfl (rd_new (r := [[x]]) (Bk.new' _ _ _ (by simp)) rfl) (by show us.length + 1 ≤ _; have := HUL.out; unfold maxLen; omega) (by show (us.length + 1) * 16 ≤ _; have := HUL.out; omega) ((O.out.al _).al _).b.size ?_; intro A5 c5 w5 hown hg _; have T := Lib.hid (((O.out.al _).al _).app hg hown); clear O hown hg; have O := T; clear T))
        exact ⟨⟨k + 1, us ++ [[x]], A5, c5, by simp, by go_num, by omega, Lib.hid (by simp; exact HUL.out), Lib.hid HS.out.symm, O⟩, by simp [intOf]; omega⟩
      · have hbl := fun W => rblank_calls x W
        have hap : (⟨#[61]⟩ : ByteArray) ++ ⟨#[hexD (x.toNat / 16), hexD (x.toNat % 16)]⟩ = ⟨#[61, hexD (x.toNat / 16), hexD (x.toNat % 16)]⟩ := bapp [61] [hexD (x.toNat / 16), hexD (x.toNat % 16)]
        have hpq : (inR (x.toNat : Int) 33 126 = false) ∨ (inR (x.toNat : Int) 33 126 = true ∧ ((x.toNat : Int) != 61) = false) := by
          rcases tf (inR (x.toNat : Int) 33 126) with h | h
          · exact .inl h
          · refine .inr ⟨h, ?_⟩
            have h2 := inR_t h
            simp [plainC] at hp ⊢
            omega
        rcases tf (blankC x) with hb | hb
        · rw [hb] at hbl
          have HBL := Lib.hid hbl
          unfold tokC at hsu
          rw [if_neg (by rw [hb]; rintro (h | h); exact hp h; cases h.1)] at hsu
          have HS := Lib.hid hsu
          clear hsu hp hb hbl
          rcases hpq with hin | ⟨hin, q2⟩
          all_goals
            go_wp2_with (first | (go_at_call 67; refine (rIn_is hin _).mono ?_; rintro e w' ⟨rfl, rfl⟩) | (go_at_call 64; ((with_reducible refine (HBL.out _).mono ?_); rintro e w' ⟨rfl, rfl⟩)) | (go_at_call 68; ((with_reducible refine (two_calls _ _).mono ?_); rintro e w3 ⟨rfl, hb3⟩; have T := Lib.hid (O.out.bel hb3); clear O hb3; have O := T; clear T)) | (at_builtin; refine wpList_appG (f := uv) (l := us) (r := [[61, hexD (x.toNat / 16), hexD (x.toNat % 16)]]) uv1 (by rfl) _ _ 49 rfl i0 (.string ⟨#[]⟩) 16 Tryd.underlying49 HI0.out HZ0.out HZ1.out HZ2.out rfl rfl (O.out.al _).own rfl (rd_new (r := [[61, hexD (x.toNat / 16), hexD (x.toNat % 16)]]) (Bk.new _ _ _) rfl) (by show us.length + 1 ≤ _; have := HUL.out; unfold maxLen; omega) (by show (us.length + 1) * 16 ≤ _; have := HUL.out; omega) (O.out.al _).b.size ?_; intro A5 c5 w5 hown hg _; have T := Lib.hid ((O.out.al _).app hg hown); clear O hown hg; have O := T; clear T))
            exact ⟨⟨k + 1, us ++ [[61, hexD (x.toNat / 16), hexD (x.toNat % 16)]], A5, c5, by simp, by go_num, by omega, Lib.hid (by simp; exact HUL.out), Lib.hid HS.out.symm, O⟩, by simp [intOf]; omega⟩
        · rw [hb] at hbl
          have HBL := Lib.hid hbl
          by_cases hend : k + 1 = l.length
          · have q3 : (l.length : Int) ≤ (k : Int) + 1 := by omega
            unfold tokC at hsu
            rw [if_neg (by rw [hb]; rintro (h | h); exact hp h; simp [hend] at h)] at hsu
            have HS := Lib.hid hsu
            clear hsu hp hb hbl hend
            rcases hpq with hin | ⟨hin, q2⟩
            all_goals
              go_wp2_with (first | (go_at_call 67; refine (rIn_is hin _).mono ?_; rintro e w' ⟨rfl, rfl⟩) | (go_at_call 64; ((with_reducible refine (HBL.out _).mono ?_); rintro e w' ⟨rfl, rfl⟩)) | (go_at_call 68; ((with_reducible refine (two_calls _ _).mono ?_); rintro e w3 ⟨rfl, hb3⟩; have T := Lib.hid (O.out.bel hb3); clear O hb3; have O := T; clear T)) | (at_builtin; refine wpList_appG (f := uv) (l := us) (r := [[61, hexD (x.toNat / 16), hexD (x.toNat % 16)]]) uv1 (by rfl) _ _ 49 rfl i0 (.string ⟨#[]⟩) 16 Tryd.underlying49 HI0.out HZ0.out HZ1.out HZ2.out rfl rfl (O.out.al _).own rfl (rd_new (r := [[61, hexD (x.toNat / 16), hexD (x.toNat % 16)]]) (Bk.new _ _ _) rfl) (by show us.length + 1 ≤ _; have := HUL.out; unfold maxLen; omega) (by show (us.length + 1) * 16 ≤ _; have := HUL.out; omega) (O.out.al _).b.size ?_; intro A5 c5 w5 hown hg _; have T := Lib.hid ((O.out.al _).app hg hown); clear O hown hg; have O := T; clear T))
              exact ⟨⟨k + 1, us ++ [[61, hexD (x.toNat / 16), hexD (x.toNat % 16)]], A5, c5, by simp, by go_num, by omega, Lib.hid (by simp; exact HUL.out), Lib.hid HS.out.symm, O⟩, by simp [intOf]; omega⟩
          · have q3 : (k : Int) + 1 < (l.length : Int) := by omega
            unfold tokC at hsu
            rw [if_pos (.inr ⟨hb, by simp [hend]⟩)] at hsu
            have HS := Lib.hid hsu
            clear hsu hp hb hbl hend
            rcases hpq with hin | ⟨hin, q2⟩
            all_goals
              go_wp2_with (first | (go_at_call 67; refine (rIn_is hin _).mono ?_; rintro e w' ⟨rfl, rfl⟩) | (go_at_call 64; ((with_reducible refine (HBL.out _).mono ?_); rintro e w' ⟨rfl, rfl⟩)) | (at_builtin; refine wpList_appG (f := uv) (l := us) (r := [[x]]) uv1 (by rfl) _ _ 49 rfl i0 (.string ⟨#[]⟩) 16 Tryd.underlying49 HI0.out HZ0.out HZ1.out HZ2.out rfl rfl ((O.out.al _).al _).own rfl (rd_new (r := [[x]]) (Bk.new' _ _ _ (by simp)) rfl) (by show us.length + 1 ≤ _; have := HUL.out; unfold maxLen; omega) (by show (us.length + 1) * 16 ≤ _; have := HUL.out; omega) ((O.out.al _).al _).b.size ?_; intro A5 c5 w5 hown hg _; have T := Lib.hid (((O.out.al _).al _).app hg hown); clear O hown hg; have O := T; clear T))
              exact ⟨⟨k + 1, us ++ [[x]], A5, c5, by simp, by go_num, by omega, Lib.hid (by simp; exact HUL.out), Lib.hid HS.out.symm, O⟩, by simp [intOf]; omega⟩
    · have e : k = l.length := by omega
      have hu := HU.out
      rw [e] at hu
      go_wp2
      go_ret
      exact ⟨A2, c2, by rw [← hu]; rfl, by rw [← hu]; exact O.out.rd, O.out.b⟩
end Go.Proofs.YtjgohmfmalcjoaaDoor.TrW
