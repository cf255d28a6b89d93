import Derived.Test.YtjgohmfmalcjoaaDoorTrW24
import Derived.Laws.BitsLemmas
/- Walks: base64.Loose and base64.Lenient. -/
namespace Go.Proofs.YtjgohmfmalcjoaaDoor.Tr
theorem looP_at {l : List UInt8} {k : Nat} (h : k < l.length) (out : List UInt8) (b n : Int) : looP (l.drop k) out b n = if l[k].toNat = 61 then out else if val6 l[k] < 0 then looP (l.drop (k + 1)) out b n
      else if 8 ≤ n + 6 then looP (l.drop (k + 1)) (out ++ [UInt8.ofNat ((b * 64 + val6 l[k]) % 4096 / 2 ^ (n - 2).toNat % 256).toNat]) ((b * 64 + val6 l[k]) % 4096) (n - 2)
      else looP (l.drop (k + 1)) out ((b * 64 + val6 l[k]) % 4096) (n + 6) := by
  rw [List.drop_eq_getElem_cons h]
  rfl
def lenE (l : List UInt8) : List UInt8 × (Int × Int) := if 24000 < l.length then ([], (1, -1)) else (loose64 l, (0, 0))
end Go.Proofs.YtjgohmfmalcjoaaDoor.Tr
namespace Go.Proofs.YtjgohmfmalcjoaaDoor.TrW
open Go.RowKit Go.Proofs.YtjgohmfmalcjoaaDoor.Base Go.Proofs.YtjgohmfmalcjoaaDoor.Tr
set_option linter.unusedVariables false
set_option linter.unusedSimpArgs false
theorem u8_of {e : Int} (h : 0 ≤ e) : IntKind.u8.wrap e = ((UInt8.ofNat (e % 256).toNat).toNat : Int) := by
  rw [IntKind.wrap_u8, UInt8.toNat_ofNat']
  omega
set_option maxRecDepth 20000 in
set_option maxHeartbeats 4000000 in
theorem bloose_calls (A : Option Addr) (l : List UInt8) (c : Nat) (w : World) (h : Rd w bv A l) (hl : l.length ≤ 100000) :
    Calls Tryd.prog 115 #[.slice A l.length c] w (GivesB w (loose64 l)) := by
  have hv := looP_loose l
  generalize loose64 l = v at *
  have HR := Lib.hid h
  have HV := Lib.hid hv
  obtain ⟨i0, hi0, hz0, hz1, hz2⟩ := info_parts info8
  have HI0 := Lib.hid hi0
  have HZ0 := Lib.hid hz0
  have HZ1 := Lib.hid hz1
  have HZ2 := Lib.hid hz2
  clear hi0 hz0 hz1 hz2 h hv
  go_enter Tryd.func115, Tryd.ntmps115
  go_upto_region 4 with fail
  go_loopw [3, 4, 5, 11] (fun s3 s4 s5 s11 wr => ∃ (k : Nat) (out : List UInt8) (A2 : Option Addr) (c2 : Nat) (b n : Int), s3 = .slice A2 out.length c2 ∧ s4 = .int .i64 b ∧ s5 = .int .i64 n ∧ s11 = .int .i64 k ∧ k ≤ l.length ∧ Hid (out.length ≤ k) ∧ 0 ≤ b ∧ b < 4096 ∧ Hid (n = 0 ∨ n = 2 ∨ n = 4 ∨ n = 6) ∧ Hid (looP (l.drop k) out b n = v) ∧ Hid (Ow bv 5 w wr out A2 c2)) (fun _ _ _ s11 _ => l.length - (intOf s11).toNat)
  case atStart => exact ⟨0, [], none, 0, 0, 0, rfl, rfl, rfl, rfl, by omega, Lib.hid (Nat.le_refl _), by omega, by omega, Lib.hid (.inl rfl), HV, Lib.hid (Ow.nil w)⟩
  case round =>
    obtain ⟨k, out, A2, c2, b, n, rfl, rfl, rfl, rfl, hk, HO, hb0, hb1, HNN, HF, O⟩ := hrel
    by_cases hlt : k < l.length
    · have i1 : (0 : Int) ≤ (k : Int) := by omega
      have i2 : (k : Int) < (l.length : Int) := by omega
      have hf := HF.out
      rw [looP_at hlt] at hf
      obtain ⟨ad, hA, hre⟩ := rd_all HR.out hlt
      cases hA
      have hr0 : ∀ W, Below w.heap.size w W → W.cell? (ad.add k) = some (bv l[k]) := fun W hb => hre W hb k hlt
      have HR0 := Lib.hid hr0
      have hvb := val6_bd l[k]
      have hvc := fun W => value_calls l[k] W
      generalize l[k] = x at *
      generalize val6 x = u at *
      have HVC := Lib.hid hvc
      clear hre hr0 HF hvc
      have c0 := HR0.out _ O.out.b
      by_cases h61 : x.toNat = 61
      · have q1 : ((x.toNat : Int) == 61) = true := by simp; omega
        rw [if_pos h61] at hf
        have HF2 := Lib.hid hf
        clear hf h61
        go_wp2_with (go_at_call 136; ((with_reducible refine (HVC.out _).mono ?_); rintro e wr2 ⟨rfl, hb2⟩; have T := Lib.hid (O.out.bel hb2); clear O hb2 c0; have O := T; clear T))
        go_ret
        exact ⟨A2, c2, by rw [← HF2.out]; rfl, by rw [← HF2.out]; exact O.out.rd, by rw [← HF2.out]; exact Fr.own O.out.own (Nat.le_refl _), O.out.b⟩
      · have q1 : ((x.toNat : Int) == 61) = false := by simp; omega
        rw [if_neg h61] at hf
        by_cases hu : u < 0
        · rw [if_pos hu] at hf
          have HF2 := Lib.hid hf
          clear hf h61
          go_wp2_with (go_at_call 136; ((with_reducible refine (HVC.out _).mono ?_); rintro e wr2 ⟨rfl, hb2⟩; have T := Lib.hid (O.out.bel hb2); clear O hb2 c0; have O := T; clear T))
          exact ⟨⟨k + 1, out, A2, c2, b, n, rfl, rfl, rfl, by go_num, by omega, Lib.hid (by have := HO.out; omega), hb0, hb1, HNN, HF2, O⟩, by simp [intOf]; omega⟩
        · rw [if_neg hu] at hf
          have g0 : 0 ≤ u := by omega
          have g1 : u ≤ 63 := hvb.2
          have hor : bits .or .i64 (b * 64) u = b * 64 + u := bits_join .i64 63 (by decide) (fun n h0 h1 => i64_id (by omega)) 6 (b * 64) u (by omega) (by omega) (by omega) (by omega) (by omega) (by omega)
          have hw1 : IntKind.i64.wrap (b * 64) = b * 64 := i64_id (by omega)
          have han : bits .and .i64 (b * 64 + u) 4095 = (b * 64 + u) % 4096 := bits_mask .i64 63 (by decide) (fun n h0 h1 => i64_id (by omega)) 12 (by decide) _ (by omega) (by omega)
          have m0 : 0 ≤ (b * 64 + u) % 4096 := by omega
          have m1 : (b * 64 + u) % 4096 < 4096 := by omega
          generalize hm : (b * 64 + u) % 4096 = m at *
          have HM := Lib.hid hm
          clear h61 hu hvb hm
          rcases HNN.out with hn | hn | hn | hn
          · subst hn
            rw [if_neg (by omega)] at hf
            have HF2 := Lib.hid hf
            clear hf HNN
            go_wp2_with (go_at_call 136; ((with_reducible refine (HVC.out _).mono ?_); rintro e wr2 ⟨rfl, hb2⟩; have T := Lib.hid (O.out.bel hb2); clear O hb2 c0; have O := T; clear T))
            exact ⟨⟨k + 1, out, A2, c2, m, 6, rfl, rfl, rfl, by go_num, by omega, Lib.hid (by have := HO.out; omega), m0, m1, Lib.hid (by omega), HF2, O⟩, by simp [intOf]; omega⟩
          · subst hn
            rw [if_pos (by omega)] at hf
            have hy := u8_of (e := m) m0
            have hf2 : looP (l.drop (k + 1)) (out ++ [UInt8.ofNat (m % 256).toNat]) m 0 = v := by rw [← hf]; simp
            generalize UInt8.ofNat (m % 256).toNat = y at *
            have HF2 := Lib.hid hf2
            clear hf hf2 HNN
            go_wp2_with (first
              | (go_at_call 136; ((with_reducible refine (HVC.out _).mono ?_); rintro e wr2 ⟨rfl, hb2⟩; have T := Lib.hid (O.out.bel hb2); clear O hb2 c0; have O := T; clear T))
              | (at_builtin; refine wpList_appG (f := bv) (l := out) (r := [y]) bv1 (by rfl) _ _ 22 rfl i0 (.int .u8 0) 1 Tryd.underlying22 HI0.out HZ0.out HZ1.out HZ2.out rfl rfl (O.out.al _).own rfl (rd_new (r := [y]) (Bk.new _ _ _) rfl) (by show out.length + 1 ≤ _; have := HO.out; unfold maxLen; omega) (by show (out.length + 1) * 1 ≤ _; have := HO.out; omega) (O.out.al _).b.size ?_; intro A5 c5 w5 hown hg _; have T := Lib.hid ((O.out.al _).app hg hown); clear O hown hg; have O := T; clear T))
            exact ⟨⟨k + 1, out ++ [y], A5, c5, m, 0, by simp, rfl, rfl, by go_num, by omega, Lib.hid (by have := HO.out; simp; omega), m0, m1, Lib.hid (by omega), HF2, O⟩, by simp [intOf]; omega⟩
          · subst hn
            rw [if_pos (by omega)] at hf
            have hy := u8_of (e := m / 4) (by omega)
            have hf2 : looP (l.drop (k + 1)) (out ++ [UInt8.ofNat (m / 4 % 256).toNat]) m 2 = v := by rw [← hf]; rfl
            generalize UInt8.ofNat (m / 4 % 256).toNat = y at *
            have HF2 := Lib.hid hf2
            clear hf hf2 HNN
            go_wp2_with (first
              | (go_at_call 136; ((with_reducible refine (HVC.out _).mono ?_); rintro e wr2 ⟨rfl, hb2⟩; have T := Lib.hid (O.out.bel hb2); clear O hb2 c0; have O := T; clear T))
              | (at_builtin; refine wpList_appG (f := bv) (l := out) (r := [y]) bv1 (by rfl) _ _ 22 rfl i0 (.int .u8 0) 1 Tryd.underlying22 HI0.out HZ0.out HZ1.out HZ2.out rfl rfl (O.out.al _).own rfl (rd_new (r := [y]) (Bk.new _ _ _) rfl) (by show out.length + 1 ≤ _; have := HO.out; unfold maxLen; omega) (by show (out.length + 1) * 1 ≤ _; have := HO.out; omega) (O.out.al _).b.size ?_; intro A5 c5 w5 hown hg _; have T := Lib.hid ((O.out.al _).app hg hown); clear O hown hg; have O := T; clear T))
            exact ⟨⟨k + 1, out ++ [y], A5, c5, m, 2, by simp, rfl, rfl, by go_num, by omega, Lib.hid (by have := HO.out; simp; omega), m0, m1, Lib.hid (by omega), HF2, O⟩, by simp [intOf]; omega⟩
          · subst hn
            rw [if_pos (by omega)] at hf
            have hy := u8_of (e := m / 16) (by omega)
            have hf2 : looP (l.drop (k + 1)) (out ++ [UInt8.ofNat (m / 16 % 256).toNat]) m 4 = v := by rw [← hf]; rfl
            generalize UInt8.ofNat (m / 16 % 256).toNat = y at *
            have HF2 := Lib.hid hf2
            clear hf hf2 HNN
            go_wp2_with (first
              | (go_at_call 136; ((with_reducible refine (HVC.out _).mono ?_); rintro e wr2 ⟨rfl, hb2⟩; have T := Lib.hid (O.out.bel hb2); clear O hb2 c0; have O := T; clear T))
              | (at_builtin; refine wpList_appG (f := bv) (l := out) (r := [y]) bv1 (by rfl) _ _ 22 rfl i0 (.int .u8 0) 1 Tryd.underlying22 HI0.out HZ0.out HZ1.out HZ2.out rfl rfl (O.out.al _).own rfl (rd_new (r := [y]) (Bk.new _ _ _) rfl) (by show out.length + 1 ≤ _; have := HO.out; unfold maxLen; omega) (by show (out.length + 1) * 1 ≤ _; have := HO.out; omega) (O.out.al _).b.size ?_; intro A5 c5 w5 hown hg _; have T := Lib.hid ((O.out.al _).app hg hown); clear O hown hg; have O := T; clear T))
            exact ⟨⟨k + 1, out ++ [y], A5, c5, m, 4, by simp, rfl, rfl, by go_num, by omega, Lib.hid (by have := HO.out; simp; omega), m0, m1, Lib.hid (by omega), HF2, O⟩, by simp [intOf]; omega⟩
    · have hf := HF.out
      rw [List.drop_eq_nil_of_le (by omega)] at hf
      have HF2 : Hid (out = v) := Lib.hid hf
      clear hf HF
      go_wp2
      go_ret
      exact ⟨A2, c2, by rw [← HF2.out]; rfl, by rw [← HF2.out]; exact O.out.rd, by rw [← HF2.out]; exact Fr.own O.out.own (Nat.le_refl _), O.out.b⟩
set_option maxHeartbeats 1000000 in
set_option maxRecDepth 20000 in
theorem lenient_calls (A : Option Addr) (l : List UInt8) (c : Nat) (w : World) (h : Rd w bv A l) :
    Calls Tryd.prog 88 #[.slice A l.length c] w (GivesBF w (lenE l).1 (lenE l).2) := by
  have hu28 := Tryd.underlying25
  have hv : lenE l = if 24000 < l.length then ([], (1, -1)) else (loose64 l, (0, 0)) := rfl
  generalize lenE l = v at *
  have BF := Lib.hid (Bk.new w 25 #[.int .i64 0, .int .i64 0])
  have HR := Lib.hid (h.al (.cells #[.int .i64 0, .int .i64 0] 25))
  have HB := Lib.hid (below_al (Below.refl w.heap.size w) (.cells #[.int .i64 0, .int .i64 0] 25))
  clear h
  rcases Nat.lt_or_ge 24000 l.length with hlen | hlen
  · rw [if_pos hlen] at hv
    subst hv
    have g1 : (24000 : Int) < (l.length : Int) := by omega
    go_enter Tryd.func88, Tryd.ntmps88
    go_upto_region 1 with fail
    generalize w.alloc (.cells #[.int .i64 0, .int .i64 0] 25) = w0 at *
    have cf := BF.out.cell
    have ff := BF.out.frozen
    go_wp2
    exact bodyPost_ret (res_tc Tryd.results88 rfl ((BF.out.put 0 (.int .i64 1)).put' (cs' := #[.int .i64 1, .int .i64 (-1)]) 1 (.int .i64 (-1)) rfl) hu28 rfl (by kernel_rfl)) rfl ⟨none, 0, rfl, Rd.nil, Fr.none _, below_set (below_set HB.out (Nat.le_refl _) _) (Nat.le_refl _) _⟩
  · rw [if_neg (by omega)] at hv
    have g1 : (l.length : Int) ≤ 24000 := by omega
    have hK := fun W h => bloose_calls A l c W h (by omega)
    subst hv
    generalize loose64 l = r at *
    have HK := Lib.hid hK
    clear hK
    go_enter Tryd.func88, Tryd.ntmps88
    go_upto_region 1 with fail
    generalize w.alloc (.cells #[.int .i64 0, .int .i64 0] 25) = w0 at *
    have cf := BF.out.cell
    have ff := BF.out.frozen
    go_wp2_with ((go_at_call 115; ((with_reducible refine (HK.out _ HR.out).mono ?_); rintro en w1 ⟨A1, c1, rfl, hr1, hf1, hb1⟩; have B1 := Lib.hid (BF.out.bel hb1); clear cf ff; have cf := B1.out.cell; have ff := B1.out.frozen)))
    have lt0 : w.heap.size < w0.heap.size := BF.out.lt
    have hh : ∀ ad, A1 = some ad → ad.block ≠ w.heap.size := fun ad h => by have := hf1 ad h; omega
    exact bodyPost_ret (res_tc Tryd.results88 rfl ((B1.out.put 0 (.int .i64 0)).put' (cs' := #[.int .i64 0, .int .i64 0]) 1 (.int .i64 0) rfl) hu28 rfl (by kernel_rfl)) rfl ⟨A1, c1, rfl, (hr1.far (p := ⟨w.heap.size, 0, none⟩) hh _).far (p := ⟨w.heap.size, 1, none⟩) hh _, hf1.up (by omega), below_set (below_set (below_go HB.out hb1) (Nat.le_refl _) _) (Nat.le_refl _) _⟩
end Go.Proofs.YtjgohmfmalcjoaaDoor.TrW
