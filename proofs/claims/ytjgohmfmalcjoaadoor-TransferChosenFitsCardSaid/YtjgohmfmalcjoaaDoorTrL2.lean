import Derived.Test.YtjgohmfmalcjoaaDoorTrW34
import Derived.Test.YtjgohmfmalcjoaaDoorTr10
/- Walks: the laws TransferEncodeMatchesSpec and TransferDecodeMatchesSpec. -/
namespace Go.Proofs.YtjgohmfmalcjoaaDoor.Tr
theorem enc_none (b : List UInt8 × (Int × Int)) (l : List UInt8) : encF b (-1) l = ([], (18, -3)) := by unfold encF; simp
theorem enc_big (l : List UInt8) (k : Int) (hk : k = 0 ∨ k = 1 ∨ k = 2 ∨ k = 3) (h : 12000 < l.length) : encF (b64E l) k l = ([], (1, -1)) := by
  unfold encF asF b64E quoE
  rcases hk with rfl | rfl | rfl | rfl <;> simp [h]
theorem enc_bad (l : List UInt8) (k : Int) (e : Bool) (hk : (k = 0 ∧ e = false) ∨ (k = 1 ∧ e = true)) (h : ¬ 12000 < l.length) (hr : 0 ≤ refL e l) : encF (b64E l) k l = ([], (17, refL e l)) := by
  unfold encF asF
  rcases hk with ⟨rfl, rfl⟩ | ⟨rfl, rfl⟩ <;> simp [h, hr]
theorem enc_as (l : List UInt8) (k : Int) (e : Bool) (hk : (k = 0 ∧ e = false) ∨ (k = 1 ∧ e = true)) (h : ¬ 12000 < l.length) (hr : refL e l < 0) : encF (b64E l) k l = (trF l k, (0, 0)) := by
  have hr' : ¬ 0 ≤ refL e l := by omega
  unfold encF asF trF
  rcases hk with ⟨rfl, rfl⟩ | ⟨rfl, rfl⟩ <;> simp [h, hr']
theorem enc_ok (l : List UInt8) (k : Int) (hk : k = 2 ∨ k = 3) (h : ¬ 12000 < l.length) : encF (b64E l) k l = (trF l k, (0, 0)) := by
  unfold encF b64E quoE trF
  rcases hk with rfl | rfl <;> simp [h]
theorem dec_none (b : List UInt8 × (Int × Int)) (l : List UInt8) : decF b (-1) l = ([], (18, -3)) := by unfold decF; simp
theorem dec_big (l : List UInt8) (k : Int) (hk : k = 0 ∨ k = 1 ∨ k = 2 ∨ k = 3) (h : 12000 < l.length) : decF (lenE l) k l = ([], (1, -1)) := by
  unfold decF
  rcases hk with rfl | rfl | rfl | rfl <;> simp [h]
theorem dec_ok (l : List UInt8) (k : Int) (hk : k = 0 ∨ k = 1 ∨ k = 2 ∨ k = 3) (h : ¬ 12000 < l.length) : decF (lenE l) k l = (unF l k, (0, 0)) := by
  have h2 : ¬ 24000 < l.length := by omega
  have h3 : ¬ 48000 < l.length := by omega
  unfold decF lenE qloE sameF unF
  rcases hk with rfl | rfl | rfl | rfl <;> simp [h, h2, h3]
end Go.Proofs.YtjgohmfmalcjoaaDoor.Tr
namespace Go.Proofs.YtjgohmfmalcjoaaDoor.TrW
open Go.RowKit Go.Proofs.YtjgohmfmalcjoaaDoor.Base Go.Proofs.YtjgohmfmalcjoaaDoor.Tr
set_option linter.unusedVariables false
set_option linter.unusedSimpArgs false
attribute [local go_sem high] eqA25
set_option maxHeartbeats 4000000 in
set_option maxRecDepth 20000 in
theorem lawencode_walk (A : Option Addr) (l : List UInt8) (c : Nat) (n : ByteArray) (w : World) (h : Rd w bv A l) (hc : l.length ≤ c) (hc63 : c ≤ 9223372036854775807) (hA : A = none → c = 0) (hn : n.size ≤ maxLen) :
    Calls Tryd.prog 3 #[.slice A l.length c, .string n] w fun e w' => e = .returned (.bool true) ∧ Below w.heap.size w w' := by
  have hX := fun W => example_calls W
  have hE := fun W R => encode_calls A l c n (b64E l) W R hn (fun _ W R => b64enc_calls A l c W R hc hc63)
  have hK := fun W => rcodingof_calls n W hn
  have hu28 := Tryd.underlying25
  have hr := cod_range n
  generalize codingOf n = k at *
  have HX := Lib.hid hX
  have HK := Lib.hid hK
  have HR := Lib.hid h
  clear hX hK
  rcases Classical.em (k = -1) with hk | hk
  · subst hk
    rw [enc_none] at hE
    have HE := Lib.hid hE
    clear hE hr h
    go_enter Tryd.func3, Tryd.ntmps3
    go_upto_region 3 with (go_at_call 12; ((with_reducible refine (HX.out _).mono ?_); rintro e w1 ⟨rfl, hb⟩; have HB := Lib.hid hb; have HR1 := Lib.hid (HR.out.bel hb); clear hb HR))
    go_upto_region 4 with (go_at_call 13; ((with_reducible refine (HE.out _ HR1.out).mono ?_); rintro e w2 ⟨A2, c2, rfl, hr2, hf2, hb⟩; skip))
    have K := Lib.hid (Bk.new w2 25 #[.int .i64 18, .int .i64 (-3)])
    have HB2 := Lib.hid (below_al (below_go HB.out hb) (.cells #[.int .i64 18, .int .i64 (-3)] 25))
    have HR2 := Lib.hid ((HR1.out.bel hb).al (.cells #[.int .i64 18, .int .i64 (-3)] 25))
    have HX2 := Lib.hid (hr2.al (.cells #[.int .i64 18, .int .i64 (-3)] 25))
    clear hb HB hr2 hf2 HR1
    generalize w2.heap.size = g at *
    generalize w2.alloc (.cells #[.int .i64 18, .int .i64 (-3)] 25) = w3 at *
    go_upto_region 6 with (go_at_call 14; ((with_reducible refine (HK.out _).mono ?_); rintro e w4 ⟨rfl, hb⟩; have K4 := Lib.hid (K.out.bel hb); have HB4 := Lib.hid (below_go HB2.out hb); have HR4 := Lib.hid (HR2.out.bel hb); have HX4 := Lib.hid (HX2.out.bel hb); clear hb K HB2 HR2 HX2))
    have sk := K4.out.s
    refine wp_region_bel (by kernel_rfl) (by kernel_rfl) ?_
    repeat (go_big_quiet_step ((go_at_call 15; with_reducible exact bel_bel (rAt_calls _ _ _))))
    refine wpQuiet_nil ?_
    rintro _ ⟨s0, rfl⟩
    have hb0 := Lib.hid (below_go HB4.out s0.below)
    generalize s0.w = w9 at *
    clear s0 sk
    go_wp2
    go_ret
    exact ⟨rfl, hb0.out⟩
  · have hk4 : k = 0 ∨ k = 1 ∨ k = 2 ∨ k = 3 := by omega
    have k0 : 0 ≤ k := by omega
    by_cases hlen : 12000 < l.length
    · rw [enc_big l k hk4 hlen] at hE
      have HE := Lib.hid hE
      have g1 : (12000 : Int) < (l.length : Int) := by omega
      clear hE hr h hk hk4
      go_enter Tryd.func3, Tryd.ntmps3
      go_upto_region 3 with (go_at_call 12; ((with_reducible refine (HX.out _).mono ?_); rintro e w1 ⟨rfl, hb⟩; have HB := Lib.hid hb; have HR1 := Lib.hid (HR.out.bel hb); clear hb HR))
      go_upto_region 4 with (go_at_call 13; ((with_reducible refine (HE.out _ HR1.out).mono ?_); rintro e w2 ⟨A2, c2, rfl, hr2, hf2, hb⟩; skip))
      have K := Lib.hid (Bk.new w2 25 #[.int .i64 1, .int .i64 (-1)])
      have HB2 := Lib.hid (below_al (below_go HB.out hb) (.cells #[.int .i64 1, .int .i64 (-1)] 25))
      have HR2 := Lib.hid ((HR1.out.bel hb).al (.cells #[.int .i64 1, .int .i64 (-1)] 25))
      have HX2 := Lib.hid (hr2.al (.cells #[.int .i64 1, .int .i64 (-1)] 25))
      clear hb HB hr2 hf2 HR1
      generalize w2.heap.size = g at *
      generalize w2.alloc (.cells #[.int .i64 1, .int .i64 (-1)] 25) = w3 at *
      go_upto_region 8 with (go_at_call 14; ((with_reducible refine (HK.out _).mono ?_); rintro e w4 ⟨rfl, hb⟩; have K4 := Lib.hid (K.out.bel hb); have HB4 := Lib.hid (below_go HB2.out hb); have HR4 := Lib.hid (HR2.out.bel hb); have HX4 := Lib.hid (HX2.out.bel hb); clear hb K HB2 HR2 HX2))
      have sk := K4.out.s
      refine wp_region_bel (by kernel_rfl) (by kernel_rfl) ?_
      repeat (go_big_quiet_step ((go_at_call 15; with_reducible exact bel_bel (rAt_calls _ _ _))))
      refine wpQuiet_nil ?_
      rintro _ ⟨s0, rfl⟩
      have hb0 := Lib.hid (below_go HB4.out s0.below)
      generalize s0.w = w9 at *
      clear s0 sk
      go_wp2
      go_ret
      exact ⟨rfl, hb0.out⟩
    · have g1 : (l.length : Int) ≤ 12000 := by omega
      have hT := fun W R => transferred_calls A l c k W R (by omega) hc hc63 hA
      have hke : ∃ e, (k = 0 ∧ e = false) ∨ (k = 1 ∧ e = true) ∨ (2 ≤ k ∧ e = false) := by
        rcases hk4 with rfl | rfl | rfl | rfl
        · exact ⟨false, .inl ⟨rfl, rfl⟩⟩
        · exact ⟨true, .inr (.inl ⟨rfl, rfl⟩)⟩
        · exact ⟨false, .inr (.inr ⟨by omega, rfl⟩)⟩
        · exact ⟨false, .inr (.inr ⟨by omega, rfl⟩)⟩
      obtain ⟨e, hke⟩ := hke
      have hF := fun W R => rrefused_calls A l c e W R (by unfold maxLen; omega)
      have hbad := enc_bad l k e
      have has_ := enc_as l k e
      have hok := enc_ok l k
      generalize trF l k = v at *
      generalize refL e l = m at *
      have HT := Lib.hid hT
      have HF := Lib.hid hF
      clear hT hF hr h hk hA
      by_cases hk2 : k = 0 ∨ k = 1
      · have hke2 : (k = 0 ∧ e = false) ∨ (k = 1 ∧ e = true) := by
          rcases hke with h | h | h
          · exact .inl h
          · exact .inr h
          · exact absurd h.1 (by omega)
        have k2 : k < 2 := by omega
        have qe : (k == 1) = e := by rcases hke2 with ⟨rfl, rfl⟩ | ⟨rfl, rfl⟩ <;> decide
        by_cases hm : 0 ≤ m
        · rw [hbad hke2 hlen hm] at hE
          have HE := Lib.hid hE
          clear hE hbad has_ hok hke hke2 hk2 hk4 hlen HT
          rcases tf e with he | he
          all_goals
            subst he
            go_enter Tryd.func3, Tryd.ntmps3
            go_upto_region 3 with (go_at_call 12; ((with_reducible refine (HX.out _).mono ?_); rintro e w1 ⟨rfl, hb⟩; have HB := Lib.hid hb; have HR1 := Lib.hid (HR.out.bel hb); clear hb HR))
            go_upto_region 4 with (go_at_call 13; ((with_reducible refine (HE.out _ HR1.out).mono ?_); rintro e w2 ⟨A2, c2, rfl, hr2, hf2, hb⟩; skip))
            have K := Lib.hid (Bk.new w2 25 #[.int .i64 17, .int .i64 m])
            have HB2 := Lib.hid (below_al (below_go HB.out hb) (.cells #[.int .i64 17, .int .i64 m] 25))
            have HR2 := Lib.hid ((HR1.out.bel hb).al (.cells #[.int .i64 17, .int .i64 m] 25))
            have HX2 := Lib.hid (hr2.al (.cells #[.int .i64 17, .int .i64 m] 25))
            clear hb HB hr2 hf2 HR1
            generalize w2.heap.size = g at *
            generalize w2.alloc (.cells #[.int .i64 17, .int .i64 m] 25) = w3 at *
            go_upto_region 10 with (first | (go_at_call 14; ((with_reducible refine (HK.out _).mono ?_); rintro e w4 ⟨rfl, hb⟩; have K4 := Lib.hid (K.out.bel hb); have HB4 := Lib.hid (below_go HB2.out hb); have HR4 := Lib.hid (HR2.out.bel hb); have HX4 := Lib.hid (HX2.out.bel hb); clear hb K HB2 HR2 HX2)) | (go_at_call 16; ((with_reducible refine (HF.out _ HR4.out).mono ?_); rintro e w' ⟨rfl, rfl⟩)))
            have sr := fun (s : Bel w4) => HR4.out.bel s.below
            have SR := Lib.hid sr
            clear sr
            have sk := K4.out.s
            refine wp_region_bel (by kernel_rfl) (by kernel_rfl) ?_
            repeat (go_big_quiet_step ((first | (go_at_call 15; with_reducible exact bel_bel (rAt_calls _ _ _)) | (go_at_call 16; with_reducible exact bel_eq (HF.out _ (SR.out _))))))
            refine wpQuiet_nil ?_
            rintro _ ⟨s0, rfl⟩
            have hb0 := Lib.hid (below_go HB4.out s0.below)
            generalize s0.w = w9 at *
            clear s0 sk
            go_wp2
            go_ret
            exact ⟨rfl, hb0.out⟩
        · have hm2 : m < 0 := by omega
          rw [has_ hke2 hlen hm2] at hE
          have HE := Lib.hid hE
          clear hE hbad has_ hok hke hke2 hk2 hk4 hlen hm
          rcases tf e with he | he
          all_goals
            subst he
            go_enter Tryd.func3, Tryd.ntmps3
            go_upto_region 3 with (go_at_call 12; ((with_reducible refine (HX.out _).mono ?_); rintro e w1 ⟨rfl, hb⟩; have HB := Lib.hid hb; have HR1 := Lib.hid (HR.out.bel hb); clear hb HR))
            go_upto_region 4 with (go_at_call 13; ((with_reducible refine (HE.out _ HR1.out).mono ?_); rintro e w2 ⟨A2, c2, rfl, hr2, hf2, hb⟩; skip))
            have K := Lib.hid (Bk.new w2 25 #[.int .i64 0, .int .i64 0])
            have HB2 := Lib.hid (below_al (below_go HB.out hb) (.cells #[.int .i64 0, .int .i64 0] 25))
            have HR2 := Lib.hid ((HR1.out.bel hb).al (.cells #[.int .i64 0, .int .i64 0] 25))
            have HX2 := Lib.hid (hr2.al (.cells #[.int .i64 0, .int .i64 0] 25))
            clear hb HB hr2 hf2 HR1
            generalize w2.heap.size = g at *
            generalize w2.alloc (.cells #[.int .i64 0, .int .i64 0] 25) = w3 at *
            go_wp2_with (first
              | (go_at_call 14; ((with_reducible refine (HK.out _).mono ?_); rintro e w4 ⟨rfl, hb⟩; have K4 := Lib.hid (K.out.bel hb); have HB4 := Lib.hid (below_go HB2.out hb); have HR4 := Lib.hid (HR2.out.bel hb); have HX4 := Lib.hid (HX2.out.bel hb); clear hb K HB2 HR2 HX2; have ck := K4.out.cell))
              | (go_at_call 16; ((with_reducible refine (HF.out _ HR4.out).mono ?_); rintro e w' ⟨rfl, rfl⟩))
              | (go_at_call 18; ((with_reducible refine (HT.out _ HR4.out).mono ?_); rintro e w5 ⟨A5, c5, rfl, hr5, hb⟩; have HB5 := Lib.hid (below_go HB4.out hb); have HX5 := Lib.hid (HX4.out.bel hb); have HR5 := Lib.hid hr5; clear hb hr5 ck))
              | (go_at_call 17; ((with_reducible refine (rbytes_calls HX5.out HR5.out).mono ?_); rintro e w' ⟨rfl, rfl⟩)))
            go_ret
            exact ⟨by simp, HB5.out⟩
      · have k2 : 2 ≤ k := by omega
        rw [hok (by omega) hlen] at hE
        have HE := Lib.hid hE
        clear hE hbad has_ hok hke hk2 hk4 hlen
        go_enter Tryd.func3, Tryd.ntmps3
        go_upto_region 3 with (go_at_call 12; ((with_reducible refine (HX.out _).mono ?_); rintro e w1 ⟨rfl, hb⟩; have HB := Lib.hid hb; have HR1 := Lib.hid (HR.out.bel hb); clear hb HR))
        go_upto_region 4 with (go_at_call 13; ((with_reducible refine (HE.out _ HR1.out).mono ?_); rintro e w2 ⟨A2, c2, rfl, hr2, hf2, hb⟩; skip))
        have K := Lib.hid (Bk.new w2 25 #[.int .i64 0, .int .i64 0])
        have HB2 := Lib.hid (below_al (below_go HB.out hb) (.cells #[.int .i64 0, .int .i64 0] 25))
        have HR2 := Lib.hid ((HR1.out.bel hb).al (.cells #[.int .i64 0, .int .i64 0] 25))
        have HX2 := Lib.hid (hr2.al (.cells #[.int .i64 0, .int .i64 0] 25))
        clear hb HB hr2 hf2 HR1
        generalize w2.heap.size = g at *
        generalize w2.alloc (.cells #[.int .i64 0, .int .i64 0] 25) = w3 at *
        go_wp2_with (first
          | (go_at_call 14; ((with_reducible refine (HK.out _).mono ?_); rintro e w4 ⟨rfl, hb⟩; have K4 := Lib.hid (K.out.bel hb); have HB4 := Lib.hid (below_go HB2.out hb); have HR4 := Lib.hid (HR2.out.bel hb); have HX4 := Lib.hid (HX2.out.bel hb); clear hb K HB2 HR2 HX2; have ck := K4.out.cell))
          | (go_at_call 16; ((with_reducible refine (HF.out _ HR4.out).mono ?_); rintro e w' ⟨rfl, rfl⟩))
          | (go_at_call 18; ((with_reducible refine (HT.out _ HR4.out).mono ?_); rintro e w5 ⟨A5, c5, rfl, hr5, hb⟩; have HB5 := Lib.hid (below_go HB4.out hb); have HX5 := Lib.hid (HX4.out.bel hb); have HR5 := Lib.hid hr5; clear hb hr5 ck))
          | (go_at_call 17; ((with_reducible refine (rbytes_calls HX5.out HR5.out).mono ?_); rintro e w' ⟨rfl, rfl⟩)))
        go_ret
        exact ⟨by simp, HB5.out⟩
set_option maxHeartbeats 4000000 in
set_option maxRecDepth 20000 in
theorem lawdecode_walk (A : Option Addr) (l : List UInt8) (c : Nat) (n : ByteArray) (w : World) (h : Rd w bv A l) (hc : l.length ≤ c) (hc63 : c ≤ 9223372036854775807) (hA : A = none → c = 0) (hn : n.size ≤ maxLen) :
    Calls Tryd.prog 4 #[.slice A l.length c, .string n] w fun e w' => e = .returned (.bool true) ∧ Below w.heap.size w w' := by
  have hX := fun W => example_calls W
  have hE := fun W R => decode_calls A l c n (lenE l) W R hc hc63 hn (fun _ W R => lenient_calls A l c W R)
  have hK := fun W => rcodingof_calls n W hn
  have hu28 := Tryd.underlying25
  have hr := cod_range n
  generalize codingOf n = k at *
  have HX := Lib.hid hX
  have HK := Lib.hid hK
  have HR := Lib.hid h
  clear hX hK
  rcases Classical.em (k = -1) with hk | hk
  · subst hk
    rw [dec_none] at hE
    have HE := Lib.hid hE
    clear hE hr h
    go_enter Tryd.func4, Tryd.ntmps4
    go_upto_region 3 with (go_at_call 12; ((with_reducible refine (HX.out _).mono ?_); rintro e w1 ⟨rfl, hb⟩; have HB := Lib.hid hb; have HR1 := Lib.hid (HR.out.bel hb); clear hb HR))
    go_upto_region 4 with (go_at_call 19; ((with_reducible refine (HE.out _ HR1.out).mono ?_); rintro e w2 ⟨A2, c2, rfl, hr2, hf2, hb⟩; skip))
    have K := Lib.hid (Bk.new w2 25 #[.int .i64 18, .int .i64 (-3)])
    have HB2 := Lib.hid (below_al (below_go HB.out hb) (.cells #[.int .i64 18, .int .i64 (-3)] 25))
    have HR2 := Lib.hid ((HR1.out.bel hb).al (.cells #[.int .i64 18, .int .i64 (-3)] 25))
    have HX2 := Lib.hid (hr2.al (.cells #[.int .i64 18, .int .i64 (-3)] 25))
    clear hb HB hr2 hf2 HR1
    generalize w2.heap.size = g at *
    generalize w2.alloc (.cells #[.int .i64 18, .int .i64 (-3)] 25) = w3 at *
    go_upto_region 6 with (go_at_call 14; ((with_reducible refine (HK.out _).mono ?_); rintro e w4 ⟨rfl, hb⟩; have K4 := Lib.hid (K.out.bel hb); have HB4 := Lib.hid (below_go HB2.out hb); have HR4 := Lib.hid (HR2.out.bel hb); have HX4 := Lib.hid (HX2.out.bel hb); clear hb K HB2 HR2 HX2))
    have sk := K4.out.s
    refine wp_region_bel (by kernel_rfl) (by kernel_rfl) ?_
    repeat (go_big_quiet_step ((go_at_call 15; with_reducible exact bel_bel (rAt_calls _ _ _))))
    refine wpQuiet_nil ?_
    rintro _ ⟨s0, rfl⟩
    have hb0 := Lib.hid (below_go HB4.out s0.below)
    generalize s0.w = w9 at *
    clear s0 sk
    go_wp2
    go_ret
    exact ⟨rfl, hb0.out⟩
  · have hk4 : k = 0 ∨ k = 1 ∨ k = 2 ∨ k = 3 := by omega
    have k0 : 0 ≤ k := by omega
    by_cases hlen : 12000 < l.length
    · rw [dec_big l k hk4 hlen] at hE
      have HE := Lib.hid hE
      have g1 : (12000 : Int) < (l.length : Int) := by omega
      clear hE hr h hk hk4
      go_enter Tryd.func4, Tryd.ntmps4
      go_upto_region 3 with (go_at_call 12; ((with_reducible refine (HX.out _).mono ?_); rintro e w1 ⟨rfl, hb⟩; have HB := Lib.hid hb; have HR1 := Lib.hid (HR.out.bel hb); clear hb HR))
      go_upto_region 4 with (go_at_call 19; ((with_reducible refine (HE.out _ HR1.out).mono ?_); rintro e w2 ⟨A2, c2, rfl, hr2, hf2, hb⟩; skip))
      have K := Lib.hid (Bk.new w2 25 #[.int .i64 1, .int .i64 (-1)])
      have HB2 := Lib.hid (below_al (below_go HB.out hb) (.cells #[.int .i64 1, .int .i64 (-1)] 25))
      have HR2 := Lib.hid ((HR1.out.bel hb).al (.cells #[.int .i64 1, .int .i64 (-1)] 25))
      have HX2 := Lib.hid (hr2.al (.cells #[.int .i64 1, .int .i64 (-1)] 25))
      clear hb HB hr2 hf2 HR1
      generalize w2.heap.size = g at *
      generalize w2.alloc (.cells #[.int .i64 1, .int .i64 (-1)] 25) = w3 at *
      go_upto_region 8 with (go_at_call 14; ((with_reducible refine (HK.out _).mono ?_); rintro e w4 ⟨rfl, hb⟩; have K4 := Lib.hid (K.out.bel hb); have HB4 := Lib.hid (below_go HB2.out hb); have HR4 := Lib.hid (HR2.out.bel hb); have HX4 := Lib.hid (HX2.out.bel hb); clear hb K HB2 HR2 HX2))
      have sk := K4.out.s
      refine wp_region_bel (by kernel_rfl) (by kernel_rfl) ?_
      repeat (go_big_quiet_step ((go_at_call 15; with_reducible exact bel_bel (rAt_calls _ _ _))))
      refine wpQuiet_nil ?_
      rintro _ ⟨s0, rfl⟩
      have hb0 := Lib.hid (below_go HB4.out s0.below)
      generalize s0.w = w9 at *
      clear s0 sk
      go_wp2
      go_ret
      exact ⟨rfl, hb0.out⟩
    · have g1 : (l.length : Int) ≤ 12000 := by omega
      have hT := fun W R => untransferred_calls A l c k W R (by omega) hc hc63
      rw [dec_ok l k hk4 hlen] at hE
      generalize unF l k = v at *
      have HT := Lib.hid hT
      have HE := Lib.hid hE
      clear hT hE hr h hk hA hk4 hlen
      go_enter Tryd.func4, Tryd.ntmps4
      go_upto_region 3 with (go_at_call 12; ((with_reducible refine (HX.out _).mono ?_); rintro e w1 ⟨rfl, hb⟩; have HB := Lib.hid hb; have HR1 := Lib.hid (HR.out.bel hb); clear hb HR))
      go_upto_region 4 with (go_at_call 19; ((with_reducible refine (HE.out _ HR1.out).mono ?_); rintro e w2 ⟨A2, c2, rfl, hr2, hf2, hb⟩; skip))
      have K := Lib.hid (Bk.new w2 25 #[.int .i64 0, .int .i64 0])
      have HB2 := Lib.hid (below_al (below_go HB.out hb) (.cells #[.int .i64 0, .int .i64 0] 25))
      have HR2 := Lib.hid ((HR1.out.bel hb).al (.cells #[.int .i64 0, .int .i64 0] 25))
      have HX2 := Lib.hid (hr2.al (.cells #[.int .i64 0, .int .i64 0] 25))
      clear hb HB hr2 hf2 HR1
      generalize w2.heap.size = g at *
      generalize w2.alloc (.cells #[.int .i64 0, .int .i64 0] 25) = w3 at *
      go_wp2_with (first
        | (go_at_call 14; ((with_reducible refine (HK.out _).mono ?_); rintro e w4 ⟨rfl, hb⟩; have K4 := Lib.hid (K.out.bel hb); have HB4 := Lib.hid (below_go HB2.out hb); have HR4 := Lib.hid (HR2.out.bel hb); have HX4 := Lib.hid (HX2.out.bel hb); clear hb K HB2 HR2 HX2; have ck := K4.out.cell))
        | (go_at_call 20; ((with_reducible refine (HT.out _ HR4.out).mono ?_); rintro e w5 ⟨A5, c5, rfl, hr5, hb⟩; have HB5 := Lib.hid (below_go HB4.out hb); have HX5 := Lib.hid (HX4.out.bel hb); have HR5 := Lib.hid hr5; clear hb hr5 ck))
        | (go_at_call 17; ((with_reducible refine (rbytes_calls HX5.out HR5.out).mono ?_); rintro e w' ⟨rfl, rfl⟩)))
      go_ret
      exact ⟨by simp, HB5.out⟩
end Go.Proofs.YtjgohmfmalcjoaaDoor.TrW
