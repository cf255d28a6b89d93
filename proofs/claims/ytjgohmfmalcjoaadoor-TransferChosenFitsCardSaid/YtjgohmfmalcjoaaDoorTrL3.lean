import Derived.Test.YtjgohmfmalcjoaaDoorTrL2
/- Walks: the laws TransferRoundTrip and TransferChosenFits. -/
namespace Go.Proofs.YtjgohmfmalcjoaaDoor.Tr
theorem enc_cases (l : List UInt8) (k : Int) (hk : k = 0 ∨ k = 1 ∨ k = 2 ∨ k = 3 ∨ k = -1) : (∃ f0 f1, f0 ≠ 0 ∧ encF (b64E l) k l = ([], (f0, f1))) ∨ ((k = 0 ∨ k = 1 ∨ k = 2 ∨ k = 3) ∧ encF (b64E l) k l = (trF l k, (0, 0))) := by
  rcases Classical.em (k = -1) with h | h
  · subst h
    exact .inl ⟨18, -3, by decide, enc_none _ _⟩
  · have hk4 : k = 0 ∨ k = 1 ∨ k = 2 ∨ k = 3 := by omega
    by_cases hlen : 12000 < l.length
    · exact .inl ⟨1, -1, by decide, enc_big l k hk4 hlen⟩
    · have as_ : ∀ e, ((k = 0 ∧ e = false) ∨ (k = 1 ∧ e = true)) → (∃ f0 f1, f0 ≠ 0 ∧ encF (b64E l) k l = ([], (f0, f1))) ∨ ((k = 0 ∨ k = 1 ∨ k = 2 ∨ k = 3) ∧ encF (b64E l) k l = (trF l k, (0, 0))) := fun e he => by
        by_cases hr : 0 ≤ refL e l
        · exact .inl ⟨17, refL e l, by decide, enc_bad l k e he hlen hr⟩
        · exact .inr ⟨hk4, enc_as l k e he hlen (by omega)⟩
      rcases hk4 with rfl | rfl | rfl | rfl
      · exact as_ false (.inl ⟨rfl, rfl⟩)
      · exact as_ true (.inr ⟨rfl, rfl⟩)
      · exact .inr ⟨by omega, enc_ok l 2 (.inl rfl) hlen⟩
      · exact .inr ⟨by omega, enc_ok l 3 (.inr rfl) hlen⟩
theorem un_tr (l : List UInt8) (k : Int) : unF (trF l k) k = l := by
  unfold unF trF
  by_cases h2 : k = 2
  · rw [if_pos h2, if_pos h2]; exact base64_back l
  · rw [if_neg h2, if_neg h2]
    by_cases h3 : k = 3
    · rw [if_pos h3, if_pos h3]; exact quoted_back l
    · rw [if_neg h3, if_neg h3]
theorem cod_7 : codingOf nm7 = 0 := by decide +kernel
theorem cod_Q : codingOf nmQ = 3 := by decide +kernel
theorem cod_64 : codingOf nm64 = 2 := by decide +kernel
/-- the chosen encoding, and what it makes of the bytes. -/
theorem cho_cases (l : List UInt8) (h : ¬ 12000 < l.length) : ∃ s x, choF l = (s, (0, 0)) ∧ s.size ≤ maxLen ∧ (∀ b, b = b64E l → encF b (codingOf s) l = (x, (0, 0))) ∧ refL false x < 0 := by
  unfold choF
  rw [if_neg h]
  by_cases h1 : refL false l < 0
  · rw [if_pos h1]
    refine ⟨nm7, l, rfl, by decide, fun b hb => ?_, h1⟩
    rw [cod_7, hb, enc_as l 0 false (.inl ⟨rfl, rfl⟩) h h1]
    rfl
  · rw [if_neg h1]
    by_cases h2 : (quoL l).length ≤ len64 l.length
    · rw [if_pos h2]
      refine ⟨nmQ, quoL l, rfl, by decide, fun b hb => ?_, by rw [quoted_fits]; decide⟩
      rw [cod_Q, hb, enc_ok l 3 (.inr rfl) h]
      rfl
    · rw [if_neg h2]
      refine ⟨nm64, lines64 l, rfl, by decide, fun b hb => ?_, by rw [base64_fits]; decide⟩
      rw [cod_64, hb, enc_ok l 2 (.inl rfl) h]
      rfl
theorem enc_7 (b : List UInt8 × (Int × Int)) (x : List UInt8) (h : ¬ 12000 < x.length) (hr : refL false x < 0) : encF b (codingOf nm7) x = (x, (0, 0)) := by
  have hr' : ¬ 0 ≤ refL false x := by omega
  rw [cod_7]
  unfold encF asF
  simp [h, hr']
end Go.Proofs.YtjgohmfmalcjoaaDoor.Tr
namespace Go.Proofs.YtjgohmfmalcjoaaDoor.TrW
open Go.RowKit Go.Proofs.YtjgohmfmalcjoaaDoor.Base Go.Proofs.YtjgohmfmalcjoaaDoor.Tr
set_option linter.unusedVariables false
set_option linter.unusedSimpArgs false
set_option maxHeartbeats 4000000 in
set_option maxRecDepth 20000 in
theorem lawround_walk (A : Option Addr) (l : List UInt8) (c : Nat) (n : ByteArray) (w : World) (h : Rd w bv A l) (hc : l.length ≤ c) (hc63 : c ≤ 9223372036854775807) (hA : A = none → c = 0) (hn : n.size ≤ maxLen) :
    Calls Tryd.prog 6 #[.slice A l.length c, .string n] w fun e w' => e = .returned (.bool true) ∧ Below w.heap.size w w' := by
  have hX := fun W => example_calls W
  have hE := fun W R => encode_calls A l c n (b64E l) W R hn (fun _ W R => b64enc_calls A l c W R hc hc63)
  have hu28 := Tryd.underlying25
  have HX := Lib.hid hX
  have HR := Lib.hid h
  rcases enc_cases l (codingOf n) (cod_range n) with ⟨f0, f1, hf, he⟩ | ⟨hk, he⟩
  · rw [he] at hE
    have HE := Lib.hid hE
    have q1 : (f0 != 0) = true := by simpa using hf
    have q2 : (f0 == 0) = false := by simpa using hf
    clear hX hE he hf h
    go_enter Tryd.func6, Tryd.ntmps6
    go_upto_region 3 with (go_at_call 12; ((with_reducible refine (HX.out _).mono ?_); rintro e w1 ⟨rfl, hb⟩; have HB := Lib.hid hb; have HR1 := Lib.hid (HR.out.bel hb); clear hb HR))
    go_upto_region 4 with (go_at_call 13; ((with_reducible refine (HE.out _ HR1.out).mono ?_); rintro e w2 ⟨A2, c2, rfl, hr2, hf2, hb⟩; skip))
    have K := Lib.hid (Bk.new w2 25 #[.int .i64 f0, .int .i64 f1])
    have HB2 := Lib.hid (below_al (below_go HB.out hb) (.cells #[.int .i64 f0, .int .i64 f1] 25))
    clear hb HB hr2 hf2 HR1
    generalize w2.heap.size = g at *
    generalize w2.alloc (.cells #[.int .i64 f0, .int .i64 f1] 25) = w3 at *
    have ck := K.out.cell
    go_wp2
    go_ret
    exact ⟨rfl, HB2.out⟩
  · rw [he] at hE
    have hD : ∀ A2 c2 W, Rd W bv A2 (trF l (codingOf n)) → (trF l (codingOf n)).length ≤ c2 → c2 ≤ 9223372036854775807 → ¬ 12000 < (trF l (codingOf n)).length → Calls Tryd.prog 19 #[.slice A2 (trF l (codingOf n)).length c2, .string n] W (GivesBF W l (0, 0)) := fun A2 c2 W R h1 h2 h3 => by
      have := decode_calls A2 (trF l (codingOf n)) c2 n (lenE (trF l (codingOf n))) W R h1 h2 hn (fun _ W R => lenient_calls A2 _ c2 W R)
      rw [dec_ok _ _ hk h3, un_tr] at this
      exact this
    generalize trF l (codingOf n) = x at *
    have HE := Lib.hid hE
    have HD := Lib.hid hD
    clear hX hE hD he h hk
    by_cases hx : 12000 < x.length
    · have g2 : (12000 : Int) < (x.length : Int) := by omega
      go_enter Tryd.func6, Tryd.ntmps6
      go_upto_region 3 with (go_at_call 12; ((with_reducible refine (HX.out _).mono ?_); rintro e w1 ⟨rfl, hb⟩; have HB := Lib.hid hb; have HR1 := Lib.hid (HR.out.bel hb); clear hb HR))
      go_upto_region 4 with (go_at_call 13; ((with_reducible refine (HE.out _ HR1.out).mono ?_); rintro e w2 ⟨A2, c2, rfl, hr2, hf2, hb⟩; skip))
      have K := Lib.hid (Bk.new w2 25 #[.int .i64 0, .int .i64 0])
      have HB2 := Lib.hid (below_al (below_go HB.out hb) (.cells #[.int .i64 0, .int .i64 0] 25))
      clear hb HB hr2 hf2 HR1
      generalize w2.heap.size = g at *
      generalize w2.alloc (.cells #[.int .i64 0, .int .i64 0] 25) = w3 at *
      have ck := K.out.cell
      go_wp2
      go_ret
      exact ⟨rfl, HB2.out⟩
    · have g2 : (x.length : Int) ≤ 12000 := by omega
      go_enter Tryd.func6, Tryd.ntmps6
      go_upto_region 3 with (go_at_call 12; ((with_reducible refine (HX.out _).mono ?_); rintro e w1 ⟨rfl, hb⟩; have HB := Lib.hid hb; have HR1 := Lib.hid (HR.out.bel hb); clear hb HR))
      go_upto_region 4 with (go_at_call 13; ((with_reducible refine (HE.out _ HR1.out).mono ?_); rintro e w2 ⟨A2, c2, rfl, hr2, hf2, hb⟩; skip))
      have K := Lib.hid (Bk.new w2 25 #[.int .i64 0, .int .i64 0])
      have HB2 := Lib.hid (below_al (below_go HB.out hb) (.cells #[.int .i64 0, .int .i64 0] 25))
      have HR2 := Lib.hid ((HR1.out.bel hb).al (.cells #[.int .i64 0, .int .i64 0] 25))
      have HX2 := Lib.hid (hr2.al (.cells #[.int .i64 0, .int .i64 0] 25))
      have HCA := Lib.hid hf2
      clear hb HB hr2 hf2 HR1
      generalize w2.heap.size = g at *
      generalize w2.alloc (.cells #[.int .i64 0, .int .i64 0] 25) = w3 at *
      have ck := K.out.cell
      go_upto_region 7 with (go_at_call 19; ((with_reducible refine (HD.out _ _ _ HX2.out HCA.out.le HCA.out.mx hx).mono ?_); rintro e w4 ⟨A4, c4, rfl, hr4, hf4, hb⟩; skip))
      have K2 := Lib.hid (Bk.new w4 25 #[.int .i64 0, .int .i64 0])
      have HB4 := Lib.hid (below_al (below_go HB2.out hb) (.cells #[.int .i64 0, .int .i64 0] 25))
      have HR4 := Lib.hid ((HR2.out.bel hb).al (.cells #[.int .i64 0, .int .i64 0] 25))
      have HX4 := Lib.hid (hr4.al (.cells #[.int .i64 0, .int .i64 0] 25))
      clear hb HB2 hr4 hf4 HR2 HX2 HCA ck K
      generalize w4.heap.size = g4 at *
      generalize w4.alloc (.cells #[.int .i64 0, .int .i64 0] 25) = w5 at *
      have ck := K2.out.cell
      go_wp2_with (go_at_call 17; ((with_reducible refine (rbytes_calls HX4.out HR4.out).mono ?_); rintro e w' ⟨rfl, rfl⟩))
      go_ret
      exact ⟨by simp, HB4.out⟩
set_option maxHeartbeats 4000000 in
set_option maxRecDepth 20000 in
theorem lawfits_walk (A : Option Addr) (l : List UInt8) (c : Nat) (w : World) (h : Rd w bv A l) (hc : l.length ≤ c) (hc63 : c ≤ 9223372036854775807) (hA : A = none → c = 0) :
    Calls Tryd.prog 7 #[.slice A l.length c] w fun e w' => e = .returned (.bool true) ∧ Below w.heap.size w w' := by
  have hX := fun W => example_calls W
  have hC := fun W R => choose_calls A l c W R
  have hu28 := Tryd.underlying25
  have HX := Lib.hid hX
  have HR := Lib.hid h
  by_cases hlen : 12000 < l.length
  · have hv : choF l = (⟨#[]⟩, (1, -1)) := by unfold choF; rw [if_pos hlen]
    rw [hv] at hC
    have HC := Lib.hid hC
    clear hX hC hv h
    go_enter Tryd.func7, Tryd.ntmps7
    go_upto_region 3 with (go_at_call 12; ((with_reducible refine (HX.out _).mono ?_); rintro e w1 ⟨rfl, hb⟩; have HB := Lib.hid hb; have HR1 := Lib.hid (HR.out.bel hb); clear hb HR))
    go_upto_region 4 with (go_at_call 21; ((with_reducible refine (HC.out _ HR1.out).mono ?_); rintro e w2 ⟨rfl, hb⟩; skip))
    have K := Lib.hid (Bk.new w2 25 #[.int .i64 1, .int .i64 (-1)])
    have HB2 := Lib.hid (below_al (below_go HB.out hb) (.cells #[.int .i64 1, .int .i64 (-1)] 25))
    clear hb HB HR1
    generalize w2.heap.size = g at *
    generalize w2.alloc (.cells #[.int .i64 1, .int .i64 (-1)] 25) = w3 at *
    have ck := K.out.cell
    go_wp2
    go_ret
    exact ⟨rfl, HB2.out⟩
  · obtain ⟨s, x, hv, hs, he, hr⟩ := cho_cases l hlen
    rw [hv] at hC
    have hE : ∀ W, Rd W bv A l → Calls Tryd.prog 13 #[.slice A l.length c, .string s] W (GivesBF W x (0, 0)) := fun W R => by
      have := encode_calls A l c s (b64E l) W R hs (fun _ W R => b64enc_calls A l c W R hc hc63)
      rw [he _ rfl] at this
      exact this
    have hE7 : ∀ A2 c2 W, Rd W bv A2 x → ¬ 12000 < x.length → Calls Tryd.prog 13 #[.slice A2 x.length c2, .string ⟨#[55, 98, 105, 116]⟩] W (GivesBF W x (0, 0)) := fun A2 c2 W R h3 => by
      have := encode_calls A2 x c2 nm7 ([], (0, 0)) W R (by decide) (fun h => absurd h (by decide +kernel))
      rw [enc_7 _ x h3 hr] at this
      exact this
    have HC := Lib.hid hC
    have HE := Lib.hid hE
    have HE7 := Lib.hid hE7
    clear hX hC hE hE7 hv he hr h
    by_cases hx : 12000 < x.length
    all_goals
      first
        | have g2 : (12000 : Int) < (x.length : Int) := by omega
        | have g2 : (x.length : Int) ≤ 12000 := by omega
      go_enter Tryd.func7, Tryd.ntmps7
      go_upto_region 3 with (go_at_call 12; ((with_reducible refine (HX.out _).mono ?_); rintro e w1 ⟨rfl, hb⟩; have HB := Lib.hid hb; have HR1 := Lib.hid (HR.out.bel hb); clear hb HR))
      go_upto_region 4 with (go_at_call 21; ((with_reducible refine (HC.out _ HR1.out).mono ?_); rintro e w2 ⟨rfl, hb⟩; skip))
      have K := Lib.hid (Bk.new w2 25 #[.int .i64 0, .int .i64 0])
      have HB2 := Lib.hid (below_al (below_go HB.out hb) (.cells #[.int .i64 0, .int .i64 0] 25))
      have HR2 := Lib.hid ((HR1.out.bel hb).al (.cells #[.int .i64 0, .int .i64 0] 25))
      clear hb HB HR1
      generalize w2.heap.size = g at *
      generalize w2.alloc (.cells #[.int .i64 0, .int .i64 0] 25) = w3 at *
      have ck := K.out.cell
      go_upto_region 7 with (go_at_call 13; ((with_reducible refine (HE.out _ HR2.out).mono ?_); rintro e w4 ⟨A4, c4, rfl, hr4, hf4, hb⟩; skip))
      have K2 := Lib.hid (Bk.new w4 25 #[.int .i64 0, .int .i64 0])
      have HB4 := Lib.hid (below_al (below_go HB2.out hb) (.cells #[.int .i64 0, .int .i64 0] 25))
      have HX4 := Lib.hid (hr4.al (.cells #[.int .i64 0, .int .i64 0] 25))
      clear hb HB2 hr4 hf4 HR2 ck K
      generalize w4.heap.size = g4 at *
      generalize w4.alloc (.cells #[.int .i64 0, .int .i64 0] 25) = w5 at *
      have ck := K2.out.cell
    · go_wp2
      go_ret
      exact ⟨rfl, HB4.out⟩
    · go_upto_region 10 with (go_at_call 13; ((with_reducible refine (HE7.out _ _ _ HX4.out hx).mono ?_); rintro e w6 ⟨A6, c6, rfl, hr6, hf6, hb⟩; skip))
      have K3 := Lib.hid (Bk.new w6 25 #[.int .i64 0, .int .i64 0])
      have HB6 := Lib.hid (below_al (below_go HB4.out hb) (.cells #[.int .i64 0, .int .i64 0] 25))
      have HX6 := Lib.hid ((HX4.out.bel hb).al (.cells #[.int .i64 0, .int .i64 0] 25))
      have HY6 := Lib.hid (hr6.al (.cells #[.int .i64 0, .int .i64 0] 25))
      clear hb HB4 hr6 hf6 HX4 ck K2
      generalize w6.heap.size = g6 at *
      generalize w6.alloc (.cells #[.int .i64 0, .int .i64 0] 25) = w7 at *
      have ck := K3.out.cell
      go_wp2_with (go_at_call 17; ((with_reducible refine (rbytes_calls HX6.out HY6.out).mono ?_); rintro e w' ⟨rfl, rfl⟩))
      go_ret
      exact ⟨by simp, HB6.out⟩
end Go.Proofs.YtjgohmfmalcjoaaDoor.TrW
