import Derived.Test.YtjgohmfmalcjoaaDoorTrW19
/- Walks: the examples of package transfer. -/
namespace Go.Proofs.YtjgohmfmalcjoaaDoor.Tr
theorem ex_enc (b : List UInt8 × (Int × Int)) : encF b (codingOf nm7) [200] = ([], (17, 0)) := by
  have : codingOf nm7 = 0 := by decide +kernel
  rw [this]
  show asF false [200] = _
  decide +kernel
theorem ex_dec (b : List UInt8 × (Int × Int)) : decF b (codingOf nmQ) [61, 52, 49] = ([65], (0, 0)) := by
  have : codingOf nmQ = 3 := by decide +kernel
  rw [this]
  show qloE [61, 52, 49] = _
  decide +kernel
theorem ex_cho : choF [200, 200, 200] = (nm64, (0, 0)) := by
  have h1 : refL false [200, 200, 200] = 0 := by decide +kernel
  have h2 : (quoL [200, 200, 200]).length = 9 := by decide +kernel
  unfold choF
  rw [if_neg (by decide), if_neg (by rw [h1]; decide), if_neg (by rw [h2]; decide)]
end Go.Proofs.YtjgohmfmalcjoaaDoor.Tr
namespace Go.Proofs.YtjgohmfmalcjoaaDoor.TrW
open Go.RowKit Go.Proofs.YtjgohmfmalcjoaaDoor.Base Go.Proofs.YtjgohmfmalcjoaaDoor.Tr
set_option linter.unusedVariables false
set_option linter.unusedSimpArgs false
theorem eqA25 (d : Nat) (w : World) (x0 y0 x1 y1 : Int) :
    (Op.equalIn (d + 2) 25 (.agg #[.int .i64 x0, .int .i64 x1]) (.agg #[.int .i64 y0, .int .i64 y1])).run Tryd.prog w = .ok (x0 == y0 && x1 == y1) w := by
  refine sq_of Tryd.underlying25 (by kernel_rfl) ?_
  refine sq_cons (by rfl) (by go_simp; rfl) (by go_simp; rfl) (by go_simp) ?_
  exact sq_last (by rfl) (by go_simp; rfl) (by go_simp; rfl) (by go_simp)
attribute [local go_sem high] eqA25
set_option maxHeartbeats 1000000 in
set_option maxRecDepth 20000 in
theorem example_calls (w : World) :
    Calls Tryd.prog 12 #[] w fun e w' => e = .returned (.bool true) ∧ Below w.heap.size w w' := by
  have hu28 := Tryd.underlying25
  have kc := fun (w : World) (C : Array Value) (n c : Nat) => Lib.run_convert_bytes_const (P := Tryd.prog) w 22 5 C n c Tryd.underlying22 Tryd.underlying5
  have hE := fun (W : World) => encode_calls (some ⟨W.heap.size, 0, none⟩) [200] 1 nm7 ([], (0, 0)) (W.alloc (.cells #[.int .u8 200] 5)) (rd_new (r := [200]) (Bk.new W _ _) rfl) (by decide) (fun h => absurd h (by decide +kernel))
  have hD := fun (W : World) => decode_calls (some ⟨W.heap.size, 0, none⟩) [61, 52, 49] 3 nmQ ([], (0, 0)) (W.alloc (.cells #[.int .u8 61, .int .u8 52, .int .u8 49] 5 (3, 4))) (rd_marked (l := [61, 52, 49])) (by decide) (by decide) (by decide) (fun h => absurd h (by decide +kernel))
  have hC := fun (W : World) => choose_calls (some ⟨W.heap.size, 0, none⟩) [200, 200, 200] 3 (W.alloc (.cells #[.int .u8 200, .int .u8 200, .int .u8 200] 5)) (rd_new (r := [200, 200, 200]) (Bk.new W _ _) rfl)
  simp only [ex_enc] at hE
  simp only [ex_dec] at hD
  simp only [ex_cho] at hC
  have hE2 : ∀ W : World, Calls Tryd.prog 13 #[.slice (some ⟨W.heap.size, 0, none⟩) 1 1, .string ⟨#[55, 98, 105, 116]⟩] (W.alloc (.cells #[.int .u8 200] 5)) (GivesBF (W.alloc (.cells #[.int .u8 200] 5)) [] (17, 0)) := hE
  have hD2 : ∀ W : World, Calls Tryd.prog 19 #[.slice (some ⟨W.heap.size, 0, none⟩) 3 3, .string ⟨#[113, 117, 111, 116, 101, 100, 45, 112, 114, 105, 110, 116, 97, 98, 108, 101]⟩] (W.alloc (.cells #[.int .u8 61, .int .u8 52, .int .u8 49] 5 (3, 4))) (GivesBF (W.alloc (.cells #[.int .u8 61, .int .u8 52, .int .u8 49] 5 (3, 4))) [65] (0, 0)) := hD
  have hC2 : ∀ W : World, Calls Tryd.prog 21 #[.slice (some ⟨W.heap.size, 0, none⟩) 3 3] (W.alloc (.cells #[.int .u8 200, .int .u8 200, .int .u8 200] 5)) (fun e w' => e = .returned (.tuple #[.string nm64, .agg #[.int .i64 0, .int .i64 0]]) ∧ Below (W.alloc (.cells #[.int .u8 200, .int .u8 200, .int .u8 200] 5)).heap.size (W.alloc (.cells #[.int .u8 200, .int .u8 200, .int .u8 200] 5)) w') := hC
  have HE := Lib.hid hE2
  have HD := Lib.hid hD2
  have HC := Lib.hid hC2
  clear hE hD hC hE2 hD2 hC2
  have HB : Hid (Below w.heap.size w w) := Lib.hid (Below.refl _ _)
  go_enter Tryd.func12, Tryd.ntmps12
  go_upto_region 2 with (go_at_call 13; ((with_reducible refine (HE.out _).mono ?_); rintro en w1 ⟨A1, c1, rfl, hr1, hf1, hb1⟩; skip))
  have K1 := Lib.hid (Bk.new w1 25 #[.int .i64 17, .int .i64 0])
  have HB1 := Lib.hid (below_al (below_go (below_al HB.out (.cells #[.int .u8 200] 5)) hb1) (.cells #[.int .i64 17, .int .i64 0] 25))
  clear hr1 hf1 hb1 HB
  generalize w1.heap.size = g1 at *
  generalize w1.alloc (.cells #[.int .i64 17, .int .i64 0] 25) = w2 at *
  go_upto_region 3 with (go_at_call 19; ((with_reducible refine (HD.out _).mono ?_); rintro en w3 ⟨A3, c3, rfl, hr3, hf3, hb3⟩; skip))
  have K2 := Lib.hid (((K1.out.al (.cells #[.int .u8 61, .int .u8 52, .int .u8 49] 5 (3, 4))).bel hb3).al (.cells #[.int .i64 0, .int .i64 0] 25))
  have L2 := Lib.hid (Bk.new w3 25 #[.int .i64 0, .int .i64 0])
  have R2 := Lib.hid (hr3.al (.cells #[.int .i64 0, .int .i64 0] 25))
  have HB2 := Lib.hid (below_al (below_go (below_al HB1.out (.cells #[.int .u8 61, .int .u8 52, .int .u8 49] 5 (3, 4))) hb3) (.cells #[.int .i64 0, .int .i64 0] 25))
  clear hr3 hf3 hb3 HB1 K1
  generalize w3.heap.size = g3 at *
  generalize w3.alloc (.cells #[.int .i64 0, .int .i64 0] 25) = w4 at *
  go_upto_region 4 with (go_at_call 21; ((with_reducible refine (HC.out _).mono ?_); rintro en w5 ⟨rfl, hb5⟩; skip))
  have K3 := Lib.hid (((K2.out.al (.cells #[.int .u8 200, .int .u8 200, .int .u8 200] 5)).bel hb5).al (.cells #[.int .i64 0, .int .i64 0] 25))
  have L3 := Lib.hid (((L2.out.al (.cells #[.int .u8 200, .int .u8 200, .int .u8 200] 5)).bel hb5).al (.cells #[.int .i64 0, .int .i64 0] 25))
  have M3 := Lib.hid (Bk.new w5 25 #[.int .i64 0, .int .i64 0])
  have R3 := Lib.hid (((R2.out.al (.cells #[.int .u8 200, .int .u8 200, .int .u8 200] 5)).bel hb5).al (.cells #[.int .i64 0, .int .i64 0] 25))
  have HB3 := Lib.hid (below_al (below_go (below_al HB2.out (.cells #[.int .u8 200, .int .u8 200, .int .u8 200] 5)) hb5) (.cells #[.int .i64 0, .int .i64 0] 25))
  clear hb5 HB2 K2 L2 R2
  generalize w5.heap.size = g5 at *
  generalize w5.alloc (.cells #[.int .i64 0, .int .i64 0] 25) = w6 at *
  have hnl : (nm64.toList == [98, 97, 115, 101, 54, 52]) = true := by rw [Lib.toList_data]; rfl
  have sk := K3.out.s
  have sl := L3.out.s
  have sm := M3.out.s
  have sr : ∀ s : Bel w6, (convert 22 9 (.slice A3 1 c3)).run Tryd.prog s.w = .ok (.string ⟨#[65]⟩) s.w := fun s => string_of (l := [65]) (R3.out.bel s.below)
  refine wp_region_bel (by kernel_rfl) (by kernel_rfl) ?_
  repeat (go_big_quiet_step ((go_at_call 15; exact bel_bel (rAt_calls _ _ _))))
  refine wpQuiet_nil ?_
  rintro _ ⟨s0, rfl⟩
  have hb0 := Lib.hid (below_go HB3.out s0.below)
  generalize s0.w = w9 at *
  clear s0 sk sl sm sr
  go_wp2
  go_ret
  exact ⟨rfl, hb0.out⟩
end Go.Proofs.YtjgohmfmalcjoaaDoor.TrW
