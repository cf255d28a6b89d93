import Derived.Test.YtjgohmfmalcjoaaDoorTrW17
/- Walks: transfer.Decode. -/
namespace Go.Proofs.YtjgohmfmalcjoaaDoor.Tr
/-- what Decode answers, of an encoding's number. -/
def decF (b64 : List UInt8 × (Int × Int)) (c : Int) (l : List UInt8) : List UInt8 × (Int × Int) := if c = -1 then ([], (18, -3)) else if 12000 < l.length then ([], (1, -1)) else if c = 2 then b64 else if c = 3 then qloE l else sameF l
end Go.Proofs.YtjgohmfmalcjoaaDoor.Tr
namespace Go.Proofs.YtjgohmfmalcjoaaDoor.TrW
open Go.RowKit Go.Proofs.YtjgohmfmalcjoaaDoor.Base Go.Proofs.YtjgohmfmalcjoaaDoor.Tr
set_option linter.unusedVariables false
set_option linter.unusedSimpArgs false
set_option maxHeartbeats 1000000 in
set_option maxRecDepth 20000 in
theorem decode_calls (A : Option Addr) (l : List UInt8) (c : Nat) (n : ByteArray) (b64 : List UInt8 × (Int × Int)) (w : World) (h : Rd w bv A l) (hc : l.length ≤ c) (hc63 : c ≤ 9223372036854775807) (hn : n.size ≤ maxLen) (h64 : codingOf n = 2 → ∀ W, Rd W bv A l → Calls Tryd.prog 88 #[.slice A l.length c] W (GivesBF W b64.1 b64.2)) :
    Calls Tryd.prog 19 #[.slice A l.length c, .string n] w (GivesBF w (decF b64 (codingOf n) l).1 (decF b64 (codingOf n) l).2) := by
  have hu28 := Tryd.underlying25
  have hu57 := Tryd.underlying57
  have BF := Lib.hid (Bk.new w 25 #[.int .i64 0, .int .i64 0])
  have HR := Lib.hid (h.al (.cells #[.int .i64 0, .int .i64 0] 25))
  have HB := Lib.hid (below_al (Below.refl w.heap.size w) (.cells #[.int .i64 0, .int .i64 0] 25))
  rcases cod_range n with hk | hk | hk | hk | hk
  · have hF := fun W => find0 n W hn hk
    have HF := Lib.hid hF
    rcases Nat.lt_or_ge 12000 l.length with hlen | hlen
    · have hv : decF b64 (codingOf n) l = ([], (1, -1)) := by rw [hk]; unfold decF; rw [if_neg (by omega), if_pos hlen]
      rw [hv]
      have g1 : (12000 : Int) < (l.length : Int) := by omega
      clear h hF h64 hn hk hv
      go_enter Tryd.func19, Tryd.ntmps19
      go_upto_region 1 with fail
      generalize w.alloc (.cells #[.int .i64 0, .int .i64 0] 25) = w0 at *
      go_upto_region 4 with (go_at_call 35; ((with_reducible refine (HF.out _).mono ?_); rintro en w1 ⟨g, rfl, hkb, hb1⟩; skip))
      have lt0 : w.heap.size < w0.heap.size := BF.out.lt
      have B1 := Lib.hid ((BF.out.bel hb1).al (.cells #[.string nm7, asV g, fnV 86] 57))
      have K1 := Lib.hid (Bk.new w1 57 #[.string nm7, asV g, fnV 86])
      have R1 := Lib.hid ((HR.out.bel hb1).al (.cells #[.string nm7, asV g, fnV 86] 57))
      have HB1 := Lib.hid (below_al (below_go HB.out hb1) (.cells #[.string nm7, asV g, fnV 86] 57))
      clear hb1 hkb BF HR HB HF
      generalize w1.heap.size = g9 at *
      generalize w1.alloc (.cells #[.string nm7, asV g, fnV 86] 57) = w2 at *
      have cf := B1.out.cell
      have ff := B1.out.frozen
      have ck := K1.out.cell
      go_wp2
      exact bodyPost_ret (res_tc Tryd.results19 rfl ((B1.out.put 0 (.int .i64 1)).put' (cs' := #[.int .i64 1, .int .i64 (-1)]) 1 (.int .i64 (-1)) rfl) hu28 rfl (by kernel_rfl)) rfl ⟨none, 0, rfl, Rd.nil, Fr.none _, below_set (below_set HB1.out (Nat.le_refl _) _) (Nat.le_refl _) _⟩
    · have hC := fun W R => samed_calls A l c W R
      have hv : decF b64 (codingOf n) l = sameF l := by rw [hk]; unfold decF; rw [if_neg (by omega), if_neg (by omega)]; rfl
      rw [hv]
      have g1 : (l.length : Int) ≤ 12000 := by omega
      generalize sameF l = v at *
      have HC := Lib.hid hC
      clear h hF hC h64 hn hk hv
      go_enter Tryd.func19, Tryd.ntmps19
      go_upto_region 1 with fail
      generalize w.alloc (.cells #[.int .i64 0, .int .i64 0] 25) = w0 at *
      go_upto_region 4 with (go_at_call 35; ((with_reducible refine (HF.out _).mono ?_); rintro en w1 ⟨g, rfl, hkb, hb1⟩; skip))
      have lt0 : w.heap.size < w0.heap.size := BF.out.lt
      have B1 := Lib.hid ((BF.out.bel hb1).al (.cells #[.string nm7, asV g, fnV 86] 57))
      have K1 := Lib.hid (Bk.new w1 57 #[.string nm7, asV g, fnV 86])
      have R1 := Lib.hid ((HR.out.bel hb1).al (.cells #[.string nm7, asV g, fnV 86] 57))
      have HB1 := Lib.hid (below_al (below_go HB.out hb1) (.cells #[.string nm7, asV g, fnV 86] 57))
      clear hb1 hkb BF HR HB HF
      generalize w1.heap.size = g9 at *
      generalize w1.alloc (.cells #[.string nm7, asV g, fnV 86] 57) = w2 at *
      have cf := B1.out.cell
      have ff := B1.out.frozen
      have ck := K1.out.cell
      go_wp2_with (go_at_call 86; ((with_reducible refine (HC.out _ R1.out).mono ?_); rintro en w3 ⟨A3, c3, rfl, hr3, hf3, hb3⟩; have B3 := Lib.hid (B1.out.bel hb3); clear cf ff ck; have cf := B3.out.cell; have ff := B3.out.frozen))
      have lt2 : w.heap.size < w2.heap.size := B1.out.lt
      have hh : ∀ ad, A3 = some ad → ad.block ≠ w.heap.size := fun ad h => by have := hf3 ad h; omega
      exact bodyPost_ret (res_tc Tryd.results19 rfl ((B3.out.put 0 (.int .i64 v.2.1)).put' (cs' := #[.int .i64 v.2.1, .int .i64 v.2.2]) 1 (.int .i64 v.2.2) rfl) hu28 rfl (by kernel_rfl)) rfl ⟨A3, c3, rfl, (hr3.far (p := ⟨w.heap.size, 0, none⟩) hh _).far (p := ⟨w.heap.size, 1, none⟩) hh _, hf3.up (by omega), below_set (below_set (below_go HB1.out hb3) (Nat.le_refl _) _) (Nat.le_refl _) _⟩
  · have hF := fun W => find1 n W hn hk
    have HF := Lib.hid hF
    rcases Nat.lt_or_ge 12000 l.length with hlen | hlen
    · have hv : decF b64 (codingOf n) l = ([], (1, -1)) := by rw [hk]; unfold decF; rw [if_neg (by omega), if_pos hlen]
      rw [hv]
      have g1 : (12000 : Int) < (l.length : Int) := by omega
      clear h hF h64 hn hk hv
      go_enter Tryd.func19, Tryd.ntmps19
      go_upto_region 1 with fail
      generalize w.alloc (.cells #[.int .i64 0, .int .i64 0] 25) = w0 at *
      go_upto_region 4 with (go_at_call 35; ((with_reducible refine (HF.out _).mono ?_); rintro en w1 ⟨g, rfl, hkb, hb1⟩; skip))
      have lt0 : w.heap.size < w0.heap.size := BF.out.lt
      have B1 := Lib.hid ((BF.out.bel hb1).al (.cells #[.string nm8, asV g, fnV 86] 57))
      have K1 := Lib.hid (Bk.new w1 57 #[.string nm8, asV g, fnV 86])
      have R1 := Lib.hid ((HR.out.bel hb1).al (.cells #[.string nm8, asV g, fnV 86] 57))
      have HB1 := Lib.hid (below_al (below_go HB.out hb1) (.cells #[.string nm8, asV g, fnV 86] 57))
      clear hb1 hkb BF HR HB HF
      generalize w1.heap.size = g9 at *
      generalize w1.alloc (.cells #[.string nm8, asV g, fnV 86] 57) = w2 at *
      have cf := B1.out.cell
      have ff := B1.out.frozen
      have ck := K1.out.cell
      go_wp2
      exact bodyPost_ret (res_tc Tryd.results19 rfl ((B1.out.put 0 (.int .i64 1)).put' (cs' := #[.int .i64 1, .int .i64 (-1)]) 1 (.int .i64 (-1)) rfl) hu28 rfl (by kernel_rfl)) rfl ⟨none, 0, rfl, Rd.nil, Fr.none _, below_set (below_set HB1.out (Nat.le_refl _) _) (Nat.le_refl _) _⟩
    · have hC := fun W R => samed_calls A l c W R
      have hv : decF b64 (codingOf n) l = sameF l := by rw [hk]; unfold decF; rw [if_neg (by omega), if_neg (by omega)]; rfl
      rw [hv]
      have g1 : (l.length : Int) ≤ 12000 := by omega
      generalize sameF l = v at *
      have HC := Lib.hid hC
      clear h hF hC h64 hn hk hv
      go_enter Tryd.func19, Tryd.ntmps19
      go_upto_region 1 with fail
      generalize w.alloc (.cells #[.int .i64 0, .int .i64 0] 25) = w0 at *
      go_upto_region 4 with (go_at_call 35; ((with_reducible refine (HF.out _).mono ?_); rintro en w1 ⟨g, rfl, hkb, hb1⟩; skip))
      have lt0 : w.heap.size < w0.heap.size := BF.out.lt
      have B1 := Lib.hid ((BF.out.bel hb1).al (.cells #[.string nm8, asV g, fnV 86] 57))
      have K1 := Lib.hid (Bk.new w1 57 #[.string nm8, asV g, fnV 86])
      have R1 := Lib.hid ((HR.out.bel hb1).al (.cells #[.string nm8, asV g, fnV 86] 57))
      have HB1 := Lib.hid (below_al (below_go HB.out hb1) (.cells #[.string nm8, asV g, fnV 86] 57))
      clear hb1 hkb BF HR HB HF
      generalize w1.heap.size = g9 at *
      generalize w1.alloc (.cells #[.string nm8, asV g, fnV 86] 57) = w2 at *
      have cf := B1.out.cell
      have ff := B1.out.frozen
      have ck := K1.out.cell
      go_wp2_with (go_at_call 86; ((with_reducible refine (HC.out _ R1.out).mono ?_); rintro en w3 ⟨A3, c3, rfl, hr3, hf3, hb3⟩; have B3 := Lib.hid (B1.out.bel hb3); clear cf ff ck; have cf := B3.out.cell; have ff := B3.out.frozen))
      have lt2 : w.heap.size < w2.heap.size := B1.out.lt
      have hh : ∀ ad, A3 = some ad → ad.block ≠ w.heap.size := fun ad h => by have := hf3 ad h; omega
      exact bodyPost_ret (res_tc Tryd.results19 rfl ((B3.out.put 0 (.int .i64 v.2.1)).put' (cs' := #[.int .i64 v.2.1, .int .i64 v.2.2]) 1 (.int .i64 v.2.2) rfl) hu28 rfl (by kernel_rfl)) rfl ⟨A3, c3, rfl, (hr3.far (p := ⟨w.heap.size, 0, none⟩) hh _).far (p := ⟨w.heap.size, 1, none⟩) hh _, hf3.up (by omega), below_set (below_set (below_go HB1.out hb3) (Nat.le_refl _) _) (Nat.le_refl _) _⟩
  · have hF := fun W => find2 n W hn hk
    have HF := Lib.hid hF
    rcases Nat.lt_or_ge 12000 l.length with hlen | hlen
    · have hv : decF b64 (codingOf n) l = ([], (1, -1)) := by rw [hk]; unfold decF; rw [if_neg (by omega), if_pos hlen]
      rw [hv]
      have g1 : (12000 : Int) < (l.length : Int) := by omega
      clear h hF h64 hn hk hv
      go_enter Tryd.func19, Tryd.ntmps19
      go_upto_region 1 with fail
      generalize w.alloc (.cells #[.int .i64 0, .int .i64 0] 25) = w0 at *
      go_upto_region 4 with (go_at_call 35; ((with_reducible refine (HF.out _).mono ?_); rintro en w1 ⟨rfl, hb1⟩; skip))
      have lt0 : w.heap.size < w0.heap.size := BF.out.lt
      have B1 := Lib.hid ((BF.out.bel hb1).al (.cells #[.string nm64, fnV 87, fnV 88] 57))
      have K1 := Lib.hid (Bk.new w1 57 #[.string nm64, fnV 87, fnV 88])
      have R1 := Lib.hid ((HR.out.bel hb1).al (.cells #[.string nm64, fnV 87, fnV 88] 57))
      have HB1 := Lib.hid (below_al (below_go HB.out hb1) (.cells #[.string nm64, fnV 87, fnV 88] 57))
      clear hb1 BF HR HB HF
      generalize w1.heap.size = g9 at *
      generalize w1.alloc (.cells #[.string nm64, fnV 87, fnV 88] 57) = w2 at *
      have cf := B1.out.cell
      have ff := B1.out.frozen
      have ck := K1.out.cell
      go_wp2
      exact bodyPost_ret (res_tc Tryd.results19 rfl ((B1.out.put 0 (.int .i64 1)).put' (cs' := #[.int .i64 1, .int .i64 (-1)]) 1 (.int .i64 (-1)) rfl) hu28 rfl (by kernel_rfl)) rfl ⟨none, 0, rfl, Rd.nil, Fr.none _, below_set (below_set HB1.out (Nat.le_refl _) _) (Nat.le_refl _) _⟩
    · have hC := fun W R => h64 hk W R
      have hv : decF b64 (codingOf n) l = b64 := by rw [hk]; unfold decF; rw [if_neg (by omega), if_neg (by omega)]; rfl
      rw [hv]
      have g1 : (l.length : Int) ≤ 12000 := by omega
      generalize b64 = v at *
      have HC := Lib.hid hC
      clear h hF hC h64 hn hk hv
      go_enter Tryd.func19, Tryd.ntmps19
      go_upto_region 1 with fail
      generalize w.alloc (.cells #[.int .i64 0, .int .i64 0] 25) = w0 at *
      go_upto_region 4 with (go_at_call 35; ((with_reducible refine (HF.out _).mono ?_); rintro en w1 ⟨rfl, hb1⟩; skip))
      have lt0 : w.heap.size < w0.heap.size := BF.out.lt
      have B1 := Lib.hid ((BF.out.bel hb1).al (.cells #[.string nm64, fnV 87, fnV 88] 57))
      have K1 := Lib.hid (Bk.new w1 57 #[.string nm64, fnV 87, fnV 88])
      have R1 := Lib.hid ((HR.out.bel hb1).al (.cells #[.string nm64, fnV 87, fnV 88] 57))
      have HB1 := Lib.hid (below_al (below_go HB.out hb1) (.cells #[.string nm64, fnV 87, fnV 88] 57))
      clear hb1 BF HR HB HF
      generalize w1.heap.size = g9 at *
      generalize w1.alloc (.cells #[.string nm64, fnV 87, fnV 88] 57) = w2 at *
      have cf := B1.out.cell
      have ff := B1.out.frozen
      have ck := K1.out.cell
      go_wp2_with (go_at_call 88; ((with_reducible refine (HC.out _ R1.out).mono ?_); rintro en w3 ⟨A3, c3, rfl, hr3, hf3, hb3⟩; have B3 := Lib.hid (B1.out.bel hb3); clear cf ff ck; have cf := B3.out.cell; have ff := B3.out.frozen))
      have lt2 : w.heap.size < w2.heap.size := B1.out.lt
      have hh : ∀ ad, A3 = some ad → ad.block ≠ w.heap.size := fun ad h => by have := hf3 ad h; omega
      exact bodyPost_ret (res_tc Tryd.results19 rfl ((B3.out.put 0 (.int .i64 v.2.1)).put' (cs' := #[.int .i64 v.2.1, .int .i64 v.2.2]) 1 (.int .i64 v.2.2) rfl) hu28 rfl (by kernel_rfl)) rfl ⟨A3, c3, rfl, (hr3.far (p := ⟨w.heap.size, 0, none⟩) hh _).far (p := ⟨w.heap.size, 1, none⟩) hh _, hf3.up (by omega), below_set (below_set (below_go HB1.out hb3) (Nat.le_refl _) _) (Nat.le_refl _) _⟩
  · have hF := fun W => find3 n W hn hk
    have HF := Lib.hid hF
    rcases Nat.lt_or_ge 12000 l.length with hlen | hlen
    · have hv : decF b64 (codingOf n) l = ([], (1, -1)) := by rw [hk]; unfold decF; rw [if_neg (by omega), if_pos hlen]
      rw [hv]
      have g1 : (12000 : Int) < (l.length : Int) := by omega
      clear h hF h64 hn hk hv
      go_enter Tryd.func19, Tryd.ntmps19
      go_upto_region 1 with fail
      generalize w.alloc (.cells #[.int .i64 0, .int .i64 0] 25) = w0 at *
      go_upto_region 4 with (go_at_call 35; ((with_reducible refine (HF.out _).mono ?_); rintro en w1 ⟨rfl, hb1⟩; skip))
      have lt0 : w.heap.size < w0.heap.size := BF.out.lt
      have B1 := Lib.hid ((BF.out.bel hb1).al (.cells #[.string nmQ, fnV 40, fnV 89] 57))
      have K1 := Lib.hid (Bk.new w1 57 #[.string nmQ, fnV 40, fnV 89])
      have R1 := Lib.hid ((HR.out.bel hb1).al (.cells #[.string nmQ, fnV 40, fnV 89] 57))
      have HB1 := Lib.hid (below_al (below_go HB.out hb1) (.cells #[.string nmQ, fnV 40, fnV 89] 57))
      clear hb1 BF HR HB HF
      generalize w1.heap.size = g9 at *
      generalize w1.alloc (.cells #[.string nmQ, fnV 40, fnV 89] 57) = w2 at *
      have cf := B1.out.cell
      have ff := B1.out.frozen
      have ck := K1.out.cell
      go_wp2
      exact bodyPost_ret (res_tc Tryd.results19 rfl ((B1.out.put 0 (.int .i64 1)).put' (cs' := #[.int .i64 1, .int .i64 (-1)]) 1 (.int .i64 (-1)) rfl) hu28 rfl (by kernel_rfl)) rfl ⟨none, 0, rfl, Rd.nil, Fr.none _, below_set (below_set HB1.out (Nat.le_refl _) _) (Nat.le_refl _) _⟩
    · have hC := fun W R => qlen_calls A l c W R hc hc63
      have hv : decF b64 (codingOf n) l = qloE l := by rw [hk]; unfold decF; rw [if_neg (by omega), if_neg (by omega)]; rfl
      rw [hv]
      have g1 : (l.length : Int) ≤ 12000 := by omega
      generalize qloE l = v at *
      have HC := Lib.hid hC
      clear h hF hC h64 hn hk hv
      go_enter Tryd.func19, Tryd.ntmps19
      go_upto_region 1 with fail
      generalize w.alloc (.cells #[.int .i64 0, .int .i64 0] 25) = w0 at *
      go_upto_region 4 with (go_at_call 35; ((with_reducible refine (HF.out _).mono ?_); rintro en w1 ⟨rfl, hb1⟩; skip))
      have lt0 : w.heap.size < w0.heap.size := BF.out.lt
      have B1 := Lib.hid ((BF.out.bel hb1).al (.cells #[.string nmQ, fnV 40, fnV 89] 57))
      have K1 := Lib.hid (Bk.new w1 57 #[.string nmQ, fnV 40, fnV 89])
      have R1 := Lib.hid ((HR.out.bel hb1).al (.cells #[.string nmQ, fnV 40, fnV 89] 57))
      have HB1 := Lib.hid (below_al (below_go HB.out hb1) (.cells #[.string nmQ, fnV 40, fnV 89] 57))
      clear hb1 BF HR HB HF
      generalize w1.heap.size = g9 at *
      generalize w1.alloc (.cells #[.string nmQ, fnV 40, fnV 89] 57) = w2 at *
      have cf := B1.out.cell
      have ff := B1.out.frozen
      have ck := K1.out.cell
      go_wp2_with (go_at_call 89; ((with_reducible refine (HC.out _ R1.out).mono ?_); rintro en w3 ⟨A3, c3, rfl, hr3, hf3, hb3⟩; have B3 := Lib.hid (B1.out.bel hb3); clear cf ff ck; have cf := B3.out.cell; have ff := B3.out.frozen))
      have lt2 : w.heap.size < w2.heap.size := B1.out.lt
      have hh : ∀ ad, A3 = some ad → ad.block ≠ w.heap.size := fun ad h => by have := hf3 ad h; omega
      exact bodyPost_ret (res_tc Tryd.results19 rfl ((B3.out.put 0 (.int .i64 v.2.1)).put' (cs' := #[.int .i64 v.2.1, .int .i64 v.2.2]) 1 (.int .i64 v.2.2) rfl) hu28 rfl (by kernel_rfl)) rfl ⟨A3, c3, rfl, (hr3.far (p := ⟨w.heap.size, 0, none⟩) hh _).far (p := ⟨w.heap.size, 1, none⟩) hh _, hf3.up (by omega), below_set (below_set (below_go HB1.out hb3) (Nat.le_refl _) _) (Nat.le_refl _) _⟩
  · have hF := fun W => findN n W hn hk
    have hv : decF b64 (codingOf n) l = ([], (18, -3)) := by rw [hk]; rfl
    rw [hv]
    have HF := Lib.hid hF
    clear h hF h64 hn hk hv HR
    go_enter Tryd.func19, Tryd.ntmps19
    go_upto_region 1 with fail
    generalize w.alloc (.cells #[.int .i64 0, .int .i64 0] 25) = w0 at *
    go_upto_region 3 with (go_at_call 35; ((with_reducible refine (HF.out _).mono ?_); rintro en w1 ⟨rfl, hb1⟩))
    have B1 := Lib.hid ((BF.out.bel hb1).al (.cells #[.string ⟨#[]⟩, .nilFunc, .nilFunc] 57))
    have HB1 := Lib.hid (below_al (below_go HB.out hb1) (.cells #[.string ⟨#[]⟩, .nilFunc, .nilFunc] 57))
    clear hb1 BF HB HF
    generalize w1.alloc (.cells #[.string ⟨#[]⟩, .nilFunc, .nilFunc] 57) = w2 at *
    have cf := B1.out.cell
    have ff := B1.out.frozen
    go_wp2
    exact bodyPost_ret (res_tc Tryd.results19 rfl ((B1.out.put 0 (.int .i64 18)).put' (cs' := #[.int .i64 18, .int .i64 (-3)]) 1 (.int .i64 (-3)) rfl) hu28 rfl (by kernel_rfl)) rfl ⟨none, 0, rfl, Rd.nil, Fr.none _, below_set (below_set HB1.out (Nat.le_refl _) _) (Nat.le_refl _) _⟩
end Go.Proofs.YtjgohmfmalcjoaaDoor.TrW
