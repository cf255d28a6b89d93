import Derived.Test.YtjgohmfmalcjoaaDoorTrW16
/- Walks: quoted.Lenient, transfer.Encode (but for base64). -/
namespace Go.Proofs.YtjgohmfmalcjoaaDoor.Tr
def qloE (l : List UInt8) : List UInt8 × (Int × Int) := if 48000 < l.length then ([], (1, -1)) else (looseL l, (0, 0))
/-- what Encode answers, of an encoding's number. -/
def encF (b64 : List UInt8 × (Int × Int)) (c : Int) (l : List UInt8) : List UInt8 × (Int × Int) := if c = 0 then asF false l else if c = 1 then asF true l else if c = 2 then b64 else if c = 3 then quoE l else ([], (18, -3))
end Go.Proofs.YtjgohmfmalcjoaaDoor.Tr
namespace Go.Proofs.YtjgohmfmalcjoaaDoor.TrW
open Go.RowKit Go.Proofs.YtjgohmfmalcjoaaDoor.Base Go.Proofs.YtjgohmfmalcjoaaDoor.Tr
set_option linter.unusedVariables false
set_option linter.unusedSimpArgs false
set_option maxHeartbeats 1000000 in
set_option maxRecDepth 20000 in
theorem qlen_calls (A : Option Addr) (l : List UInt8) (c : Nat) (w : World) (h : Rd w bv A l) (hc : l.length ≤ c) (hc63 : c ≤ 9223372036854775807) :
    Calls Tryd.prog 89 #[.slice A l.length c] w (GivesBF w (qloE l).1 (qloE l).2) := by
  have hu28 := Tryd.underlying25
  have hv : qloE l = if 48000 < l.length then ([], (1, -1)) else (looseL l, (0, 0)) := rfl
  generalize qloE l = v at *
  have BF := Lib.hid (Bk.new w 25 #[.int .i64 0, .int .i64 0])
  have HR := Lib.hid (h.al (.cells #[.int .i64 0, .int .i64 0] 25))
  have HB := Lib.hid (below_al (Below.refl w.heap.size w) (.cells #[.int .i64 0, .int .i64 0] 25))
  clear h
  rcases Nat.lt_or_ge 48000 l.length with hlen | hlen
  · rw [if_pos hlen] at hv
    subst hv
    have g1 : (48000 : Int) < (l.length : Int) := by omega
    go_enter Tryd.func89, Tryd.ntmps89
    go_upto_region 1 with fail
    generalize w.alloc (.cells #[.int .i64 0, .int .i64 0] 25) = w0 at *
    have cf := BF.out.cell
    have ff := BF.out.frozen
    go_wp2
    exact bodyPost_ret (res_tc Tryd.results89 rfl ((BF.out.put 0 (.int .i64 1)).put' (cs' := #[.int .i64 1, .int .i64 (-1)]) 1 (.int .i64 (-1)) rfl) hu28 rfl (by kernel_rfl)) rfl ⟨none, 0, rfl, Rd.nil, Fr.none _, below_set (below_set HB.out (Nat.le_refl _) _) (Nat.le_refl _) _⟩
  · rw [if_neg (by omega)] at hv
    have g1 : (l.length : Int) ≤ 48000 := by omega
    have hK := fun W h => loose_calls A l c W h (by omega) hc hc63
    subst hv
    generalize looseL l = r at *
    have HK := Lib.hid hK
    clear hK
    go_enter Tryd.func89, Tryd.ntmps89
    go_upto_region 1 with fail
    generalize w.alloc (.cells #[.int .i64 0, .int .i64 0] 25) = w0 at *
    have cf := BF.out.cell
    have ff := BF.out.frozen
    go_wp2_with ((go_at_call 116; ((with_reducible refine (HK.out _ HR.out).mono ?_); rintro en w1 ⟨A1, c1, rfl, hr1, hf1, hb1⟩; have B1 := Lib.hid (BF.out.bel hb1); clear cf ff; have cf := B1.out.cell; have ff := B1.out.frozen)))
    have lt0 : w.heap.size < w0.heap.size := BF.out.lt
    have hh : ∀ ad, A1 = some ad → ad.block ≠ w.heap.size := fun ad h => by have := hf1 ad h; omega
    exact bodyPost_ret (res_tc Tryd.results89 rfl ((B1.out.put 0 (.int .i64 0)).put' (cs' := #[.int .i64 0, .int .i64 0]) 1 (.int .i64 0) rfl) hu28 rfl (by kernel_rfl)) rfl ⟨A1, c1, rfl, (hr1.far (p := ⟨w.heap.size, 0, none⟩) hh _).far (p := ⟨w.heap.size, 1, none⟩) hh _, hf1.up (by omega), below_set (below_set (below_go HB.out hb1) (Nat.le_refl _) _) (Nat.le_refl _) _⟩

theorem cod_range (n : ByteArray) : codingOf n = 0 ∨ codingOf n = 1 ∨ codingOf n = 2 ∨ codingOf n = 3 ∨ codingOf n = -1 := by
  unfold codingOf
  split
  · exact .inl rfl
  · split
    · exact .inr (.inl rfl)
    · split
      · exact .inr (.inr (.inl rfl))
      · split
        · exact .inr (.inr (.inr (.inl rfl)))
        · exact .inr (.inr (.inr (.inr rfl)))
theorem find0 (n : ByteArray) (w : World) (hn : n.size ≤ maxLen) (hk : codingOf n = 0) : Calls Tryd.prog 35 #[.string n] w fun en w' => ∃ g, en = .returned (.tuple #[.agg #[.string nm7, asV g, fnV 86], .bool true]) ∧ Bk w' g 4 #[.bool false] ∧ Below w.heap.size w w' := by
  refine (find_calls n w hn).mono ?_
  rintro en w' ⟨cs, rfl, hcod, hb⟩
  rw [hk] at hcod ⊢
  rcases hcod with ⟨h, g, rfl, hB⟩ | ⟨h, g, rfl, hB⟩ | ⟨h, rfl⟩ | ⟨h, rfl⟩ | ⟨h, rfl⟩
  · exact ⟨g, rfl, hB, hb⟩
  · omega
  · omega
  · omega
  · omega
theorem find1 (n : ByteArray) (w : World) (hn : n.size ≤ maxLen) (hk : codingOf n = 1) : Calls Tryd.prog 35 #[.string n] w fun en w' => ∃ g, en = .returned (.tuple #[.agg #[.string nm8, asV g, fnV 86], .bool true]) ∧ Bk w' g 4 #[.bool true] ∧ Below w.heap.size w w' := by
  refine (find_calls n w hn).mono ?_
  rintro en w' ⟨cs, rfl, hcod, hb⟩
  rw [hk] at hcod ⊢
  rcases hcod with ⟨h, g, rfl, hB⟩ | ⟨h, g, rfl, hB⟩ | ⟨h, rfl⟩ | ⟨h, rfl⟩ | ⟨h, rfl⟩
  · omega
  · exact ⟨g, rfl, hB, hb⟩
  · omega
  · omega
  · omega
theorem find2 (n : ByteArray) (w : World) (hn : n.size ≤ maxLen) (hk : codingOf n = 2) : Calls Tryd.prog 35 #[.string n] w fun en w' => en = .returned (.tuple #[.agg #[.string nm64, fnV 87, fnV 88], .bool true]) ∧ Below w.heap.size w w' := by
  refine (find_calls n w hn).mono ?_
  rintro en w' ⟨cs, rfl, hcod, hb⟩
  rw [hk] at hcod ⊢
  rcases hcod with ⟨h, g, rfl, hB⟩ | ⟨h, g, rfl, hB⟩ | ⟨h, rfl⟩ | ⟨h, rfl⟩ | ⟨h, rfl⟩
  · omega
  · omega
  · exact ⟨rfl, hb⟩
  · omega
  · omega
theorem find3 (n : ByteArray) (w : World) (hn : n.size ≤ maxLen) (hk : codingOf n = 3) : Calls Tryd.prog 35 #[.string n] w fun en w' => en = .returned (.tuple #[.agg #[.string nmQ, fnV 40, fnV 89], .bool true]) ∧ Below w.heap.size w w' := by
  refine (find_calls n w hn).mono ?_
  rintro en w' ⟨cs, rfl, hcod, hb⟩
  rw [hk] at hcod ⊢
  rcases hcod with ⟨h, g, rfl, hB⟩ | ⟨h, g, rfl, hB⟩ | ⟨h, rfl⟩ | ⟨h, rfl⟩ | ⟨h, rfl⟩
  · omega
  · omega
  · omega
  · exact ⟨rfl, hb⟩
  · omega
theorem findN (n : ByteArray) (w : World) (hn : n.size ≤ maxLen) (hk : codingOf n = -1) : Calls Tryd.prog 35 #[.string n] w fun en w' => en = .returned (.tuple #[.agg #[.string ⟨#[]⟩, .nilFunc, .nilFunc], .bool false]) ∧ Below w.heap.size w w' := by
  refine (find_calls n w hn).mono ?_
  rintro en w' ⟨cs, rfl, hcod, hb⟩
  rw [hk] at hcod ⊢
  rcases hcod with ⟨h, g, rfl, hB⟩ | ⟨h, g, rfl, hB⟩ | ⟨h, rfl⟩ | ⟨h, rfl⟩ | ⟨h, rfl⟩
  · omega
  · omega
  · omega
  · omega
  · exact ⟨rfl, hb⟩
set_option maxHeartbeats 1000000 in
set_option maxRecDepth 20000 in
theorem encode_calls (A : Option Addr) (l : List UInt8) (c : Nat) (n : ByteArray) (b64 : List UInt8 × (Int × Int)) (w : World) (h : Rd w bv A l) (hn : n.size ≤ maxLen) (h64 : codingOf n = 2 → ∀ W, Rd W bv A l → Calls Tryd.prog 87 #[.slice A l.length c] W (GivesBF W b64.1 b64.2)) :
    Calls Tryd.prog 13 #[.slice A l.length c, .string n] w (GivesBF w (encF b64 (codingOf n) l).1 (encF b64 (codingOf n) l).2) := by
  have hu28 := Tryd.underlying25
  have hu57 := Tryd.underlying57
  have BF := Lib.hid (Bk.new w 25 #[.int .i64 0, .int .i64 0])
  have HR := Lib.hid (h.al (.cells #[.int .i64 0, .int .i64 0] 25))
  have HB := Lib.hid (below_al (Below.refl w.heap.size w) (.cells #[.int .i64 0, .int .i64 0] 25))
  rcases cod_range n with hk | hk | hk | hk | hk
  · have hF := fun W => find0 n W hn hk
    have hC := fun g W R B => as1_calls A l c g false W R B
    have hv : encF b64 (codingOf n) l = asF false l := by rw [hk]; rfl
    rw [hv]
    generalize asF false l = v at *
    have HF := Lib.hid hF
    have HC := Lib.hid hC
    clear h hF hC h64 hn hk hv
    go_enter Tryd.func13, Tryd.ntmps13
    go_upto_region 1 with fail
    generalize w.alloc (.cells #[.int .i64 0, .int .i64 0] 25) = w0 at *
    go_upto_region 4 with (go_at_call 35; ((with_reducible refine (HF.out _).mono ?_); rintro en w1 ⟨g, rfl, hkb, hb1⟩; skip))
    have lt0 : w.heap.size < w0.heap.size := BF.out.lt
    have B1 := Lib.hid ((BF.out.bel hb1).al (.cells #[.string nm7, asV g, fnV 86] 57))
    have K1 := Lib.hid (Bk.new w1 57 #[.string nm7, asV g, fnV 86])
    have R1 := Lib.hid ((HR.out.bel hb1).al (.cells #[.string nm7, asV g, fnV 86] 57))
    have HB1 := Lib.hid (below_al (below_go HB.out hb1) (.cells #[.string nm7, asV g, fnV 86] 57))
    have lt1 : w0.heap.size ≤ w1.heap.size := hb1.size
    have KB := Lib.hid (hkb.al (.cells #[.string nm7, asV g, fnV 86] 57))
    clear hkb
    clear hb1 BF HR HB HF
    generalize w1.heap.size = g9 at *
    generalize w1.alloc (.cells #[.string nm7, asV g, fnV 86] 57) = w2 at *
    have cf := B1.out.cell
    have ff := B1.out.frozen
    have ck := K1.out.cell
    go_wp2_with (go_at_call 111; ((with_reducible refine (HC.out _ _ R1.out KB.out).mono ?_); rintro en w3 ⟨A3, c3, rfl, hr3, hf3, hb3⟩; have B3 := Lib.hid (B1.out.bel hb3); clear cf ff ck; have cf := B3.out.cell; have ff := B3.out.frozen))
    have lt2 : w.heap.size < w2.heap.size := B1.out.lt
    have hh : ∀ ad, A3 = some ad → ad.block ≠ w.heap.size := fun ad h => by have := hf3 ad h; omega
    exact bodyPost_ret (res_tc Tryd.results13 rfl ((B3.out.put 0 (.int .i64 v.2.1)).put' (cs' := #[.int .i64 v.2.1, .int .i64 v.2.2]) 1 (.int .i64 v.2.2) rfl) hu28 rfl (by kernel_rfl)) rfl ⟨A3, c3, rfl, (hr3.far (p := ⟨w.heap.size, 0, none⟩) hh _).far (p := ⟨w.heap.size, 1, none⟩) hh _, hf3.up (by omega), below_set (below_set (below_go HB1.out hb3) (Nat.le_refl _) _) (Nat.le_refl _) _⟩
  · have hF := fun W => find1 n W hn hk
    have hC := fun g W R B => as1_calls A l c g true W R B
    have hv : encF b64 (codingOf n) l = asF true l := by rw [hk]; rfl
    rw [hv]
    generalize asF true l = v at *
    have HF := Lib.hid hF
    have HC := Lib.hid hC
    clear h hF hC h64 hn hk hv
    go_enter Tryd.func13, Tryd.ntmps13
    go_upto_region 1 with fail
    generalize w.alloc (.cells #[.int .i64 0, .int .i64 0] 25) = w0 at *
    go_upto_region 4 with (go_at_call 35; ((with_reducible refine (HF.out _).mono ?_); rintro en w1 ⟨g, rfl, hkb, hb1⟩; skip))
    have lt0 : w.heap.size < w0.heap.size := BF.out.lt
    have B1 := Lib.hid ((BF.out.bel hb1).al (.cells #[.string nm8, asV g, fnV 86] 57))
    have K1 := Lib.hid (Bk.new w1 57 #[.string nm8, asV g, fnV 86])
    have R1 := Lib.hid ((HR.out.bel hb1).al (.cells #[.string nm8, asV g, fnV 86] 57))
    have HB1 := Lib.hid (below_al (below_go HB.out hb1) (.cells #[.string nm8, asV g, fnV 86] 57))
    have lt1 : w0.heap.size ≤ w1.heap.size := hb1.size
    have KB := Lib.hid (hkb.al (.cells #[.string nm8, asV g, fnV 86] 57))
    clear hkb
    clear hb1 BF HR HB HF
    generalize w1.heap.size = g9 at *
    generalize w1.alloc (.cells #[.string nm8, asV g, fnV 86] 57) = w2 at *
    have cf := B1.out.cell
    have ff := B1.out.frozen
    have ck := K1.out.cell
    go_wp2_with (go_at_call 111; ((with_reducible refine (HC.out _ _ R1.out KB.out).mono ?_); rintro en w3 ⟨A3, c3, rfl, hr3, hf3, hb3⟩; have B3 := Lib.hid (B1.out.bel hb3); clear cf ff ck; have cf := B3.out.cell; have ff := B3.out.frozen))
    have lt2 : w.heap.size < w2.heap.size := B1.out.lt
    have hh : ∀ ad, A3 = some ad → ad.block ≠ w.heap.size := fun ad h => by have := hf3 ad h; omega
    exact bodyPost_ret (res_tc Tryd.results13 rfl ((B3.out.put 0 (.int .i64 v.2.1)).put' (cs' := #[.int .i64 v.2.1, .int .i64 v.2.2]) 1 (.int .i64 v.2.2) rfl) hu28 rfl (by kernel_rfl)) rfl ⟨A3, c3, rfl, (hr3.far (p := ⟨w.heap.size, 0, none⟩) hh _).far (p := ⟨w.heap.size, 1, none⟩) hh _, hf3.up (by omega), below_set (below_set (below_go HB1.out hb3) (Nat.le_refl _) _) (Nat.le_refl _) _⟩
  · have hF := fun W => find2 n W hn hk
    have hC := fun W R => h64 hk W R
    have hv : encF b64 (codingOf n) l = b64 := by rw [hk]; rfl
    rw [hv]
    generalize b64 = v at *
    have HF := Lib.hid hF
    have HC := Lib.hid hC
    clear h hF hC h64 hn hk hv
    go_enter Tryd.func13, Tryd.ntmps13
    go_upto_region 1 with fail
    generalize w.alloc (.cells #[.int .i64 0, .int .i64 0] 25) = w0 at *
    go_upto_region 4 with (go_at_call 35; ((with_reducible refine (HF.out _).mono ?_); rintro en w1 ⟨rfl, hb1⟩; skip))
    have lt0 : w.heap.size < w0.heap.size := BF.out.lt
    have B1 := Lib.hid ((BF.out.bel hb1).al (.cells #[.string nm64, fnV 87, fnV 88] 57))
    have K1 := Lib.hid (Bk.new w1 57 #[.string nm64, fnV 87, fnV 88])
    have R1 := Lib.hid ((HR.out.bel hb1).al (.cells #[.string nm64, fnV 87, fnV 88] 57))
    have HB1 := Lib.hid (below_al (below_go HB.out hb1) (.cells #[.string nm64, fnV 87, fnV 88] 57))
    have lt1 : w0.heap.size ≤ w1.heap.size := hb1.size
    clear hb1 BF HR HB HF
    generalize w1.heap.size = g9 at *
    generalize w1.alloc (.cells #[.string nm64, fnV 87, fnV 88] 57) = w2 at *
    have cf := B1.out.cell
    have ff := B1.out.frozen
    have ck := K1.out.cell
    go_wp2_with (go_at_call 87; ((with_reducible refine (HC.out _ R1.out).mono ?_); rintro en w3 ⟨A3, c3, rfl, hr3, hf3, hb3⟩; have B3 := Lib.hid (B1.out.bel hb3); clear cf ff ck; have cf := B3.out.cell; have ff := B3.out.frozen))
    have lt2 : w.heap.size < w2.heap.size := B1.out.lt
    have hh : ∀ ad, A3 = some ad → ad.block ≠ w.heap.size := fun ad h => by have := hf3 ad h; omega
    exact bodyPost_ret (res_tc Tryd.results13 rfl ((B3.out.put 0 (.int .i64 v.2.1)).put' (cs' := #[.int .i64 v.2.1, .int .i64 v.2.2]) 1 (.int .i64 v.2.2) rfl) hu28 rfl (by kernel_rfl)) rfl ⟨A3, c3, rfl, (hr3.far (p := ⟨w.heap.size, 0, none⟩) hh _).far (p := ⟨w.heap.size, 1, none⟩) hh _, hf3.up (by omega), below_set (below_set (below_go HB1.out hb3) (Nat.le_refl _) _) (Nat.le_refl _) _⟩
  · have hF := fun W => find3 n W hn hk
    have hC := fun W R => quoenc_calls A l c W R
    have hv : encF b64 (codingOf n) l = quoE l := by rw [hk]; rfl
    rw [hv]
    generalize quoE l = v at *
    have HF := Lib.hid hF
    have HC := Lib.hid hC
    clear h hF hC h64 hn hk hv
    go_enter Tryd.func13, Tryd.ntmps13
    go_upto_region 1 with fail
    generalize w.alloc (.cells #[.int .i64 0, .int .i64 0] 25) = w0 at *
    go_upto_region 4 with (go_at_call 35; ((with_reducible refine (HF.out _).mono ?_); rintro en w1 ⟨rfl, hb1⟩; skip))
    have lt0 : w.heap.size < w0.heap.size := BF.out.lt
    have B1 := Lib.hid ((BF.out.bel hb1).al (.cells #[.string nmQ, fnV 40, fnV 89] 57))
    have K1 := Lib.hid (Bk.new w1 57 #[.string nmQ, fnV 40, fnV 89])
    have R1 := Lib.hid ((HR.out.bel hb1).al (.cells #[.string nmQ, fnV 40, fnV 89] 57))
    have HB1 := Lib.hid (below_al (below_go HB.out hb1) (.cells #[.string nmQ, fnV 40, fnV 89] 57))
    have lt1 : w0.heap.size ≤ w1.heap.size := hb1.size
    clear hb1 BF HR HB HF
    generalize w1.heap.size = g9 at *
    generalize w1.alloc (.cells #[.string nmQ, fnV 40, fnV 89] 57) = w2 at *
    have cf := B1.out.cell
    have ff := B1.out.frozen
    have ck := K1.out.cell
    go_wp2_with (go_at_call 40; ((with_reducible refine (HC.out _ R1.out).mono ?_); rintro en w3 ⟨A3, c3, rfl, hr3, hf3, hb3⟩; have B3 := Lib.hid (B1.out.bel hb3); clear cf ff ck; have cf := B3.out.cell; have ff := B3.out.frozen))
    have lt2 : w.heap.size < w2.heap.size := B1.out.lt
    have hh : ∀ ad, A3 = some ad → ad.block ≠ w.heap.size := fun ad h => by have := hf3 ad h; omega
    exact bodyPost_ret (res_tc Tryd.results13 rfl ((B3.out.put 0 (.int .i64 v.2.1)).put' (cs' := #[.int .i64 v.2.1, .int .i64 v.2.2]) 1 (.int .i64 v.2.2) rfl) hu28 rfl (by kernel_rfl)) rfl ⟨A3, c3, rfl, (hr3.far (p := ⟨w.heap.size, 0, none⟩) hh _).far (p := ⟨w.heap.size, 1, none⟩) hh _, hf3.up (by omega), below_set (below_set (below_go HB1.out hb3) (Nat.le_refl _) _) (Nat.le_refl _) _⟩
  · have hF := fun W => findN n W hn hk
    have hv : encF b64 (codingOf n) l = ([], (18, -3)) := by rw [hk]; rfl
    rw [hv]
    have HF := Lib.hid hF
    clear h hF h64 hn hk hv HR
    go_enter Tryd.func13, Tryd.ntmps13
    go_upto_region 1 with fail
    generalize w.alloc (.cells #[.int .i64 0, .int .i64 0] 25) = w0 at *
    go_upto_region 3 with (go_at_call 35; ((with_reducible refine (HF.out _).mono ?_); rintro en w1 ⟨rfl, hb1⟩))
    have B1 := Lib.hid ((BF.out.bel hb1).al (.cells #[.string ⟨#[]⟩, .nilFunc, .nilFunc] 57))
    have HB1 := Lib.hid (below_al (below_go HB.out hb1) (.cells #[.string ⟨#[]⟩, .nilFunc, .nilFunc] 57))
    clear hb1 BF HB HF
    generalize w1.alloc (.cells #[.string ⟨#[]⟩, .nilFunc, .nilFunc] 57) = w2 at *
    have cf := B1.out.cell
    have ff := B1.out.frozen
    go_wp2
    exact bodyPost_ret (res_tc Tryd.results13 rfl ((B1.out.put 0 (.int .i64 18)).put' (cs' := #[.int .i64 18, .int .i64 (-3)]) 1 (.int .i64 (-3)) rfl) hu28 rfl (by kernel_rfl)) rfl ⟨none, 0, rfl, Rd.nil, Fr.none _, below_set (below_set HB1.out (Nat.le_refl _) _) (Nat.le_refl _) _⟩
end Go.Proofs.YtjgohmfmalcjoaaDoor.TrW
