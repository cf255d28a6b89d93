import Derived.Test.YtjgohmfmalcjoaaDoorTrW29
import Derived.Test.YtjgohmfmalcjoaaDoorTrW26
/- Walk: base64.Encode. -/
namespace Go.Proofs.YtjgohmfmalcjoaaDoor.Tr
theorem lineP_beg (s : List UInt8) : (begL 76 (nParts s.length 76)).flatMap (fun i => (s.drop i).take 76 ++ [13, 10]) = lineP s := by
  unfold begL lineP
  rw [List.flatMap_map]
  rfl
def b64E (l : List UInt8) : List UInt8 × (Int × Int) := if 12000 < l.length then ([], (1, -1)) else (lines64 l, (0, 0))
end Go.Proofs.YtjgohmfmalcjoaaDoor.Tr
namespace Go.Proofs.YtjgohmfmalcjoaaDoor.TrW
open Go.RowKit Go.Shelf Go.Proofs.YtjgohmfmalcjoaaDoor.Base Go.Proofs.YtjgohmfmalcjoaaDoor.Tr
set_option linter.unusedVariables false
set_option linter.unusedSimpArgs false
attribute [local go_sem] Oper.semAt_some
theorem rd_kq {α : Type} {f : α → Value} {W W' : World} {A : Option Addr} {l : List α} {go gr : Nat} (h : Rd W f A l) (hq : Kq go gr W W') (h1 : ∀ ad, A = some ad → ad.block ≠ go ∧ ad.block ≠ gr ∧ rowOf W go ≠ some ad.block) : Rd W' f A l := fun hn => by
  obtain ⟨ad, e, hb, hc⟩ := h hn
  obtain ⟨h2, h3, h4⟩ := h1 ad e
  refine ⟨ad, e, Nat.lt_of_lt_of_le hb hq.size, fun j x hx => ?_⟩
  have hcj := hc j x hx
  obtain ⟨o, ho, hi⟩ := cells_of_cell hcj
  rw [World.cell?_of_block (a := ad.add j) ((hq.same _ o ho hi (by rw [blk_add]; exact h2) (by rw [blk_add]; exact h3) (by rw [blk_add]; exact h4)).trans ho.symm)]
  exact hcj
theorem rd_abides {α : Type} {f : α → Value} {W W' : World} {A : Option Addr} {l : List α} {row : Option Nat} (h : Rd W f A l) (hg : W.grownBy W' row) (hr : ∀ r, row = some r → ∃ o : Obj, W.heap[r]? = some o ∧ o.isCells = false) : Rd W' f A l := fun hn => by
  obtain ⟨ad, e, hb, hc⟩ := h hn
  refine ⟨ad, e, Nat.lt_of_lt_of_le hb hg.size, fun j x hx => hg.cell (hc j x hx) ?_⟩
  intro e2
  obtain ⟨o, ho, hi⟩ := hr _ e2.symm
  obtain ⟨o2, ho2, hi2⟩ := cells_of_cell (hc j x hx)
  rw [ho] at ho2
  cases ho2
  rw [hi] at hi2
  cases hi2
theorem bk_abides {W W' : World} {row : Option Nat} {g : Nat} {t : TypeId} {cs : Array Value} (h : Bk W g t cs) (hg : W.grownBy W' row) (hr : ∀ r, row = some r → ∃ o : Obj, W.heap[r]? = some o ∧ o.isCells = false) : Bk W' g t cs :=
  (hg.block _ h.lt (fun e => by
    obtain ⟨o, ho, hc⟩ := hr _ e.symm
    rw [h] at ho
    cases ho
    cases hc)).trans h
theorem crlf_new (w : World) (t : TypeId) : ∀ j u, (([13, 10] : List UInt8).map bv)[j]? = some u → (w.alloc (.cells #[.int .u8 13, .int .u8 10] t)).cell? ((⟨w.heap.size, 0, none⟩ : Addr).add j) = some u := fun j u hu => by
  rw [add_zero, (Bk.new w t _).cell]
  match j, hu with
  | 0, hu => exact hu
  | 1, hu => exact hu
  | j + 2, hu => simp at hu
theorem grown_set (W : World) (b i : Nat) (v : Value) : W.grownBy (W.setCell ⟨b, i, none⟩ v) (some b) :=
  ⟨rfl, rfl, rfl, by simp [World.setCell], fun k _ hk => Below.heap_setCell _ _ _ k (fun e => hk (by rw [e]))⟩
theorem PI.far {w W : World} {go B fb i : Nat} {l : List UInt8} {v : Value} (h : PI w W go B l v) (u : Value) (h1 : fb ≠ go) (h2 : fb < B) (h3 : w.heap.size ≤ fb) : PI w (W.setCell ⟨fb, i, none⟩ u) go B l v := by
  have hg := grown_set W fb i u
  refine ⟨h.own.kept hg ?_, below_set h.b h3 u, Nat.le_trans h.hB hg.size, h.lB, h.nB, h.out.far (fun e => h1 e.symm) u⟩
  cases hv : v.ownBlock with
  | none => exact .inl rfl
  | some g => exact .inr (fun e => by have := (h.own.lt g hv).1; have e' : g = fb := Option.some.inj e; omega)
/-- the round's invariant. -/
def EnI (s : List UInt8) (w : World) (go B : Nat) (A1 : Option Addr) (pre : List (Part s.length)) (W : World) : Prop :=
  ∃ acc A c, PI w W go B acc (.slice A acc.length c) ∧ Rd W bv A1 s ∧ Bk W w.heap.size 25 #[.int .i64 0, .int .i64 0] ∧ acc = (pre.map (·.1)).flatMap (fun i => (s.drop i).take 76 ++ [13, 10]) ∧ acc.length ≤ 78 * pre.length
theorem enI_own (s : List UInt8) (w : World) (go B B0 : Nat) (A1 : Option Addr) (h : w.heap.size ≤ B0) : OwnFrom B0 (EnI s w go B A1) := by
  rintro pre W W' row ⟨acc, A, c, hI, hR, hF, hrest⟩ hg hr
  exact ⟨acc, A, c, hI.abides hg (fun r e => ⟨Nat.le_trans h (hr r e).1, (hr r e).2⟩), rd_abides hR hg (fun r e => (hr r e).2), bk_abides hF hg (fun r e => (hr r e).2), hrest⟩
set_option maxHeartbeats 4000000 in
set_option maxRecDepth 100000 in
theorem b64enc_calls (A : Option Addr) (l : List UInt8) (c : Nat) (w : World) (h : Rd w bv A l) (hc : l.length ≤ c) (hc63 : c ≤ 9223372036854775807) :
    Calls Tryd.prog 87 #[.slice A l.length c] w (GivesBF w (b64E l).1 (b64E l).2) := by
  have hu28 := Tryd.underlying25
  have hv : b64E l = if 12000 < l.length then ([], (1, -1)) else (lines64 l, (0, 0)) := rfl
  generalize b64E l = v at *
  have BF := Lib.hid (Bk.new w 25 #[.int .i64 0, .int .i64 0])
  have HR := Lib.hid (h.al (.cells #[.int .i64 0, .int .i64 0] 25))
  have HB := Lib.hid (below_al (Below.refl w.heap.size w) (.cells #[.int .i64 0, .int .i64 0] 25))
  clear h
  rcases Nat.lt_or_ge 12000 l.length with hlen | hlen
  · rw [if_pos hlen] at hv
    subst hv
    have g1 : (12000 : Int) < (l.length : Int) := by omega
    go_enter Tryd.func87, Tryd.ntmps87
    go_upto_region 1 with fail
    generalize w.alloc (.cells #[.int .i64 0, .int .i64 0] 25) = w0 at *
    have cf := BF.out.cell
    have ff := BF.out.frozen
    go_wp2
    exact bodyPost_ret (res_tc Tryd.results87 rfl ((BF.out.put 0 (.int .i64 1)).put' (cs' := #[.int .i64 1, .int .i64 (-1)]) 1 (.int .i64 (-1)) rfl) hu28 rfl (by kernel_rfl)) rfl ⟨none, 0, rfl, Rd.nil, Fr.none _, below_set (below_set HB.out (Nat.le_refl _) _) (Nat.le_refl _) _⟩
  · rw [if_neg (by omega)] at hv
    have g1 : (l.length : Int) ≤ 12000 := by omega
    have hP := fun W hr => plain_calls A l c W hr (by omega) hc hc63
    have hpl : (plainL l).length ≤ 20000 := by
      rw [plain_eq l.length l (Nat.le_refl _), chars64_len]
      omega
    have hln := lines_plain l
    have hbeg := lineP_beg (plainL l)
    rw [hln] at hbeg
    subst hv
    generalize lines64 l = v at *
    generalize plainL l = s at *
    have HP := Lib.hid hP
    have HBEG := Lib.hid hbeg
    clear hP hbeg hln
    refine (callsIn_wide (n := 5)).1 ?_
    refine callsIn_of_wp_marks Tryd.func87 rfl trivial ?_ rfl
    simp only [Tryd.ntmps87, List.size_toArray, List.length_cons, List.length_nil, Nat.reduceAdd, Nat.reduceSub, Array.replicate_succ, Array.replicate_zero, List.push_toArray, List.append_toArray, List.nil_append, List.cons_append]
    have KO := Lib.hid ((Bk.new (w.alloc (.cells #[.int .i64 0, .int .i64 0] 25)) 22 #[.slice none 0 0]))
    have BF1 := Lib.hid (BF.out.al (.cells #[.slice none 0 0] 22))
    have HB1 := Lib.hid (below_al HB.out (.cells #[.slice none 0 0] 22))
    gi_wp2_with (first
      | (refine ⟨trivial, ?_⟩; gi_at_call 114; refine (callsIn_wide.2 (HP.out _ (HR.out.al _))).mono ?_; rintro e w2 ⟨A1, c1, rfl, ho1, hb1⟩; have HO1 := Lib.hid ho1; have HBB := Lib.hid hb1; clear ho1 hb1)
      | (refine ⟨trivial, ?_⟩; gi_at_call 113; refine (callsIn_wide.2 (chunk_calls A1 s.length c1 76 w2 (by omega) (by omega))).mono ?_; rintro e wD ⟨rfl, rfl⟩; skip))
    have KO2 := Lib.hid (KO.out.bel HBB.out)
    have BF2 := Lib.hid (BF1.out.bel HBB.out)
    have HB2 := Lib.hid (below_go HB1.out HBB.out)
    have hsz : (w.alloc (.cells #[.int .i64 0, .int .i64 0] 25)).heap.size = w.heap.size + 1 := by simp
    have hsz2 : ((w.alloc (.cells #[.int .i64 0, .int .i64 0] 25)).alloc (.cells #[.slice none 0 0] 22)).heap.size = w.heap.size + 2 := by simp
    have ho1 := HO1.out
    rw [hsz2] at ho1
    have hko := KO2.out
    rw [hsz] at hko
    have hlt2 : w.heap.size + 1 < w2.heap.size := hko.lt
    have hcap := own_cap ho1
    have hmax := own_max ho1
    have S0 : PI w ((w2.alloc (.cells #[.slice A1 s.length c1] 22)).alloc (.cells #[.int .i64 76] 3)) (w.heap.size + 1) w2.heap.size [] (.slice none 0 0) :=
      ⟨World.ownsRow_nil _ _ _ _, below_al (below_al HB2.out _) _, by simp; omega, by omega, hlt2, (hko.al _).al _⟩
    have hCH : ChAt ((w2.alloc (.cells #[.slice A1 s.length c1] 22)).alloc (.cells #[.int .i64 76] 3)) (w.heap.size + 1) w2.heap.size A1 s.length c1 76 :=
      ⟨S0.row, by simp; omega, (Bk.new' _ _ _ rfl).al _, Bk.new' _ _ _ (by simp), hlt2⟩
    have hRS : Rd ((w2.alloc (.cells #[.slice A1 s.length c1] 22)).alloc (.cells #[.int .i64 76] 3)) bv A1 s := ((Rd.own ho1).al _).al _
    have hBF3 := (BF2.out.al (.cells #[.slice A1 s.length c1] 22)).al (.cells #[.int .i64 76] 3)
    have hA1 : ∀ ad, A1 = some ad → w.heap.size + 2 ≤ ad.block ∧ (0 < s.length → ad.block < w2.heap.size) := fun ad e => by
      subst e
      have h1 := (ho1.lt ad.block (by rfl))
      exact ⟨h1.1, fun _ => h1.2⟩
    obtain ⟨ad, hA⟩ : ∃ ad, ∀ i, i < s.length → A1 = some ad := by
      by_cases h0 : 0 < s.length
      · obtain ⟨ad, e, _⟩ := hRS h0
        exact ⟨ad, fun _ _ => e⟩
      · exact ⟨⟨0, 0, none⟩, fun i hi => by omega⟩
    have S := Lib.hid S0
    have HCH := Lib.hid hCH
    have HRS := Lib.hid hRS
    have HBF := Lib.hid hBF3
    have HA1 := Lib.hid hA1
    have HA := Lib.hid hA
    clear S0 hCH hRS hBF3 hA1 hA ho1 hko hsz hsz2 HO1 KO KO2 BF BF1 BF2 HB HB1 HBB HR HP
    have HCAP := Lib.hid hcap
    have HMAX := Lib.hid hmax
    clear hcap hmax
    generalize (w2.alloc (.cells #[.slice A1 s.length c1] 22)).alloc (.cells #[.int .i64 76] 3) = wD at *
    generalize hgB : w2.heap.size = B at *
    have hB0 : w.heap.size ≤ wD.heap.size := S.out.b.size
    have hgl : w.heap.size + 1 < wD.heap.size := S.out.out.lt
    refine wpIn_rangeFunc_ownG (n := 5) rfl (by decide) (gf := 134) (lb := #[.pointer (some ⟨B, 0, none⟩), .pointer (some ⟨B + 1, 0, none⟩)]) rfl trivial (fun args w => chunk_enters args w)
      (chunk_stops s.length A1 ad HA.out c1 76 (w.heap.size + 1) B 4 wD HCH.out (by omega) (by omega) HCAP.out (by omega) HMAX.out) (fun h k => h.trans k) (fun W lp o o' hl h1 h2 _ => Kq.put o' (by omega) h1 h2) (Below.refl _ _) (fun _ => rfl)
      (EnI s w (w.heap.size + 1) B A1) (fun _ _ _ => False) (enI_own s w _ B _ A1 hB0) (fun c => no_own _)
      ⟨[], none, 0, S.out, HRS.out, HBF.out, rfl, by simp⟩ (fun x => { tmps := #[.slice A l.length c, undef, .slice none 0 0, .pointer (some ⟨w.heap.size, 0, none⟩), .pointer (some ⟨w.heap.size + 1, 0, none⟩), .slice (some (ad.add x.1)) (min 76 (s.length - x.1)) (min 76 (s.length - x.1)), .slice A l.length c, .int .i64 l.length, .bool (decide ((12000 : Int) < (l.length : Int))), undef, .slice A l.length c, .slice A1 s.length c1, chunkV B, .slice (some (ad.add x.1)) (min 76 (s.length - x.1)) (min 76 (s.length - x.1)), undef, undef, undef, undef, undef, undef, undef], defers := [] }) ?assign ?body ?done ?stop
    case assign =>
      intro lp x W K hK
      gi_wp2
      exact hK
    case body =>
      rintro lp pre x W ⟨acc, A2, c2, hI, hR, hF, hacc, hal⟩ hlt
      obtain ⟨i, hi⟩ := x
      have hAi := HA.out i hi
      have hA1' := HA1.out ad hAi
      have hAB : ad.block < B := hA1'.2 (by omega)
      have hlen : ((s.drop i).take 76).length = min 76 (s.length - i) := by rw [List.length_take, List.length_drop]
      have hq1 : 1 ≤ min 76 (s.length - i) := by omega
      have hq2 : min 76 (s.length - i) ≤ 76 := by omega
      have hRr : Rd W bv (some (ad.add i)) ((s.drop i).take 76) := by
        have := hR
        rw [hAi] at this
        exact (this.drop i).take 76
      have hacc2 : acc ++ (s.drop i).take 76 ++ [13, 10] = ((pre ++ [(⟨i, hi⟩ : Part s.length)]).map (·.1)).flatMap (fun i => (s.drop i).take 76 ++ [13, 10]) := by
        rw [List.map_append, List.flatMap_append, ← hacc]
        simp
      have hpl : pre.length ≤ 100000 := by omega
      generalize (s.drop i).take 76 = r at *
      generalize min 76 (s.length - i) = q at *
      have hne : ∀ ad', A1 = some ad' → ∀ (W' : World) (v' : Value) (n : Nat) (xs : List Value), W'.ownsRow B 5 1 v' n xs → some ad'.block ≠ v'.ownBlock := fun ad' e W' v' n xs ho h => by
        rw [hAi] at e
        cases e
        have := (ho.lt _ h.symm).1
        omega
      obtain ⟨a1, ea1, _, hca⟩ := hRr (by omega)
      injection ea1 with ea1
      subst ea1
      have HAC := Lib.hid hacc2
      have HAL := Lib.hid hal
      have HLEN := Lib.hid hlen
      have HI := Lib.hid hI
      have HR := Lib.hid hR
      have HF := Lib.hid hF
      have HNE := Lib.hid hne
      have HCA := Lib.hid hca
      have HA1' := Lib.hid hA1'
      have HAI := Lib.hid hAi
      obtain ⟨i0, hi0, hz0, hz1, hz2⟩ := info_parts info8
      have HI0 := Lib.hid hi0
      have HZ0 := Lib.hid hz0
      have HZ1 := Lib.hid hz1
      have HZ2 := Lib.hid hz2
      have cg := hI.out.cell
      clear hacc2 hal hlen hI hR hF hne hca hA1' hAi hi0 hz0 hz1 hz2 hacc hRr HCH S
      gi_wp2_with (first
        | (refine wpListIn_append_own_at _ rfl (.tmp 14) (.tmp 15) 22 rfl B 5 i0 (.int .u8 0) 1 1 Tryd.underlying22 HI0.out HZ0.out HZ1.out HZ2.out rfl (by decide) (.slice A2 acc.length c2) acc.length (acc.map bv) rfl HI.out.own (ad.add i) q q (r.map bv) rfl (by rw [List.length_map, HLEN.out]; simp) (fun j u hu => by rw [List.getElem?_map] at hu; cases hj : r[j]? with | none => (rw [hj] at hu; cases hu) | some y => (rw [hj] at hu; cases hu; exact HCA.out j y hj)) (fun u hu => by obtain ⟨y, _, rfl⟩ := List.mem_map.1 hu; rfl) (by have := HAL.out; unfold maxLen; omega) (by have := HAL.out; omega) HI.out.hB ?_; intro v' w3 hown' hgrow hat; clear cg; have hown2 : w3.ownsRow B 5 1 v' (acc ++ r).length ((acc ++ r).map bv) := (by rw [List.length_append, List.map_append, HLEN.out]; exact hown'); have M3 := Lib.hid (HI.out.start.app hgrow hown2 hat); have HR3 := Lib.hid (HR.out.grown hgrow (fun ad' e => HNE.out ad' e _ _ _ _ HI.out.own)); have HF3 := Lib.hid (HF.out.grown hgrow HI.out.own (by omega)); obtain ⟨A3, c3, rfl⟩ := own_form hown2; clear hown' hgrow hat hown2)
        | (refine wpListIn_append_own_at _ rfl (.tmp 16) (.tmp 17) 22 rfl B 5 i0 (.int .u8 0) 1 1 Tryd.underlying22 HI0.out HZ0.out HZ1.out HZ2.out rfl (by decide) (.slice A3 (acc ++ r).length c3) (acc ++ r).length ((acc ++ r).map bv) ?e1 (M3.out.al _).own ⟨w3.heap.size, 0, none⟩ 2 2 ([13, 10].map bv) ?e2 (by rfl) ?e3 ?e4 ?e5 ?e6 (M3.out.al _).hB ?_; (case e1 => show Value.slice A3 (acc.length + r.length) c3 = _; rw [List.length_append]); (case e2 => rfl); (case e3 => exact crlf_new w3 _); (case e4 => intro u hu; obtain ⟨y, _, rfl⟩ := List.mem_map.1 hu; rfl); (case e5 => have := HAL.out; have := HLEN.out; rw [List.length_append]; unfold maxLen; omega); (case e6 => have := HAL.out; have := HLEN.out; rw [List.length_append]; omega); intro v' w5 hown' hgrow hat; have hown2 : w5.ownsRow B 5 1 v' (acc ++ r ++ [13, 10]).length ((acc ++ r ++ [13, 10]).map bv) := (by rw [List.length_append, List.map_append]; exact hown'); have M5 := Lib.hid ((M3.out.al _).app hgrow hown2 hat); have HR5 := Lib.hid ((HR3.out.al _).grown hgrow (fun ad' e => HNE.out ad' e _ _ _ _ M3.out.own)); have HF5 := Lib.hid ((HF3.out.al _).grown hgrow (M3.out.al _).own (by omega)); clear hown' hgrow hat M3 HR3 HF3; obtain ⟨A5, c5, rfl⟩ := own_form hown2; clear hown2; have cg := M5.out.out.cell; have fg := M5.out.out.frozen))
      obtain ⟨hS5, hq5, hf5⟩ := M5.out.store HI.out.row HI.out.out
      have hla : (acc ++ r ++ [13, 10]).length = acc.length + (r.length + 2) := by simp
      rw [hla] at hS5 hq5 hf5
      exact ⟨keeps_up hf5 hB0, hq5, acc ++ r ++ [13, 10], A5, c5, by rw [hla]; exact hS5, HR5.out.far (fun ad' e => by rw [HAI.out] at e; cases e; have := HA1'.out.1; show ad.block ≠ w.heap.size + 1; omega) _, HF5.out.far (show w.heap.size ≠ w.heap.size + 1 by omega) _, HAC.out, by rw [hla, List.length_append]; have := HAL.out; have := HLEN.out; simp; omega⟩
    case done =>
      rintro D ys W hD hys ⟨acc, A2, c2, hI, hR, hF, hacc, hal⟩ hK
      clear hal hR
      have hL : v = acc := by rw [hacc, hys]; exact HBEG.out.symm
      clear hacc
      subst hL
      have cgo := hI.out.cell
      have cf := hF.cell
      have ff := hF.frozen
      have HK := Lib.hid hK
      have HI := Lib.hid hI
      have HF := Lib.hid hF
      clear hK hI hF
      gi_wp2
      have hK2 : ((W.setCell ⟨w.heap.size, 0, none⟩ (.int .i64 0)).setCell ⟨w.heap.size, 1, none⟩ (.int .i64 0)).heap[D]? = some (.deferred (some [])) := by
        rw [Below.heap_setCell _ _ _ D (show D ≠ w.heap.size by omega), Below.heap_setCell _ _ _ D (show D ≠ w.heap.size by omega)]
        exact HK.out
      refine ⟨by simp, .inl ⟨_, _, rfl, run_takeDeferred hK2, ?_⟩⟩
      have S1 := (HI.out.far (fb := w.heap.size) (i := 0) (.int .i64 0) (by omega) (by omega) (Nat.le_refl _)).far (fb := w.heap.size) (i := 1) (.int .i64 0) (by omega) (by omega) (Nat.le_refl _)
      have F1 := (HF.out.put 0 (.int .i64 0)).put' (cs' := #[.int .i64 0, .int .i64 0]) 1 (.int .i64 0) rfl
      have S2 := S1.abides (grownBy_putObj' _ D (.deferred none)) (fun r e => by cases e; exact ⟨Nat.le_trans hB0 hD, _, hK2, rfl⟩)
      have F2 := bk_abides F1 (grownBy_putObj' _ D (.deferred none)) (fun r e => by cases e; exact ⟨_, hK2, rfl⟩)
      exact ⟨_, res_tc Tryd.results87 rfl F2 hu28 rfl (by kernel_rfl), A2, c2, rfl, Rd.own S2.own, (Fr.own S2.own (by omega)), S2.b⟩
    case stop =>
      rintro D c0 pre W hD hpre hF
      exact hF.elim
end Go.Proofs.YtjgohmfmalcjoaaDoor.TrW
