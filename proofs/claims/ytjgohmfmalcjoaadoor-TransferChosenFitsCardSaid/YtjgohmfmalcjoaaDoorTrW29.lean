import Derived.Test.YtjgohmfmalcjoaaDoorTrW28
/- Walk: base64.Plain. -/
namespace Go.Proofs.YtjgohmfmalcjoaaDoor.Tr
theorem plainL_beg (l : List UInt8) : (begL 3 (nParts l.length 3)).flatMap (fun i => groupL ((l.drop i).take 3)) = plainL l := by
  unfold begL plainL
  rw [List.flatMap_map]
  rfl
end Go.Proofs.YtjgohmfmalcjoaaDoor.Tr
namespace Go.Proofs.YtjgohmfmalcjoaaDoor.TrW
open Go.RowKit Go.Shelf Go.Proofs.YtjgohmfmalcjoaaDoor.Base Go.Proofs.YtjgohmfmalcjoaaDoor.Tr
set_option linter.unusedVariables false
set_option linter.unusedSimpArgs false
attribute [local go_sem] Oper.semAt_some
/-- the call hands back bytes that it owns. -/
def GivesBo (w : World) (l : List UInt8) (e : Ending) (w' : World) : Prop := ∃ A c, e = .returned (.slice A l.length c) ∧ w'.ownsRow w.heap.size 5 1 (.slice A l.length c) l.length (l.map bv) ∧ Below w.heap.size w w'
/-- the round's invariant. -/
def PlI (l : List UInt8) (w : World) (go B : Nat) (pre : List (Part l.length)) (W : World) : Prop :=
  ∃ acc A c, PI w W go B acc (.slice A acc.length c) ∧ acc = (pre.map (·.1)).flatMap (fun i => groupL ((l.drop i).take 3)) ∧ acc.length = 4 * pre.length
theorem plI_own (l : List UInt8) (w : World) (go B B0 : Nat) (h : w.heap.size ≤ B0) : OwnFrom B0 (PlI l w go B) := by
  rintro pre W W' row ⟨acc, A, c, hI, hrest⟩ hg hr
  exact ⟨acc, A, c, hI.abides hg (fun r e => ⟨Nat.le_trans h (hr r e).1, (hr r e).2⟩), hrest⟩
theorem no_own {α : Type} (B0 : Nat) : OwnFrom B0 (fun (_ : List α) (_ : World) => False) := fun _ _ _ _ h => h.elim
set_option maxHeartbeats 4000000 in
set_option maxRecDepth 100000 in
theorem plain_calls (A : Option Addr) (l : List UInt8) (c : Nat) (w : World) (h : Rd w bv A l) (hl : l.length ≤ 100000) (hc : l.length ≤ c) (hc63 : c ≤ 9223372036854775807) :
    Calls Tryd.prog 114 #[.slice A l.length c] w (GivesBo w (plainL l)) := by
  obtain ⟨ad, hA⟩ : ∃ ad, ∀ i, i < l.length → A = some ad := by
    by_cases h0 : 0 < l.length
    · obtain ⟨ad, e, _⟩ := h h0
      exact ⟨ad, fun _ _ => e⟩
    · exact ⟨⟨0, 0, none⟩, fun i hi => by omega⟩
  have hpl := plainL_beg l
  generalize plainL l = v at *
  have HPL := Lib.hid hpl
  have HR := Lib.hid h
  have HA := Lib.hid hA
  clear h hA hpl
  refine (callsIn_wide (n := 5)).1 ?_
  refine callsIn_of_wp_marks Tryd.func114 rfl trivial ?_ rfl
  simp only [Tryd.ntmps114, List.size_toArray, List.length_cons, List.length_nil, Nat.reduceAdd, Nat.reduceSub, Array.replicate_succ, Array.replicate_zero, List.push_toArray, List.append_toArray, List.nil_append, List.cons_append]
  have hD : Calls Tryd.prog 113 #[.slice A l.length c, .int .i64 3] (w.alloc (.cells #[.slice none 0 0] 22)) fun e w' => e = .returned (chunkV (w.heap.size + 1)) ∧ w' = ((w.alloc (.cells #[.slice none 0 0] 22)).alloc (.cells #[.slice A l.length c] 22)).alloc (.cells #[.int .i64 3] 3) := by
    have := chunk_calls A l.length c 3 (w.alloc (.cells #[.slice none 0 0] 22)) (by omega) (by omega)
    rw [World.size_alloc] at this
    exact this
  have S0 : PI w (((w.alloc (.cells #[.slice none 0 0] 22)).alloc (.cells #[.slice A l.length c] 22)).alloc (.cells #[.int .i64 3] 3)) w.heap.size (w.heap.size + 1) [] (.slice none 0 0) :=
    ⟨World.ownsRow_nil _ _ _ _, below_al (below_al (below_al (Below.refl _ _) _) _) _, by simp, Nat.le_refl _, by omega, ((Bk.new w _ _).al _).al _⟩
  have hCH : ChAt (((w.alloc (.cells #[.slice none 0 0] 22)).alloc (.cells #[.slice A l.length c] 22)).alloc (.cells #[.int .i64 3] 3)) w.heap.size (w.heap.size + 1) A l.length c 3 :=
    ⟨S0.row, by simp; omega, (Bk.new' _ _ _ (by simp)).al _, Bk.new' _ _ _ (by simp), by omega⟩
  have HD := Lib.hid hD
  have S := Lib.hid S0
  have HCH := Lib.hid hCH
  clear hD S0 hCH
  gi_wp2_with (refine ⟨trivial, ?_⟩; gi_at_call 113; refine (callsIn_wide.2 HD.out).mono ?_; rintro e wD ⟨rfl, rfl⟩; skip)
  clear HD
  generalize ((w.alloc (.cells #[.slice none 0 0] 22)).alloc (.cells #[.slice A l.length c] 22)).alloc (.cells #[.int .i64 3] 3) = wD at *
  generalize hgo : w.heap.size = go at *
  have hB0 : w.heap.size ≤ wD.heap.size := S.out.b.size
  have hgl : go < wD.heap.size := S.out.out.lt
  refine wpIn_rangeFunc_ownG (n := 5) rfl (by decide) (gf := 134) (lb := #[.pointer (some ⟨go + 1, 0, none⟩), .pointer (some ⟨go + 1 + 1, 0, none⟩)]) rfl trivial (fun args w => chunk_enters args w)
    (chunk_stops l.length A ad HA.out c 3 go (go + 1) 4 wD HCH.out (by omega) (by omega) hc (by omega) hc63) (fun h k => h.trans k) (fun W lp o o' hl h1 h2 _ => Kq.put o' (by omega) h1 h2) (Below.refl _ _) (fun _ => rfl)
    (PlI l w go (go + 1)) (fun _ _ _ => False) (plI_own l w go (go + 1) _ hB0) (fun c => no_own _)
    ⟨[], none, 0, S.out, rfl, rfl⟩ (fun x => { tmps := #[.slice A l.length c, undef, .slice none 0 0, .pointer (some ⟨go, 0, none⟩), .slice (some (ad.add x.1)) (min 3 (l.length - x.1)) (min 3 (l.length - x.1)), .slice A l.length c, chunkV (go + 1), .slice (some (ad.add x.1)) (min 3 (l.length - x.1)) (min 3 (l.length - x.1)), undef, undef, undef, undef, undef], defers := [] }) ?assign ?body ?done ?stop
  case assign =>
    intro lp x W K hK
    gi_wp2
    exact hK
  case body =>
    rintro lp pre x W ⟨acc, A2, c2, hI, hacc, hal⟩ hlt
    obtain ⟨i, hi⟩ := x
    have hAi := HA.out i hi
    have hRW : ∀ W', Below w.heap.size w W' → Rd W' bv (some (ad.add i)) ((l.drop i).take 3) := fun W' hb => by
      have := HR.out.bel hb
      rw [hAi] at this
      exact (this.drop i).take 3
    have hlen : ((l.drop i).take 3).length = min 3 (l.length - i) := by rw [List.length_take, List.length_drop]
    have hGR : ∀ W', Below w.heap.size w W' → Calls Tryd.prog 135 #[.slice (some (ad.add i)) (min 3 (l.length - i)) (min 3 (l.length - i))] W' (GivesB W' (groupL ((l.drop i).take 3))) := fun W' hb => by
      have := group_calls (some (ad.add i)) ((l.drop i).take 3) (min 3 (l.length - i)) W' (hRW W' hb) (by rw [hlen]; omega) (by rw [hlen]; omega)
      rw [hlen] at this
      exact this
    have hg4 : (groupL ((l.drop i).take 3)).length = 4 := groupL_len _
    have hacc2 : acc ++ groupL ((l.drop i).take 3) = ((pre ++ [(⟨i, hi⟩ : Part l.length)]).map (·.1)).flatMap (fun i => groupL ((l.drop i).take 3)) := by
      rw [List.map_append, List.flatMap_append, ← hacc]
      simp
    have hpl : pre.length ≤ 100000 := by omega
    generalize groupL ((l.drop i).take 3) = gr at *
    generalize min 3 (l.length - i) = q at *
    have HGR := Lib.hid hGR
    have HAC := Lib.hid hacc2
    have HAL := Lib.hid hal
    have HG4 := Lib.hid hg4
    have HI := Lib.hid hI
    obtain ⟨i0, hi0, hz0, hz1, hz2⟩ := info_parts info8
    have HI0 := Lib.hid hi0
    have HZ0 := Lib.hid hz0
    have HZ1 := Lib.hid hz1
    have HZ2 := Lib.hid hz2
    clear hGR hacc2 hal hg4 hI hi0 hz0 hz1 hz2 hacc hlen hRW hAi HCH S
    gi_wp2
    refine wpIn_region_any (by kernel_rfl) ?_
    change wpAnyIn _ _ _ _ _ _ _ _ _ (World.drew _)
    have M0 := Lib.hid (HI.out.start.bel (below_drew1 (Below.refl _ _)))
    generalize W.drew = W0 at *
    refine wpAnyIn_ready (rs := [0, 1]) (by kernel_rfl) (by simp) ?_
    refine AllReadyIn.cons rfl (fun K hK => ?_) (AllReadyIn.cons rfl (fun K hK => ?_) (AllReadyIn.nil))
    · skip
      have cg := M0.out.out.cell
      go_simp
      refine hK _ _ ?_
      clear hK K cg
      refine wpAnyIn_ready (rs := [1]) (by kernel_rfl) (by simp) ?_
      refine AllReadyIn.cons rfl (fun K hK => ?_) (AllReadyIn.nil)
      go_simp
      refine hK _ _ ?_
      clear hK K
      refine wpAnyIn_ready (rs := [2]) (by kernel_rfl) (by simp) ?_
      refine AllReadyIn.cons rfl (fun K hK => ?_) (AllReadyIn.nil)
      go_simp
      gi_wp2_with (refine ⟨trivial, ?_⟩; gi_at_call 135; refine ((open_round lp).2.2 _ _ _ _ _ _ (HGR.out _ M0.out.b)).mono ?_; rintro e w1 ⟨A1, c1, rfl, hr1, hf1, hb1⟩; skip)
      have M1 := Lib.hid (M0.out.bel hb1)
      have HR1 := Lib.hid hr1
      clear hr1 hf1 hb1 M0
      first | (refine hK _ _ ?_; clear hK K) | skip
      refine wpAnyIn_ready (rs := [3]) (by kernel_rfl) (by simp) ?_
      refine AllReadyIn.cons rfl (fun K hK => ?_) (AllReadyIn.nil)
      obtain ⟨a1, ea1, _, hca⟩ := HR1.out (by rw [HG4.out]; omega)
      subst ea1
      refine step_append_in_at rfl (.tmp 8) (.tmp 10) 22 rfl (go + 1) 5 i0 (.int .u8 0) 1 1 Tryd.underlying22 HI0.out HZ0.out HZ1.out HZ2.out rfl (by decide) (.slice A2 acc.length c2) acc.length (acc.map bv) rfl M1.out.own a1 gr.length c1 (gr.map bv) rfl (by simp) (fun j u hu => by rw [List.getElem?_map] at hu; cases hj : gr[j]? with | none => (rw [hj] at hu; cases hu) | some y => (rw [hj] at hu; cases hu; exact hca j y hj)) (fun u hu => by obtain ⟨y, _, rfl⟩ := List.mem_map.1 hu; rfl) (by have := HAL.out; have := HG4.out; unfold maxLen; omega) (by have := HAL.out; have := HG4.out; omega) M1.out.hB ?_
      intro v' w3 hown' hgrow hat
      have hown2 : w3.ownsRow (go + 1) 5 1 v' (acc ++ gr).length ((acc ++ gr).map bv) := by rw [List.length_append, List.map_append]; exact hown'
      have M3 := Lib.hid (M1.out.app hgrow hown2 hat)
      obtain ⟨A3, c3, rfl⟩ := own_form hown2
      refine hK _ _ ?_
      clear hK K hown' hown2 hgrow hat M1 HR1 hca
      refine wpAnyIn_ready (rs := [4]) (by kernel_rfl) (by simp) ?_
      refine AllReadyIn.cons rfl (fun K hK => ?_) (AllReadyIn.nil)
      have cg := M3.out.out.cell
      have fg := M3.out.out.frozen
      go_simp
      refine hK _ _ ?_
      clear hK K cg fg
      refine wpAnyIn_done (by kernel_rfl) ?_ _
      obtain ⟨hS3, hq3, hf3⟩ := M3.out.store HI.out.row HI.out.out
      have hla : (acc ++ gr).length = acc.length + gr.length := List.length_append
      rw [hla] at hS3 hq3 hf3
      exact ⟨keeps_up hf3 hB0, hq3, acc ++ gr, A3, c3, by rw [hla]; exact hS3, HAC.out, by rw [List.length_append, HAL.out, HG4.out, List.length_append]; simp; omega⟩
    · skip
      go_simp
      refine hK _ _ ?_
      clear hK K
      refine wpAnyIn_ready (rs := [0, 2]) (by kernel_rfl) (by simp) ?_
      refine AllReadyIn.cons rfl (fun K hK => ?_) (AllReadyIn.cons rfl (fun K hK => ?_) (AllReadyIn.nil))
      · skip
        have cg := M0.out.out.cell
        go_simp
        refine hK _ _ ?_
        clear hK K cg
        refine wpAnyIn_ready (rs := [2]) (by kernel_rfl) (by simp) ?_
        refine AllReadyIn.cons rfl (fun K hK => ?_) (AllReadyIn.nil)
        go_simp
        gi_wp2_with (refine ⟨trivial, ?_⟩; gi_at_call 135; refine ((open_round lp).2.2 _ _ _ _ _ _ (HGR.out _ M0.out.b)).mono ?_; rintro e w1 ⟨A1, c1, rfl, hr1, hf1, hb1⟩; skip)
        have M1 := Lib.hid (M0.out.bel hb1)
        have HR1 := Lib.hid hr1
        clear hr1 hf1 hb1 M0
        first | (refine hK _ _ ?_; clear hK K) | skip
        refine wpAnyIn_ready (rs := [3]) (by kernel_rfl) (by simp) ?_
        refine AllReadyIn.cons rfl (fun K hK => ?_) (AllReadyIn.nil)
        obtain ⟨a1, ea1, _, hca⟩ := HR1.out (by rw [HG4.out]; omega)
        subst ea1
        refine step_append_in_at rfl (.tmp 8) (.tmp 10) 22 rfl (go + 1) 5 i0 (.int .u8 0) 1 1 Tryd.underlying22 HI0.out HZ0.out HZ1.out HZ2.out rfl (by decide) (.slice A2 acc.length c2) acc.length (acc.map bv) rfl M1.out.own a1 gr.length c1 (gr.map bv) rfl (by simp) (fun j u hu => by rw [List.getElem?_map] at hu; cases hj : gr[j]? with | none => (rw [hj] at hu; cases hu) | some y => (rw [hj] at hu; cases hu; exact hca j y hj)) (fun u hu => by obtain ⟨y, _, rfl⟩ := List.mem_map.1 hu; rfl) (by have := HAL.out; have := HG4.out; unfold maxLen; omega) (by have := HAL.out; have := HG4.out; omega) M1.out.hB ?_
        intro v' w3 hown' hgrow hat
        have hown2 : w3.ownsRow (go + 1) 5 1 v' (acc ++ gr).length ((acc ++ gr).map bv) := by rw [List.length_append, List.map_append]; exact hown'
        have M3 := Lib.hid (M1.out.app hgrow hown2 hat)
        obtain ⟨A3, c3, rfl⟩ := own_form hown2
        refine hK _ _ ?_
        clear hK K hown' hown2 hgrow hat M1 HR1 hca
        refine wpAnyIn_ready (rs := [4]) (by kernel_rfl) (by simp) ?_
        refine AllReadyIn.cons rfl (fun K hK => ?_) (AllReadyIn.nil)
        have cg := M3.out.out.cell
        have fg := M3.out.out.frozen
        go_simp
        refine hK _ _ ?_
        clear hK K cg fg
        refine wpAnyIn_done (by kernel_rfl) ?_ _
        obtain ⟨hS3, hq3, hf3⟩ := M3.out.store HI.out.row HI.out.out
        have hla : (acc ++ gr).length = acc.length + gr.length := List.length_append
        rw [hla] at hS3 hq3 hf3
        exact ⟨keeps_up hf3 hB0, hq3, acc ++ gr, A3, c3, by rw [hla]; exact hS3, HAC.out, by rw [List.length_append, HAL.out, HG4.out, List.length_append]; simp; omega⟩
      · skip
        go_simp
        gi_wp2_with (refine ⟨trivial, ?_⟩; gi_at_call 135; refine ((open_round lp).2.2 _ _ _ _ _ _ (HGR.out _ M0.out.b)).mono ?_; rintro e w1 ⟨A1, c1, rfl, hr1, hf1, hb1⟩; skip)
        have M1 := Lib.hid (M0.out.bel hb1)
        have HR1 := Lib.hid hr1
        clear hr1 hf1 hb1 M0
        first | (refine hK _ _ ?_; clear hK K) | skip
        refine wpAnyIn_ready (rs := [0]) (by kernel_rfl) (by simp) ?_
        refine AllReadyIn.cons rfl (fun K hK => ?_) (AllReadyIn.nil)
        have cg := M1.out.out.cell
        go_simp
        refine hK _ _ ?_
        clear hK K cg
        refine wpAnyIn_ready (rs := [3]) (by kernel_rfl) (by simp) ?_
        refine AllReadyIn.cons rfl (fun K hK => ?_) (AllReadyIn.nil)
        obtain ⟨a1, ea1, _, hca⟩ := HR1.out (by rw [HG4.out]; omega)
        subst ea1
        refine step_append_in_at rfl (.tmp 8) (.tmp 10) 22 rfl (go + 1) 5 i0 (.int .u8 0) 1 1 Tryd.underlying22 HI0.out HZ0.out HZ1.out HZ2.out rfl (by decide) (.slice A2 acc.length c2) acc.length (acc.map bv) rfl M1.out.own a1 gr.length c1 (gr.map bv) rfl (by simp) (fun j u hu => by rw [List.getElem?_map] at hu; cases hj : gr[j]? with | none => (rw [hj] at hu; cases hu) | some y => (rw [hj] at hu; cases hu; exact hca j y hj)) (fun u hu => by obtain ⟨y, _, rfl⟩ := List.mem_map.1 hu; rfl) (by have := HAL.out; have := HG4.out; unfold maxLen; omega) (by have := HAL.out; have := HG4.out; omega) M1.out.hB ?_
        intro v' w3 hown' hgrow hat
        have hown2 : w3.ownsRow (go + 1) 5 1 v' (acc ++ gr).length ((acc ++ gr).map bv) := by rw [List.length_append, List.map_append]; exact hown'
        have M3 := Lib.hid (M1.out.app hgrow hown2 hat)
        obtain ⟨A3, c3, rfl⟩ := own_form hown2
        refine hK _ _ ?_
        clear hK K hown' hown2 hgrow hat M1 HR1 hca
        refine wpAnyIn_ready (rs := [4]) (by kernel_rfl) (by simp) ?_
        refine AllReadyIn.cons rfl (fun K hK => ?_) (AllReadyIn.nil)
        have cg := M3.out.out.cell
        have fg := M3.out.out.frozen
        go_simp
        refine hK _ _ ?_
        clear hK K cg fg
        refine wpAnyIn_done (by kernel_rfl) ?_ _
        obtain ⟨hS3, hq3, hf3⟩ := M3.out.store HI.out.row HI.out.out
        have hla : (acc ++ gr).length = acc.length + gr.length := List.length_append
        rw [hla] at hS3 hq3 hf3
        exact ⟨keeps_up hf3 hB0, hq3, acc ++ gr, A3, c3, by rw [hla]; exact hS3, HAC.out, by rw [List.length_append, HAL.out, HG4.out, List.length_append]; simp; omega⟩
  case done =>
    rintro D ys W hD hys ⟨acc, A2, c2, hI, hacc, hal⟩ hK
    clear hal
    have hL : v = acc := by rw [hacc, hys]; exact HPL.out.symm
    clear hacc
    subst hL
    have cgo := hI.out.cell
    gi_wp2
    refine ⟨by simp, .inl ⟨_, _, rfl, run_takeDeferred hK, ?_⟩⟩
    have S2 := hI.abides (grownBy_putObj' _ D (.deferred none)) (fun r e => by cases e; exact ⟨Nat.le_trans hB0 hD, _, hK, rfl⟩)
    refine ⟨.slice A2 v.length c2, ?_, A2, c2, rfl, own_mono S2.own (by omega), S2.b⟩
    simp [results, Tryd.f114, go_sem]
  case stop =>
    rintro D c0 pre W hD hpre hF
    exact hF.elim
end Go.Proofs.YtjgohmfmalcjoaaDoor.TrW
