import Derived.Test.YtjgohmfmalcjoaaDoorMb
import Derived.Laws.IdiomStrings
import Derived.Laws.BytesArg
import Derived.Lib.Bytes
/- Walks: letters without regard to case. -/
namespace Go.Proofs.YtjgohmfmalcjoaaDoor.TrW
open Go.RowKit Go.Proofs.YtjgohmfmalcjoaaDoor.Base Go.Proofs.YtjgohmfmalcjoaaDoor.Tr
set_option linter.unusedVariables false
set_option linter.unusedSimpArgs false
theorem rIn_calls (n lo hi : Int) (w : World) :
    Calls Tryd.prog 67 #[.int .i64 n, .int .i64 lo, .int .i64 hi] w fun e w' => e = .returned (.bool (inR n lo hi)) ∧ w = w' := by
  by_cases h : lo ≤ n
  all_goals
    go_enter Tryd.func67, Tryd.ntmps67
    go_wp2
    go_ret
    exact ⟨by simp [inR, h]; try omega, rfl⟩
theorem rIn_is {n lo hi : Int} {b : Bool} (h : inR n lo hi = b) (w : World) :
    Calls Tryd.prog 67 #[.int .i64 n, .int .i64 lo, .int .i64 hi] w fun e w' => e = .returned (.bool b) ∧ w = w' := h ▸ rIn_calls n lo hi w
theorem rAt_calls (c i : Int) (w : World) :
    Calls Tryd.prog 15 #[.int .i64 c, .int .i64 i] w fun e w' => e = .returned (.agg #[.int .i64 c, .int .i64 i]) ∧ Below w.heap.size w w' := by
  have hu := Tryd.underlying25
  go_enter Tryd.func15, Tryd.ntmps15
  go_wp2
  exact bodyPost_ret (by simp [results, Tryd.results15, go_sem]) rfl ⟨rfl, by with_reducible repeat (first | exact Below.refl _ _ | refine below_al ?_ _)⟩
set_option maxRecDepth 20000 in
theorem lower_calls (c : UInt8) (w : World) :
    Calls Tryd.prog 90 #[bv c] w fun e w' => e = .returned (bv (lowC c)) ∧ w = w' := by
  have hu := u8_lt c
  rcases Nat.lt_or_ge c.toNat 65 with h1 | h1
  · have e := lowC_no (c := c) (.inl h1)
    rw [e]
    have g1 : (c.toNat : Int) < 65 := by omega
    clear h1 e
    go_enter Tryd.func90, Tryd.ntmps90
    go_wp2
    go_ret
    exact ⟨rfl, rfl⟩
  · rcases Nat.lt_or_ge 90 c.toNat with h2 | h2
    · have e := lowC_no (c := c) (.inr h2)
      rw [e]
      have g1 : 65 ≤ (c.toNat : Int) := by omega
      have g2 : 90 < (c.toNat : Int) := by omega
      clear h1 h2 e
      go_enter Tryd.func90, Tryd.ntmps90
      go_wp2
      go_ret
      exact ⟨rfl, rfl⟩
    · have e := lowC_up h1 h2
      have g1 : 65 ≤ (c.toNat : Int) := by omega
      have g2 : (c.toNat : Int) ≤ 90 := by omega
      clear h1 h2
      generalize lowC c = x at *
      go_enter Tryd.func90, Tryd.ntmps90
      go_wp2
      go_ret
      exact ⟨ret_int (by omega), rfl⟩
set_option maxHeartbeats 1000000 in
set_option maxRecDepth 20000 in
theorem same_calls (a b : ByteArray) (w : World) (ha : a.size ≤ maxLen) (hb : b.size ≤ maxLen) :
    Calls Tryd.prog 60 #[.string a, .string b] w fun e w' => e = .returned (.bool (alike a b)) ∧ Below w.heap.size w w' := by
  unfold maxLen at ha hb
  by_cases hs : a.size = b.size
  · have g0 : ((a.size : Int) != (b.size : Int)) = false := by simp [hs]
    generalize hv : alike a b = v
    have HV := Lib.hid hv
    clear hv
    go_enter Tryd.func60, Tryd.ntmps60
    go_upto_region 4 with fail
    go_loopw [13] (fun s13 wr => ∃ k : Nat, k ≤ a.size ∧ s13 = .int .i64 k ∧ Hid (∀ j (h1 : j < a.size) (h2 : j < b.size), j < k → lowC a[j] = lowC b[j]) ∧ Hid (Below w.heap.size w wr)) (fun s13 _ => a.size - (intOf s13).toNat)
    case atStart => exact ⟨0, by omega, rfl, Lib.hid (fun j h1 h2 h => by omega), Lib.hid (Below.refl _ _)⟩
    case round =>
      obtain ⟨k, hk, rfl, HA, HB⟩ := hrel
      by_cases hlt : k < a.size
      · have hlt2 : k < b.size := by omega
        have i1 : (0 : Int) ≤ (k : Int) := by omega
        have i2 : (k : Int) < (a.size : Int) := by omega
        have i3 : (k : Int) < (b.size : Int) := by omega
        go_upto_region 6 with fail
        refine wp_region_bel (by kernel_rfl) (by kernel_rfl) ?_
        by_cases hc : lowC a[k] = lowC b[k]
        · have q1 : (((lowC a[k]).toNat : Int) != ((lowC b[k]).toNat : Int)) = false := by rw [hc]; simp
          repeat (go_big_quiet_step ((go_at_call 90; exact bel_eq (lower_calls _ _))))
          refine wpQuiet_nil ?_
          rintro _ ⟨s0, rfl⟩
          have hb2 := Lib.hid (below_go HB.out s0.below)
          generalize s0.w = w2 at *
          go_wp2
          exact ⟨⟨k + 1, by omega, by go_num, Lib.hid (fun j h1 h2 h => by
            rcases Nat.lt_or_ge j k with h3 | h3
            · exact HA.out j h1 h2 h3
            · have : j = k := by omega
              subst this
              exact hc), hb2⟩, by simp [intOf]; omega⟩
        · have q1 : (((lowC a[k]).toNat : Int) != ((lowC b[k]).toNat : Int)) = true := by
            simp only [bne_iff_ne, ne_eq]
            intro h
            exact hc (UInt8.toNat_inj.1 (by omega))
          have hv := alike_no hlt hlt2 hc
          rw [HV.out] at hv
          subst hv
          repeat (go_big_quiet_step ((go_at_call 90; exact bel_eq (lower_calls _ _))))
          refine wpQuiet_nil ?_
          rintro _ ⟨s0, rfl⟩
          have hb2 := Lib.hid (below_go HB.out s0.below)
          generalize s0.w = w2 at *
          go_wp2
          go_ret
          exact ⟨rfl, hb2.out⟩
      · have hv := alike_yes hs (fun j h1 h2 => HA.out j h1 h2 (by omega))
        rw [HV.out] at hv
        subst hv
        go_wp2
        go_ret
        exact ⟨rfl, HB.out⟩
  · have g0 : ((a.size : Int) != (b.size : Int)) = true := by simp; omega
    rw [alike_len hs]
    clear hs
    go_enter Tryd.func60, Tryd.ntmps60
    go_wp2
    go_ret
    exact ⟨rfl, Below.refl _ _⟩
end Go.Proofs.YtjgohmfmalcjoaaDoor.TrW
/- Walks: the reference's letters; names of encodings; comparison of bytes. -/
namespace Go.Proofs.YtjgohmfmalcjoaaDoor.TrW
open Go.RowKit Go.Proofs.YtjgohmfmalcjoaaDoor.Base Go.Proofs.YtjgohmfmalcjoaaDoor.Tr
set_option linter.unusedVariables false
set_option linter.unusedSimpArgs false
theorem add_zero (g j : Nat) : (⟨g, 0, none⟩ : Addr).add j = ⟨g, j, none⟩ := by
  unfold Addr.add
  split
  · subst_vars; rfl
  · simp
/-- '[]byte(s)'. -/
theorem bytes_of (s : ByteArray) (w : World) : ∃ cap W, (convert 9 22 (.string s)).run Tryd.prog w = .ok (.slice (some ⟨w.heap.size, 0, none⟩) s.size cap) W ∧ Below w.heap.size w W ∧ w.heap.size < W.heap.size ∧ (∀ j (h : j < s.size), W.cell? ⟨w.heap.size, j, none⟩ = some (bv s[j])) ∧ (∀ j, j < s.size → W.frozen? ⟨w.heap.size, j, none⟩ = false) := by
  refine ⟨_, _, run_bytes_of_string w _ _ 5 s Tryd.underlying9 Tryd.underlying22 Tryd.underlying5, ?_, by simp, fun j h => ?_, fun j h => ?_⟩
  · exact below_al (below_drew1 (Below.refl _ _)) _
  · have hn : (w.drew.alloc (.cells (bytesRow s (grownCap w s.size 0 5)) 5 ((bytesRow s (grownCap w s.size 0 5)).size, (bytesRow s (grownCap w s.size 0 5)).size + 1))).heap[w.heap.size]? = some (.cells (bytesRow s (grownCap w s.size 0 5)) 5 ((bytesRow s (grownCap w s.size 0 5)).size, (bytesRow s (grownCap w s.size 0 5)).size + 1)) := heap_alloc_new w.drew _
    rw [cell_of_row _ _ j _ _ _ hn]
    exact bytesRow_at s _ j h
  · have hn : (w.drew.alloc (.cells (bytesRow s (grownCap w s.size 0 5)) 5 ((bytesRow s (grownCap w s.size 0 5)).size, (bytesRow s (grownCap w s.size 0 5)).size + 1))).heap[w.heap.size]? = some (.cells (bytesRow s (grownCap w s.size 0 5)) 5 ((bytesRow s (grownCap w s.size 0 5)).size, (bytesRow s (grownCap w s.size 0 5)).size + 1)) := heap_alloc_new w.drew _
    unfold World.frozen?
    rw [hn]
    have : s.size ≤ (bytesRow s (grownCap w s.size 0 5)).size := by unfold bytesRow; simp
    simp
    omega
/-- 'string(b)'. -/
theorem string_of {A : Option Addr} {l : List UInt8} {c : Nat} {w : World} (h : Rd w bv A l) : (convert 22 9 (.slice A l.length c)).run Tryd.prog w = .ok (.string ⟨l.toArray⟩) w := by
  cases A with
  | none =>
    have : l = [] := by
      cases l with
      | nil => rfl
      | cons x l => obtain ⟨ad, e, _⟩ := h (by simp); cases e
    subst this
    exact run_convert_bytes_nil w _ 5 Tryd.underlying22 Tryd.underlying5 _ _ _ Tryd.underlying9
  | some a =>
    refine run_convert_bytes_back w _ _ 5 a c l Tryd.underlying22 Tryd.underlying5 Tryd.underlying9 (fun j hj => ?_)
    obtain ⟨ad, e, _, hc⟩ := h.at_ hj
    injection e with e
    subst e
    exact hc
set_option maxHeartbeats 1000000 in
set_option maxRecDepth 20000 in
theorem rlower_calls (s : ByteArray) (w : World) (hs : s.size ≤ maxLen) :
    Calls Tryd.prog 61 #[.string s] w fun e w' => e = .returned (.string (lowS s)) ∧ Below w.heap.size w w' := by
  unfold maxLen at hs
  obtain ⟨cap, W, hcv, hb, hlt0, hce, hfz⟩ := bytes_of s w
  have HB := Lib.hid hb
  have HCE := Lib.hid hce
  have HFZ := Lib.hid hfz
  clear hb hce hfz
  go_enter Tryd.func61, Tryd.ntmps61
  go_upto_region 3 with fail
  clear hcv
  go_loopw [4] (fun s4 wr => ∃ k : Nat, k ≤ s.size ∧ s4 = .int .i64 k ∧ Hid ((∀ j (h : j < s.size), wr.cell? ⟨w.heap.size, j, none⟩ = some (if j < k then bv (lowC s[j]) else bv s[j])) ∧ (∀ j, j < s.size → wr.frozen? ⟨w.heap.size, j, none⟩ = false) ∧ Below w.heap.size w wr ∧ w.heap.size < wr.heap.size)) (fun s4 _ => s.size - (intOf s4).toNat)
  case atStart => exact ⟨0, by omega, rfl, Lib.hid ⟨fun j h => by rw [if_neg (by omega)]; exact HCE.out j h, HFZ.out, HB.out, hlt0⟩⟩
  case round =>
    obtain ⟨k, hk, rfl, HS⟩ := hrel
    by_cases hlt : k < s.size
    · have i1 : (0 : Int) ≤ (k : Int) := by omega
      have i2 : (k : Int) < (s.size : Int) := by omega
      have ck := HS.out.1 k hlt
      rw [if_neg (by omega)] at ck
      have fk := HS.out.2.1 k hlt
      have hu := u8_lt s[k]
      rcases Nat.lt_or_ge s[k].toNat 65 with h1 | h1
      · have hin : inR (s[k].toNat : Int) 65 90 = false := by simp [inR]; omega
        have hl := lowC_no (c := s[k]) (.inl h1)
        clear h1
        go_wp2_with (go_at_call 67; refine (rIn_is hin _).mono ?_; rintro e w' ⟨rfl, rfl⟩)
        exact ⟨⟨k + 1, by omega, by go_num, Lib.hid ⟨fun j h => by
          rw [HS.out.1 j h]
          rcases Nat.lt_trichotomy j k with h1 | h1 | h1
          · rw [if_pos h1, if_pos (by omega)]
          · subst h1; rw [if_neg (by omega), if_pos (by omega), hl]
          · rw [if_neg (by omega), if_neg (by omega)], HS.out.2.1, HS.out.2.2.1, HS.out.2.2.2⟩⟩, by simp [intOf]; omega⟩
      · rcases Nat.lt_or_ge 90 s[k].toNat with h2 | h2
        · have hin : inR (s[k].toNat : Int) 65 90 = false := by simp [inR]; omega
          have hl := lowC_no (c := s[k]) (.inr h2)
          clear h1 h2
          go_wp2_with (go_at_call 67; refine (rIn_is hin _).mono ?_; rintro e w' ⟨rfl, rfl⟩)
          exact ⟨⟨k + 1, by omega, by go_num, Lib.hid ⟨fun j h => by
            rw [HS.out.1 j h]
            rcases Nat.lt_trichotomy j k with h1 | h1 | h1
            · rw [if_pos h1, if_pos (by omega)]
            · subst h1; rw [if_neg (by omega), if_pos (by omega), hl]
            · rw [if_neg (by omega), if_neg (by omega)], HS.out.2.1, HS.out.2.2.1, HS.out.2.2.2⟩⟩, by simp [intOf]; omega⟩
        · have hin : inR (s[k].toNat : Int) 65 90 = true := by simp [inR]; omega
          have hl := lowC_up h1 h2
          have g1 : (s[k].toNat : Int) ≤ 90 := by omega
          clear h1 h2
          go_wp2_with (go_at_call 67; refine (rIn_is hin _).mono ?_; rintro e w' ⟨rfl, rfl⟩)
          exact ⟨⟨k + 1, by omega, by go_num, Lib.hid ⟨fun j h => by
            by_cases hj : j = k
            · subst hj
              rw [World.cell?_setCell_same (h := ck), if_pos (by omega)]
              unfold bv
              rw [hl]
            · rw [World.cell?_setCell_other (h := by intro e; injection e with _ e; exact hj e.symm), HS.out.1 j h]
              by_cases h1 : j < k
              · rw [if_pos h1, if_pos (by omega)]
              · rw [if_neg h1, if_neg (by omega)], fun j h => by rw [World.frozen?_setCell]; exact HS.out.2.1 j h, below_set HS.out.2.2.1 (by simp) _, by simpa [World.setCell] using HS.out.2.2.2⟩⟩, by simp [intOf]; omega⟩
    · have hkl : k = s.size := by omega
      have hR : Rd wr bv (some ⟨w.heap.size, 0, none⟩) (lowL s) := fun _ => ⟨_, rfl, HS.out.2.2.2, fun j x hx => by
        have hj : j < s.size := by
          have := (List.getElem?_eq_some_iff.1 hx).1
          rwa [lowL_len] at this
        rw [lowL_at s j hj] at hx
        injection hx with hx
        rw [add_zero, HS.out.1 j hj, if_pos (by omega), hx]⟩
      have hcv := string_of (c := cap) hR
      rw [lowL_len] at hcv
      go_wp2
      go_ret
      exact ⟨rfl, HS.out.2.2.1⟩
set_option maxRecDepth 20000 in
theorem ralike_calls (a b : ByteArray) (w : World) (ha : a.size ≤ maxLen) (hb : b.size ≤ maxLen) :
    Calls Tryd.prog 36 #[.string a, .string b] w fun e w' => e = .returned (.bool (alike a b)) ∧ Below w.heap.size w w' := by
  have hA := fun W => rlower_calls a W ha
  have hB := fun W => rlower_calls b W hb
  have he : ((lowS a).toList == (lowS b).toList) = alike a b := by
    rw [Lib.toList_data, Lib.toList_data]
    rfl
  generalize alike a b = v at *
  generalize lowS a = x at *
  generalize lowS b = y at *
  have HA := Lib.hid hA
  have HB := Lib.hid hB
  clear hA hB
  go_enter Tryd.func36, Tryd.ntmps36
  go_wp2_with (first | (go_at_call 61; ((with_reducible refine (HA.out _).mono ?_); rintro e w1 ⟨rfl, hb1⟩)) | (go_at_call 61; ((with_reducible refine (HB.out _).mono ?_); rintro e w2 ⟨rfl, hb2⟩)))
  go_ret
  exact ⟨by rw [← he]; rfl, below_go hb1 hb2⟩
set_option maxRecDepth 20000 in
theorem rbytes_calls {A B : Option Addr} {a b : List UInt8} {c d : Nat} {w : World} (hA : Rd w bv A a) (hB : Rd w bv B b) :
    Calls Tryd.prog 17 #[.slice A a.length c, .slice B b.length d] w fun e w' => e = .returned (.bool (a == b)) ∧ w = w' := by
  have h1 := string_of (c := c) hA
  have h2 := string_of (c := d) hB
  have he : decide ((⟨a.toArray⟩ : ByteArray) = ⟨b.toArray⟩) = (a == b) := by
    rw [Bool.eq_iff_iff, decide_eq_true_iff, beq_iff_eq]
    constructor
    · intro h; injection h with h; exact (List.toArray_inj h)
    · intro h; rw [h]
  clear hA hB
  go_enter Tryd.func17, Tryd.ntmps17
  go_wp2
  go_ret
  exact ⟨by rw [← he]; rfl, rfl⟩
end Go.Proofs.YtjgohmfmalcjoaaDoor.TrW
