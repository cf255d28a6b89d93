/- Walks: the reference's letters; names of encodings; comparison of bytes. -/
import Derived.Test.YtjgohmfmalcjoaaDoorTrW1
import Derived.Laws.IdiomStrings
import Derived.Laws.BytesArg
import Derived.Lib.Bytes
namespace Go.Proofs.YtjgohmfmalcjoaaDoor.TrW
open Go.RowKit Go.Proofs.YtjgohmfmalcjoaaDoor.Base Go.Proofs.YtjgohmfmalcjoaaDoor.Tr
set_option linter.unusedVariables false
set_option linter.unusedSimpArgs false
theorem add_zero (g j : Nat) : (⟨g, 0, none⟩ : Addr).add j = ⟨g, j, none⟩ := by
  unfold Addr.add
  split
  · subst_vars; rfl
  · simp
/-- '[]byte(s)'. -/
theorem bytes_of (s : ByteArray) (w : World) : ∃ cap W, (convert 9 22 (.string s)).run Tryd.prog w = .ok (.slice (some ⟨w.heap.size, 0, none⟩) s.size cap) W ∧ Below w.heap.size w W ∧ w.heap.size < W.heap.size ∧ (∀ j (h : j < s.size), W.cell? ⟨w.heap.size, j, none⟩ = some (bv s[j])) ∧ (∀ j, j < s.size → W.frozen? ⟨w.heap.size, j, none⟩ = false) := by
  refine ⟨_, _, run_bytes_of_string w _ _ 5 s Tryd.underlying9 Tryd.underlying22 Tryd.underlying5, ?_, by simp, fun j h => ?_, fun j h => ?_⟩
  · exact below_al (below_drew1 (Below.refl _ _)) _
  · have hn : (w.drew.alloc (.cells (bytesRow s (grownCap w s.size 0 5)) 5 ((bytesRow s (grownCap w s.size 0 5)).size, (bytesRow s (grownCap w s.size 0 5)).size + 1))).heap[w.heap.size]? = some (.cells (bytesRow s (grownCap w s.size 0 5)) 5 ((bytesRow s (grownCap w s.size 0 5)).size, (bytesRow s (grownCap w s.size 0 5)).size + 1)) := heap_alloc_new w.drew _
    rw [cell_of_row _ _ j _ _ _ hn]
    exact bytesRow_at s _ j h
  · have hn : (w.drew.alloc (.cells (bytesRow s (grownCap w s.size 0 5)) 5 ((bytesRow s (grownCap w s.size 0 5)).size, (bytesRow s (grownCap w s.size 0 5)).size + 1))).heap[w.heap.size]? = some (.cells (bytesRow s (grownCap w s.size 0 5)) 5 ((bytesRow s (grownCap w s.size 0 5)).size, (bytesRow s (grownCap w s.size 0 5)).size + 1)) := heap_alloc_new w.drew _
    unfold World.frozen?
    rw [hn]
    have : s.size ≤ (bytesRow s (grownCap w s.size 0 5)).size := by unfold bytesRow; simp
    simp
    omega
/-- 'string(b)'. -/
theorem string_of {A : Option Addr} {l : List UInt8} {c : Nat} {w : World} (h : Rd w bv A l) : (convert 22 9 (.slice A l.length c)).run Tryd.prog w = .ok (.string ⟨l.toArray⟩) w := by
  cases A with
  | none =>
    have : l = [] := by
      cases l with
      | nil => rfl
      | cons x l => obtain ⟨ad, e, _⟩ := h (by simp); cases e
    subst this
    exact run_convert_bytes_nil w _ 5 Tryd.underlying22 Tryd.underlying5 _ _ _ Tryd.underlying9
  | some a =>
    refine run_convert_bytes_back w _ _ 5 a c l Tryd.underlying22 Tryd.underlying5 Tryd.underlying9 (fun j hj => ?_)
    obtain ⟨ad, e, _, hc⟩ := h.at_ hj
    injection e with e
    subst e
    exact hc
set_option maxHeartbeats 1000000 in
set_option maxRecDepth 20000 in
theorem rlower_calls (s : ByteArray) (w : World) (hs : s.size ≤ maxLen) :
    Calls Tryd.prog 61 #[.string s] w fun e w' => e = .returned (.string (lowS s)) ∧ Below w.heap.size w w' := by
  unfold maxLen at hs
  obtain ⟨cap, W, hcv, hb, hlt0, hce, hfz⟩ := bytes_of s w
  have HB := Lib.hid hb
  have HCE := Lib.hid hce
  have HFZ := Lib.hid hfz
  clear hb hce hfz
  go_enter Tryd.func61, Tryd.ntmps61
  go_upto_region 3 with fail
  clear hcv
  go_loopw [4] (fun s4 wr => ∃ k : Nat, k ≤ s.size ∧ s4 = .int .i64 k ∧ Hid ((∀ j (h : j < s.size), wr.cell? ⟨w.heap.size, j, none⟩ = some (if j < k then bv (lowC s[j]) else bv s[j])) ∧ (∀ j, j < s.size → wr.frozen? ⟨w.heap.size, j, none⟩ = false) ∧ Below w.heap.size w wr ∧ w.heap.size < wr.heap.size)) (fun s4 _ => s.size - (intOf s4).toNat)
  case atStart => exact ⟨0, by omega, rfl, Lib.hid ⟨fun j h => by rw [if_neg (by omega)]; exact HCE.out j h, HFZ.out, HB.out, hlt0⟩⟩
  case round =>
    obtain ⟨k, hk, rfl, HS⟩ := hrel
    by_cases hlt : k < s.size
    · have i1 : (0 : Int) ≤ (k : Int) := by omega
      have i2 : (k : Int) < (s.size : Int) := by omega
      have ck := HS.out.1 k hlt
      rw [if_neg (by omega)] at ck
      have fk := HS.out.2.1 k hlt
      have hu := u8_lt s[k]
      rcases Nat.lt_or_ge s[k].toNat 65 with h1 | h1
      · have hin : inR (s[k].toNat : Int) 65 90 = false := by simp [inR]; omega
        have hl := lowC_no (c := s[k]) (.inl h1)
        clear h1
        go_wp2_with (go_at_call 67; refine (rIn_is hin _).mono ?_; rintro e w' ⟨rfl, rfl⟩)
        exact ⟨⟨k + 1, by omega, by go_num, Lib.hid ⟨fun j h => by
          rw [HS.out.1 j h]
          rcases Nat.lt_trichotomy j k with h1 | h1 | h1
          · rw [if_pos h1, if_pos (by omega)]
          · subst h1; rw [if_neg (by omega), if_pos (by omega), hl]
          · rw [if_neg (by omega), if_neg (by omega)], HS.out.2.1, HS.out.2.2.1, HS.out.2.2.2⟩⟩, by simp [intOf]; omega⟩
      · rcases Nat.lt_or_ge 90 s[k].toNat with h2 | h2
        · have hin : inR (s[k].toNat : Int) 65 90 = false := by simp [inR]; omega
          have hl := lowC_no (c := s[k]) (.inr h2)
          clear h1 h2
          go_wp2_with (go_at_call 67; refine (rIn_is hin _).mono ?_; rintro e w' ⟨rfl, rfl⟩)
          exact ⟨⟨k + 1, by omega, by go_num, Lib.hid ⟨fun j h => by
            rw [HS.out.1 j h]
            rcases Nat.lt_trichotomy j k with h1 | h1 | h1
            · rw [if_pos h1, if_pos (by omega)]
            · subst h1; rw [if_neg (by omega), if_pos (by omega), hl]
            · rw [if_neg (by omega), if_neg (by omega)], HS.out.2.1, HS.out.2.2.1, HS.out.2.2.2⟩⟩, by simp [intOf]; omega⟩
        · have hin : inR (s[k].toNat : Int) 65 90 = true := by simp [inR]; omega
          have hl := lowC_up h1 h2
          have g1 : (s[k].toNat : Int) ≤ 90 := by omega
          clear h1 h2
          go_wp2_with (go_at_call 67; refine (rIn_is hin _).mono ?_; rintro e w' ⟨rfl, rfl⟩)
          exact ⟨⟨k + 1, by omega, by go_num, Lib.hid ⟨fun j h => by
            by_cases hj : j = k
            · subst hj
              rw [World.cell?_setCell_same (h := ck), if_pos (by omega)]
              unfold bv
              rw [hl]
            · rw [World.cell?_setCell_other (h := by intro e; injection e with _ e; exact hj e.symm), HS.out.1 j h]
              by_cases h1 : j < k
              · rw [if_pos h1, if_pos (by omega)]
              · rw [if_neg h1, if_neg (by omega)], fun j h => by rw [World.frozen?_setCell]; exact HS.out.2.1 j h, below_set HS.out.2.2.1 (by simp) _, by simpa [World.setCell] using HS.out.2.2.2⟩⟩, by simp [intOf]; omega⟩
    · have hkl : k = s.size := by omega
      have hR : Rd wr bv (some ⟨w.heap.size, 0, none⟩) (lowL s) := fun _ => ⟨_, rfl, HS.out.2.2.2, fun j x hx => by
        have hj : j < s.size := by
          have := (List.getElem?_eq_some_iff.1 hx).1
          rwa [lowL_len] at this
        rw [lowL_at s j hj] at hx
        injection hx with hx
        rw [add_zero, HS.out.1 j hj, if_pos (by omega), hx]⟩
      have hcv := string_of (c := cap) hR
      rw [lowL_len] at hcv
      go_wp2
      go_ret
      exact ⟨rfl, HS.out.2.2.1⟩
set_option maxRecDepth 20000 in
theorem ralike_calls (a b : ByteArray) (w : World) (ha : a.size ≤ maxLen) (hb : b.size ≤ maxLen) :
    Calls Tryd.prog 36 #[.string a, .string b] w fun e w' => e = .returned (.bool (alike a b)) ∧ Below w.heap.size w w' := by
  have hA := fun W => rlower_calls a W ha
  have hB := fun W => rlower_calls b W hb
  have he : ((lowS a).toList == (lowS b).toList) = alike a b := by
    rw [Lib.toList_data, Lib.toList_data]
    rfl
  generalize alike a b = v at *
  generalize lowS a = x at *
  generalize lowS b = y at *
  have HA := Lib.hid hA
  have HB := Lib.hid hB
  clear hA hB
  go_enter Tryd.func36, Tryd.ntmps36
  go_wp2_with (first | (go_at_call 61; ((with_reducible refine (HA.out _).mono ?_); rintro e w1 ⟨rfl, hb1⟩)) | (go_at_call 61; ((with_reducible refine (HB.out _).mono ?_); rintro e w2 ⟨rfl, hb2⟩)))
  go_ret
  exact ⟨by rw [← he]; rfl, below_go hb1 hb2⟩
set_option maxRecDepth 20000 in
theorem rbytes_calls {A B : Option Addr} {a b : List UInt8} {c d : Nat} {w : World} (hA : Rd w bv A a) (hB : Rd w bv B b) :
    Calls Tryd.prog 17 #[.slice A a.length c, .slice B b.length d] w fun e w' => e = .returned (.bool (a == b)) ∧ w = w' := by
  have h1 := string_of (c := c) hA
  have h2 := string_of (c := d) hB
  have he : decide ((⟨a.toArray⟩ : ByteArray) = ⟨b.toArray⟩) = (a == b) := by
    rw [Bool.eq_iff_iff, decide_eq_true_iff, beq_iff_eq]
    constructor
    · intro h; injection h with h; exact (List.toArray_inj h)
    · intro h; rw [h]
  clear hA hB
  go_enter Tryd.func17, Tryd.ntmps17
  go_wp2
  go_ret
  exact ⟨by rw [← he]; rfl, rfl⟩
end Go.Proofs.YtjgohmfmalcjoaaDoor.TrW
