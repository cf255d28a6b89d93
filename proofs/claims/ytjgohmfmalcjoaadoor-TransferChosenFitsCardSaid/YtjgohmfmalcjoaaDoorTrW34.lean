import Derived.Test.YtjgohmfmalcjoaaDoorTrW30
import Derived.Test.YtjgohmfmalcjoaaDoorTrW32
import Derived.Test.YtjgohmfmalcjoaaDoorTrW33
/- Walks: the reference's names of encodings; encoded and decoded bytes. -/
namespace Go.Proofs.YtjgohmfmalcjoaaDoor.Tr
def trF (l : List UInt8) (c : Int) : List UInt8 := if c = 2 then lines64 l else if c = 3 then quoL l else l
def unF (l : List UInt8) (c : Int) : List UInt8 := if c = 2 then loose64 l else if c = 3 then looseL l else l
end Go.Proofs.YtjgohmfmalcjoaaDoor.Tr
namespace Go.Proofs.YtjgohmfmalcjoaaDoor.TrW
open Go.RowKit Go.Proofs.YtjgohmfmalcjoaaDoor.Base Go.Proofs.YtjgohmfmalcjoaaDoor.Tr
set_option linter.unusedVariables false
set_option linter.unusedSimpArgs false
set_option maxHeartbeats 2000000 in
set_option maxRecDepth 20000 in
theorem rcodingof_calls (n : ByteArray) (w : World) (hn : n.size ≤ maxLen) :
    Calls Tryd.prog 14 #[.string n] w fun e w' => e = .returned (.int .i64 (codingOf n)) ∧ Below w.heap.size w w' := by
  have h7 := fun W => ralike_calls nm7 n W (by decide) hn
  have h8 := fun W => ralike_calls nm8 n W (by decide) hn
  have h64 := fun W => ralike_calls nm64 n W (by decide) hn
  have hQ := fun W => ralike_calls nmQ n W (by decide) hn
  have hv : codingOf n = if alike nm7 n = true then 0 else if alike nm8 n = true then 1 else if alike nm64 n = true then 2 else if alike nmQ n = true then 3 else -1 := rfl
  generalize codingOf n = v at *
  generalize alike nm7 n = b7 at *
  generalize alike nm8 n = b8 at *
  generalize alike nm64 n = b64 at *
  generalize alike nmQ n = bQ at *
  have H7 := Lib.hid h7
  have H8 := Lib.hid h8
  have H64 := Lib.hid h64
  have HQ := Lib.hid hQ
  have HV := Lib.hid hv
  have BR := Lib.hid (Bk.new w 9 #[.string nm7, .string nm8, .string nm64, .string nmQ])
  have HB := Lib.hid (below_al (Below.refl w.heap.size w) (.cells #[.string nm7, .string nm8, .string nm64, .string nmQ] 9))
  clear h7 h8 h64 hQ hv hn
  go_enter Tryd.func14, Tryd.ntmps14
  go_upto_region 3 with fail
  go_loopw [4] (fun s4 wr => ∃ k : Nat, s4 = .int .i64 k ∧ k ≤ 4 ∧ Hid ((0 < k → b7 = false) ∧ (1 < k → b8 = false) ∧ (2 < k → b64 = false) ∧ (3 < k → bQ = false)) ∧ Hid (Bk wr w.heap.size 9 #[.string nm7, .string nm8, .string nm64, .string nmQ] ∧ Below w.heap.size w wr)) (fun s4 _ => 4 - (intOf s4).toNat)
  case atStart => exact ⟨0, rfl, by omega, Lib.hid ⟨fun h => by omega, fun h => by omega, fun h => by omega, fun h => by omega⟩, Lib.hid ⟨BR.out, HB.out⟩⟩
  case round =>
    obtain ⟨k, rfl, hk, HN, S⟩ := hrel
    clear BR HB
    have cs := S.out.1.cell
    rcases (show k = 0 ∨ k = 1 ∨ k = 2 ∨ k = 3 ∨ k = 4 by omega) with rfl | rfl | rfl | rfl | rfl
    · rcases tf b7 with hb | hb
      · subst hb
        have HN2 := Lib.hid (show ((0 < 1 → false = false) ∧ (1 < 1 → b8 = false) ∧ (2 < 1 → b64 = false) ∧ (3 < 1 → bQ = false)) from ⟨fun _ => rfl, fun h => absurd h (by decide), fun h => absurd h (by decide), fun h => absurd h (by decide)⟩)
        go_wp2_with (go_at_call 36; ((with_reducible refine (H7.out _).mono ?_); rintro e w1 ⟨rfl, hb1⟩; have T := Lib.hid (S.out.1.bel hb1); have T2 := Lib.hid (below_go S.out.2 hb1); clear S cs hb1))
        exact ⟨⟨1, by first | rfl | go_num, by omega, HN2, Lib.hid ⟨T.out, T2.out⟩⟩, by simp [intOf]⟩
      · subst hb
        have hv2 : v = 0 := by have hv := HV.out; have h0 := HN.out; simp at hv h0; simp [hv, h0]
        subst hv2
        go_wp2_with (go_at_call 36; ((with_reducible refine (H7.out _).mono ?_); rintro e w1 ⟨rfl, hb1⟩; have T2 := Lib.hid (below_go S.out.2 hb1); clear S cs hb1))
        go_ret
        exact ⟨rfl, T2.out⟩
    · rcases tf b8 with hb | hb
      · subst hb
        have HN2 := Lib.hid (show ((0 < 2 → b7 = false) ∧ (1 < 2 → false = false) ∧ (2 < 2 → b64 = false) ∧ (3 < 2 → bQ = false)) from ⟨fun _ => HN.out.1 (by decide), fun _ => rfl, fun h => absurd h (by decide), fun h => absurd h (by decide)⟩)
        go_wp2_with (go_at_call 36; ((with_reducible refine (H8.out _).mono ?_); rintro e w1 ⟨rfl, hb1⟩; have T := Lib.hid (S.out.1.bel hb1); have T2 := Lib.hid (below_go S.out.2 hb1); clear S cs hb1))
        exact ⟨⟨2, by first | rfl | go_num, by omega, HN2, Lib.hid ⟨T.out, T2.out⟩⟩, by simp [intOf]⟩
      · subst hb
        have hv2 : v = 1 := by have hv := HV.out; have h0 := HN.out; simp at hv h0; simp [hv, h0]
        subst hv2
        go_wp2_with (go_at_call 36; ((with_reducible refine (H8.out _).mono ?_); rintro e w1 ⟨rfl, hb1⟩; have T2 := Lib.hid (below_go S.out.2 hb1); clear S cs hb1))
        go_ret
        exact ⟨rfl, T2.out⟩
    · rcases tf b64 with hb | hb
      · subst hb
        have HN2 := Lib.hid (show ((0 < 3 → b7 = false) ∧ (1 < 3 → b8 = false) ∧ (2 < 3 → false = false) ∧ (3 < 3 → bQ = false)) from ⟨fun _ => HN.out.1 (by decide), fun _ => HN.out.2.1 (by decide), fun _ => rfl, fun h => absurd h (by decide)⟩)
        go_wp2_with (go_at_call 36; ((with_reducible refine (H64.out _).mono ?_); rintro e w1 ⟨rfl, hb1⟩; have T := Lib.hid (S.out.1.bel hb1); have T2 := Lib.hid (below_go S.out.2 hb1); clear S cs hb1))
        exact ⟨⟨3, by first | rfl | go_num, by omega, HN2, Lib.hid ⟨T.out, T2.out⟩⟩, by simp [intOf]⟩
      · subst hb
        have hv2 : v = 2 := by have hv := HV.out; have h0 := HN.out; simp at hv h0; simp [hv, h0]
        subst hv2
        go_wp2_with (go_at_call 36; ((with_reducible refine (H64.out _).mono ?_); rintro e w1 ⟨rfl, hb1⟩; have T2 := Lib.hid (below_go S.out.2 hb1); clear S cs hb1))
        go_ret
        exact ⟨rfl, T2.out⟩
    · rcases tf bQ with hb | hb
      · subst hb
        have HN2 := Lib.hid (show ((0 < 4 → b7 = false) ∧ (1 < 4 → b8 = false) ∧ (2 < 4 → b64 = false) ∧ (3 < 4 → false = false)) from ⟨fun _ => HN.out.1 (by decide), fun _ => HN.out.2.1 (by decide), fun _ => HN.out.2.2.1 (by decide), fun _ => rfl⟩)
        go_wp2_with (go_at_call 36; ((with_reducible refine (HQ.out _).mono ?_); rintro e w1 ⟨rfl, hb1⟩; have T := Lib.hid (S.out.1.bel hb1); have T2 := Lib.hid (below_go S.out.2 hb1); clear S cs hb1))
        exact ⟨⟨4, by first | rfl | go_num, by omega, HN2, Lib.hid ⟨T.out, T2.out⟩⟩, by simp [intOf]⟩
      · subst hb
        have hv2 : v = 3 := by have hv := HV.out; have h0 := HN.out; simp at hv h0; simp [hv, h0]
        subst hv2
        go_wp2_with (go_at_call 36; ((with_reducible refine (HQ.out _).mono ?_); rintro e w1 ⟨rfl, hb1⟩; have T2 := Lib.hid (below_go S.out.2 hb1); clear S cs hb1))
        go_ret
        exact ⟨rfl, T2.out⟩
    · have hv2 : v = -1 := by have hv := HV.out; have h0 := HN.out; simp at hv h0; simp [hv, h0]
      subst hv2
      go_wp2
      go_ret
      exact ⟨rfl, S.out.2⟩
set_option maxHeartbeats 1000000 in
set_option maxRecDepth 20000 in
theorem transferred_calls (A : Option Addr) (l : List UInt8) (c : Nat) (m : Int) (w : World) (h : Rd w bv A l) (hl : l.length ≤ 100000) (hc : l.length ≤ c) (hc63 : c ≤ 9223372036854775807) (hA : A = none → c = 0) :
    Calls Tryd.prog 18 #[.slice A l.length c, .int .i64 m] w fun e w' => ∃ A1 c1, e = .returned (.slice A1 (trF l m).length c1) ∧ Rd w' bv A1 (trF l m) ∧ Below w.heap.size w w' := by
  have h2 := fun W R => lines_calls A l c W R (by omega)
  have h3 := fun W R => rquoted_calls A l c W R (by omega) hc hc63 hA
  have H2 := Lib.hid h2
  have H3 := Lib.hid h3
  have HR := Lib.hid h
  have hv : trF l m = if m = 2 then lines64 l else if m = 3 then quoL l else l := rfl
  generalize trF l m = v at *
  generalize lines64 l = v2 at *
  generalize quoL l = v3 at *
  clear h2 h3 h hA
  by_cases e2 : m = 2
  · rw [if_pos e2] at hv
    subst hv
    subst e2
    go_enter Tryd.func18, Tryd.ntmps18
    go_wp2_with (go_at_call 23; ((with_reducible refine (H2.out _ HR.out).mono ?_); rintro e w1 ⟨A1, c1, rfl, hr1, hf1, hb1⟩; skip))
    go_ret
    exact ⟨A1, c1, rfl, hr1, hb1⟩
  · rw [if_neg e2] at hv
    have q2 : (m == 2) = false := by simpa using e2
    by_cases e3 : m = 3
    · rw [if_pos e3] at hv
      subst hv
      subst e3
      clear e2 q2
      go_enter Tryd.func18, Tryd.ntmps18
      go_wp2_with (go_at_call 22; ((with_reducible refine (H3.out _ HR.out).mono ?_); rintro e w1 ⟨A1, c1, rfl, hr1, hf1, hb1⟩; skip))
      go_ret
      exact ⟨A1, c1, rfl, hr1, hb1⟩
    · rw [if_neg e3] at hv
      have q3 : (m == 3) = false := by simpa using e3
      subst hv
      clear e2 e3
      go_enter Tryd.func18, Tryd.ntmps18
      go_wp2
      go_ret
      exact ⟨A, c, rfl, HR.out, Below.refl _ _⟩
set_option maxHeartbeats 1000000 in
set_option maxRecDepth 20000 in
theorem untransferred_calls (A : Option Addr) (l : List UInt8) (c : Nat) (m : Int) (w : World) (h : Rd w bv A l) (hl : l.length ≤ 100000) (hc : l.length ≤ c) (hc63 : c ≤ 9223372036854775807) :
    Calls Tryd.prog 20 #[.slice A l.length c, .int .i64 m] w fun e w' => ∃ A1 c1, e = .returned (.slice A1 (unF l m).length c1) ∧ Rd w' bv A1 (unF l m) ∧ Below w.heap.size w w' := by
  have h2 := fun W R => rloose64_calls A l c W R (by omega)
  have h3 := fun W R => rlooseq_calls A l c W R (by omega) hc hc63
  have H2 := Lib.hid h2
  have H3 := Lib.hid h3
  have HR := Lib.hid h
  have hv : unF l m = if m = 2 then loose64 l else if m = 3 then looseL l else l := rfl
  generalize unF l m = v at *
  generalize loose64 l = v2 at *
  generalize looseL l = v3 at *
  clear h2 h3 h
  by_cases e2 : m = 2
  · rw [if_pos e2] at hv
    subst hv
    subst e2
    go_enter Tryd.func20, Tryd.ntmps20
    go_wp2_with (go_at_call 38; ((with_reducible refine (H2.out _ HR.out).mono ?_); rintro e w1 ⟨A1, c1, rfl, hr1, hf1, hb1⟩; skip))
    go_ret
    exact ⟨A1, c1, rfl, hr1, hb1⟩
  · rw [if_neg e2] at hv
    have q2 : (m == 2) = false := by simpa using e2
    by_cases e3 : m = 3
    · rw [if_pos e3] at hv
      subst hv
      subst e3
      clear e2 q2
      go_enter Tryd.func20, Tryd.ntmps20
      go_wp2_with (go_at_call 39; ((with_reducible refine (H3.out _ HR.out).mono ?_); rintro e w1 ⟨A1, c1, rfl, hr1, hf1, hb1⟩; skip))
      go_ret
      exact ⟨A1, c1, rfl, hr1, hb1⟩
    · rw [if_neg e3] at hv
      have q3 : (m == 3) = false := by simpa using e3
      subst hv
      clear e2 e3
      go_enter Tryd.func20, Tryd.ntmps20
      go_wp2
      go_ret
      exact ⟨A, c, rfl, HR.out, Below.refl _ _⟩
end Go.Proofs.YtjgohmfmalcjoaaDoor.TrW
