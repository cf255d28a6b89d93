import Derived.Test.YtjgohmfmalcjoaaDoorTrW7
import Derived.Test.YtjgohmfmalcjoaaDoorMg
/- Walks: quoted text: ends of lines, tokens. -/
namespace Go.Proofs.YtjgohmfmalcjoaaDoor.TrW
open Go.RowKit Go.Proofs.YtjgohmfmalcjoaaDoor.Base Go.Proofs.YtjgohmfmalcjoaaDoor.Tr
set_option linter.unusedVariables false
set_option linter.unusedSimpArgs false
set_option maxRecDepth 20000 in
theorem eol_calls (A : Option Addr) (l : List UInt8) (c i : Nat) (w : World) (h : Rd w bv A l) (hl : l.length ≤ maxLen) (hi : i ≤ l.length) :
    Calls Tryd.prog 91 #[.slice A l.length c, .int .i64 i] w fun en w' => en = .returned (.bool (eolAt l i)) ∧ w = w' := by
  unfold maxLen at hl
  have HR := Lib.hid h
  clear h
  by_cases hend : i = l.length
  · subst hend
    have e : eolAt l l.length = true := by simp [eolAt]
    rw [e]
    clear HR e
    go_enter Tryd.func91, Tryd.ntmps91
    go_wp2
    go_ret
    exact ⟨rfl, rfl⟩
  · have hlt0 : i < l.length := by omega
    have q0 : ((i : Int) == (l.length : Int)) = false := by simp; omega
    rw [eol_in hlt0]
    have i1 : (0 : Int) ≤ (i : Int) := by omega
    have i2 : (i : Int) < (l.length : Int) := by omega
    obtain ⟨ad, rfl, _, ck⟩ := HR.out.at_ hlt0
    by_cases hlt : i + 1 < l.length
    · have i3 : (i : Int) + 1 < (l.length : Int) := by omega
      obtain ⟨ad2, e2, _, ck2⟩ := HR.out.at_ hlt
      injection e2 with e2
      subst e2
      have ck3 := ck2
      rw [add_succ] at ck3
      have hcr := crlf_int hlt
      generalize crlfAt l i = v at *
      rcases tf ((l[i].toNat : Int) == 13) with q13 | q13
      · rw [q13] at hcr
        subst hcr
        generalize l[i] = x at *
        generalize l[i + 1] = y at *
        go_enter Tryd.func91, Tryd.ntmps91
        go_wp2
        go_ret
        exact ⟨rfl, rfl⟩
      · rw [q13] at hcr
        generalize l[i] = x at *
        generalize l[i + 1] = y at *
        rcases tf ((y.toNat : Int) == 10) with q10 | q10
        all_goals
          rw [q10] at hcr
          subst hcr
          go_enter Tryd.func91, Tryd.ntmps91
          go_wp2
          go_ret
          exact ⟨rfl, rfl⟩
    · have i3 : (l.length : Int) ≤ (i : Int) + 1 := by omega
      rw [crlf_end (by omega)]
      generalize l[i] = x at *
      rcases tf ((x.toNat : Int) == 13) with q13 | q13
      all_goals
        clear hlt HR
        go_enter Tryd.func91, Tryd.ntmps91
        go_wp2
        go_ret
        exact ⟨rfl, rfl⟩
theorem hexD_at (k : Nat) (h : k < 16) : hexS.data[k]? = some (hexD k) := by
  have : k = 0 ∨ k = 1 ∨ k = 2 ∨ k = 3 ∨ k = 4 ∨ k = 5 ∨ k = 6 ∨ k = 7 ∨ k = 8 ∨ k = 9 ∨ k = 10 ∨ k = 11 ∨ k = 12 ∨ k = 13 ∨ k = 14 ∨ k = 15 := by omega
  rcases this with rfl | rfl | rfl | rfl | rfl | rfl | rfl | rfl | rfl | rfl | rfl | rfl | rfl | rfl | rfl | rfl <;> rfl
theorem hexG (k : Nat) (h : k < (⟨#[48, 49, 50, 51, 52, 53, 54, 55, 56, 57, 65, 66, 67, 68, 69, 70]⟩ : ByteArray).size) : (⟨#[48, 49, 50, 51, 52, 53, 54, 55, 56, 57, 65, 66, 67, 68, 69, 70]⟩ : ByteArray)[k] = hexD k := by
  have := hexD_at k h
  obtain ⟨_, e⟩ := Array.getElem?_eq_some_iff.1 this
  exact e
set_option maxHeartbeats 1000000 in
set_option maxRecDepth 20000 in
theorem token_calls (A : Option Addr) (l : List UInt8) (c i : Nat) (w : World) (h : Rd w bv A l) (hl : l.length ≤ maxLen) (hi : i < l.length) :
    Calls Tryd.prog 92 #[.slice A l.length c, .int .i64 i] w (GivesB w (tokQ l i)) := by
  have hE := eol_calls A l c (i + 1) w h hl (by omega)
  have ei : ((i + 1 : Nat) : Int) = (i : Int) + 1 := by omega
  rw [ei] at hE
  clear ei
  unfold maxLen at hl
  have hgd : l.getD i 0 = l[i] := by simp [List.getD, List.getElem?_eq_getElem hi]
  have hv : tokQ l i = tokC l[i] (eolAt l (i + 1)) := by unfold tokQ; rw [hgd]
  generalize tokQ l i = v at *
  generalize eolAt l (i + 1) = e at *
  obtain ⟨ad, rfl, _, ck⟩ := h.at_ hi
  have HE := Lib.hid hE
  have i1 : (0 : Int) ≤ (i : Int) := by omega
  have i2 : (i : Int) < (l.length : Int) := by omega
  clear hE h hgd
  generalize l[i] = x at *
  have hx := u8_lt x
  unfold tokC at hv
  by_cases hp : plainC x = true
  · rw [if_pos (.inl hp)] at hv
    subst hv
    simp only [plainC, Bool.and_eq_true, decide_eq_true_eq] at hp
    have p1 : 32 < (x.toNat : Int) := by omega
    have p2 : (x.toNat : Int) < 127 := by omega
    have p3 : ((x.toNat : Int) != 61) = true := by simp; omega
    have q1 : ((x.toNat : Int) == 32) = false := by simp; omega
    have q2 : ((x.toNat : Int) == 9) = false := by simp; omega
    clear hp
    go_enter Tryd.func92, Tryd.ntmps92
    go_wp2
    go_ret
    exact ⟨_, _, rfl, rd_new (r := [x]) (Bk.new _ _ _) rfl, ⟨fun ad h => by injection h with h; subst h; exact Nat.le_refl _, by simp, by omega⟩, below_al (Below.refl _ _) _⟩
  · by_cases hb : blankC x = true ∧ e = false
    · rw [if_pos (.inr hb)] at hv
      obtain ⟨hb, rfl⟩ := hb
      subst hv
      simp only [blankC, Bool.or_eq_true, decide_eq_true_eq] at hb
      rcases hb with hb | hb
      · have q1 : ((x.toNat : Int) == 32) = true := by simp; omega
        clear hp
        go_enter Tryd.func92, Tryd.ntmps92
        go_wp2_with (go_at_call 91; ((with_reducible refine HE.out.mono ?_); rintro en w' ⟨rfl, rfl⟩))
        go_ret
        exact ⟨_, _, rfl, rd_new (r := [x]) (Bk.new _ _ _) rfl, ⟨fun ad h => by injection h with h; subst h; exact Nat.le_refl _, by simp, by omega⟩, below_al (Below.refl _ _) _⟩
      · have q1 : ((x.toNat : Int) == 32) = false := by simp; omega
        have q2 : ((x.toNat : Int) == 9) = true := by simp; omega
        clear hp
        go_enter Tryd.func92, Tryd.ntmps92
        go_wp2_with (go_at_call 91; ((with_reducible refine HE.out.mono ?_); rintro en w' ⟨rfl, rfl⟩))
        go_ret
        exact ⟨_, _, rfl, rd_new (r := [x]) (Bk.new _ _ _) rfl, ⟨fun ad h => by injection h with h; subst h; exact Nat.le_refl _, by simp, by omega⟩, below_al (Below.refl _ _) _⟩
    · rw [if_neg (by rintro (h | h); exact hp h; exact hb h)] at hv
      subst hv
      have hcase : ((x.toNat = 32 ∨ x.toNat = 9) ∧ e = true) ∨ (x.toNat < 32 ∧ x.toNat ≠ 9) ∨ x.toNat = 61 ∨ 127 ≤ x.toNat := by
        simp only [plainC, blankC, Bool.and_eq_true, Bool.or_eq_true, decide_eq_true_eq] at hp hb
        cases e
        · simp at hb; omega
        · simp only [and_true]; omega
      clear hp hb
      rcases hcase with ⟨hc | hc, rfl⟩ | hc | hc | hc
      · have q1 : ((x.toNat : Int) == 32) = true := by simp; omega
        have q3 : (x.toNat : Int) ≤ 32 := by omega
        clear hc
        obtain ⟨a, ha⟩ : ∃ a, a = x.toNat / 16 := ⟨_, rfl⟩
        obtain ⟨b, hb⟩ : ∃ b, b = x.toNat % 16 := ⟨_, rfl⟩
        have ea : (x.toNat : Int) / 16 = (a : Int) := by omega
        have eb : (x.toNat : Int) % 16 = (b : Int) := by omega
        have a0 : (0 : Int) ≤ (a : Int) := by omega
        have b0 : (0 : Int) ≤ (b : Int) := by omega
        have a1 : (a : Int) < 16 := by omega
        have b1 : (b : Int) < 16 := by omega
        rw [← ha, ← hb]
        have key : ∀ (u v : UInt8), u = hexD a → v = hexD b → (#[.int .u8 61, .int .u8 (u.toNat : Int), .int .u8 (v.toNat : Int)] : Array Value) = ([61, hexD a, hexD b].map bv).toArray := by rintro _ _ rfl rfl; rfl
        have HKEY := Lib.hid key
        clear ha hb key
        go_enter Tryd.func92, Tryd.ntmps92
        go_upto_region 5 with (go_at_call 91; ((with_reducible refine HE.out.mono ?_); rintro en w' ⟨rfl, rfl⟩))
        go_region
        go_wp2
        go_ret
        exact ⟨_, _, rfl, rd_new (r := [61, hexD a, hexD b]) (Bk.new _ _ _).dr (HKEY.out _ _ (hexG a _) (hexG b _)), ⟨fun ad h => by injection h with h; subst h; exact Nat.le_refl _, by simp, by omega⟩, below_drew1 (below_al (Below.refl _ _) _)⟩
      · have q1 : ((x.toNat : Int) == 32) = false := by simp; omega
        have q2 : ((x.toNat : Int) == 9) = true := by simp; omega
        have q3 : (x.toNat : Int) ≤ 32 := by omega
        clear hc
        obtain ⟨a, ha⟩ : ∃ a, a = x.toNat / 16 := ⟨_, rfl⟩
        obtain ⟨b, hb⟩ : ∃ b, b = x.toNat % 16 := ⟨_, rfl⟩
        have ea : (x.toNat : Int) / 16 = (a : Int) := by omega
        have eb : (x.toNat : Int) % 16 = (b : Int) := by omega
        have a0 : (0 : Int) ≤ (a : Int) := by omega
        have b0 : (0 : Int) ≤ (b : Int) := by omega
        have a1 : (a : Int) < 16 := by omega
        have b1 : (b : Int) < 16 := by omega
        rw [← ha, ← hb]
        have key : ∀ (u v : UInt8), u = hexD a → v = hexD b → (#[.int .u8 61, .int .u8 (u.toNat : Int), .int .u8 (v.toNat : Int)] : Array Value) = ([61, hexD a, hexD b].map bv).toArray := by rintro _ _ rfl rfl; rfl
        have HKEY := Lib.hid key
        clear ha hb key
        go_enter Tryd.func92, Tryd.ntmps92
        go_upto_region 5 with (go_at_call 91; ((with_reducible refine HE.out.mono ?_); rintro en w' ⟨rfl, rfl⟩))
        go_region
        go_wp2
        go_ret
        exact ⟨_, _, rfl, rd_new (r := [61, hexD a, hexD b]) (Bk.new _ _ _).dr (HKEY.out _ _ (hexG a _) (hexG b _)), ⟨fun ad h => by injection h with h; subst h; exact Nat.le_refl _, by simp, by omega⟩, below_drew1 (below_al (Below.refl _ _) _)⟩
      · have q1 : ((x.toNat : Int) == 32) = false := by simp; omega
        have q2 : ((x.toNat : Int) == 9) = false := by simp; omega
        have q3 : (x.toNat : Int) ≤ 32 := by omega
        clear hc
        obtain ⟨a, ha⟩ : ∃ a, a = x.toNat / 16 := ⟨_, rfl⟩
        obtain ⟨b, hb⟩ : ∃ b, b = x.toNat % 16 := ⟨_, rfl⟩
        have ea : (x.toNat : Int) / 16 = (a : Int) := by omega
        have eb : (x.toNat : Int) % 16 = (b : Int) := by omega
        have a0 : (0 : Int) ≤ (a : Int) := by omega
        have b0 : (0 : Int) ≤ (b : Int) := by omega
        have a1 : (a : Int) < 16 := by omega
        have b1 : (b : Int) < 16 := by omega
        rw [← ha, ← hb]
        have key : ∀ (u v : UInt8), u = hexD a → v = hexD b → (#[.int .u8 61, .int .u8 (u.toNat : Int), .int .u8 (v.toNat : Int)] : Array Value) = ([61, hexD a, hexD b].map bv).toArray := by rintro _ _ rfl rfl; rfl
        have HKEY := Lib.hid key
        clear ha hb key
        go_enter Tryd.func92, Tryd.ntmps92
        go_upto_region 5 with (go_at_call 91; ((with_reducible refine HE.out.mono ?_); rintro en w' ⟨rfl, rfl⟩))
        go_region
        go_wp2
        go_ret
        exact ⟨_, _, rfl, rd_new (r := [61, hexD a, hexD b]) (Bk.new _ _ _).dr (HKEY.out _ _ (hexG a _) (hexG b _)), ⟨fun ad h => by injection h with h; subst h; exact Nat.le_refl _, by simp, by omega⟩, below_drew1 (below_al (Below.refl _ _) _)⟩
      · have q1 : ((x.toNat : Int) == 32) = false := by simp; omega
        have q2 : ((x.toNat : Int) == 9) = false := by simp; omega
        have q3 : 32 < (x.toNat : Int) := by omega
        have q4 : (x.toNat : Int) < 127 := by omega
        have q5 : ((x.toNat : Int) != 61) = false := by simp; omega
        clear hc
        obtain ⟨a, ha⟩ : ∃ a, a = x.toNat / 16 := ⟨_, rfl⟩
        obtain ⟨b, hb⟩ : ∃ b, b = x.toNat % 16 := ⟨_, rfl⟩
        have ea : (x.toNat : Int) / 16 = (a : Int) := by omega
        have eb : (x.toNat : Int) % 16 = (b : Int) := by omega
        have a0 : (0 : Int) ≤ (a : Int) := by omega
        have b0 : (0 : Int) ≤ (b : Int) := by omega
        have a1 : (a : Int) < 16 := by omega
        have b1 : (b : Int) < 16 := by omega
        rw [← ha, ← hb]
        have key : ∀ (u v : UInt8), u = hexD a → v = hexD b → (#[.int .u8 61, .int .u8 (u.toNat : Int), .int .u8 (v.toNat : Int)] : Array Value) = ([61, hexD a, hexD b].map bv).toArray := by rintro _ _ rfl rfl; rfl
        have HKEY := Lib.hid key
        clear ha hb key
        go_enter Tryd.func92, Tryd.ntmps92
        go_upto_region 5 with (go_at_call 91; ((with_reducible refine HE.out.mono ?_); rintro en w' ⟨rfl, rfl⟩))
        go_region
        go_wp2
        go_ret
        exact ⟨_, _, rfl, rd_new (r := [61, hexD a, hexD b]) (Bk.new _ _ _).dr (HKEY.out _ _ (hexG a _) (hexG b _)), ⟨fun ad h => by injection h with h; subst h; exact Nat.le_refl _, by simp, by omega⟩, below_drew1 (below_al (Below.refl _ _) _)⟩
      · have q1 : ((x.toNat : Int) == 32) = false := by simp; omega
        have q2 : ((x.toNat : Int) == 9) = false := by simp; omega
        have q3 : 32 < (x.toNat : Int) := by omega
        have q4 : 127 ≤ (x.toNat : Int) := by omega
        clear hc
        obtain ⟨a, ha⟩ : ∃ a, a = x.toNat / 16 := ⟨_, rfl⟩
        obtain ⟨b, hb⟩ : ∃ b, b = x.toNat % 16 := ⟨_, rfl⟩
        have ea : (x.toNat : Int) / 16 = (a : Int) := by omega
        have eb : (x.toNat : Int) % 16 = (b : Int) := by omega
        have a0 : (0 : Int) ≤ (a : Int) := by omega
        have b0 : (0 : Int) ≤ (b : Int) := by omega
        have a1 : (a : Int) < 16 := by omega
        have b1 : (b : Int) < 16 := by omega
        rw [← ha, ← hb]
        have key : ∀ (u v : UInt8), u = hexD a → v = hexD b → (#[.int .u8 61, .int .u8 (u.toNat : Int), .int .u8 (v.toNat : Int)] : Array Value) = ([61, hexD a, hexD b].map bv).toArray := by rintro _ _ rfl rfl; rfl
        have HKEY := Lib.hid key
        clear ha hb key
        go_enter Tryd.func92, Tryd.ntmps92
        go_upto_region 5 with (go_at_call 91; ((with_reducible refine HE.out.mono ?_); rintro en w' ⟨rfl, rfl⟩))
        go_region
        go_wp2
        go_ret
        exact ⟨_, _, rfl, rd_new (r := [61, hexD a, hexD b]) (Bk.new _ _ _).dr (HKEY.out _ _ (hexG a _) (hexG b _)), ⟨fun ad h => by injection h with h; subst h; exact Nat.le_refl _, by simp, by omega⟩, below_drew1 (below_al (Below.refl _ _) _)⟩
end Go.Proofs.YtjgohmfmalcjoaaDoor.TrW
