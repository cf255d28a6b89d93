import Derived.Test.YtjgohmfmalcjoaaDoorTrW6
import Derived.Laws.EntriesVeiled
/- Walks: the table of encodings. -/
namespace Go.Proofs.YtjgohmfmalcjoaaDoor.TrW
open Go.RowKit Go.Proofs.YtjgohmfmalcjoaaDoor.Base Go.Proofs.YtjgohmfmalcjoaaDoor.Tr
set_option linter.unusedVariables false
set_option linter.unusedSimpArgs false
abbrev asV (g : Nat) : Value := .func (.func 111) #[] #[.pointer (some ⟨g, 0, none⟩)]
abbrev fnV (k : Nat) : Value := .func (.func k) #[] #[]
set_option maxRecDepth 20000 in
theorem as_calls (e : Bool) (w : World) :
    Calls Tryd.prog 85 #[.bool e] w fun en w' => ∃ g, en = .returned (asV g) ∧ Bk w' g 4 #[.bool e] ∧ w.heap.size ≤ g ∧ Below w.heap.size w w' := by
  have hmf : ∀ (fn : Fn) (first cap : Array Value) (w : World), (Instr.makeFunc fn first cap).run Tryd.prog w = .ok (.func fn first cap) w := fun _ _ _ _ => rfl
  go_enter Tryd.func85, Tryd.ntmps85
  go_wp2
  go_ret
  exact ⟨_, rfl, Bk.new _ _ _, Nat.le_refl _, below_al (Below.refl _ _) _⟩
set_option maxHeartbeats 1000000 in
set_option maxRecDepth 20000 in
theorem codings_calls (w : World) :
    Calls Tryd.prog 59 #[] w fun en w' => ∃ g g1 g2, en = .returned (.slice (some ⟨g, 0, none⟩) 4 4) ∧ Bk w' g 57 #[.string nm7, asV g1, fnV 86, .string nm8, asV g2, fnV 86, .string nm64, fnV 87, fnV 88, .string nmQ, fnV 40, fnV 89] ∧ Bk w' g1 4 #[.bool false] ∧ Bk w' g2 4 #[.bool true] ∧ w.heap.size ≤ g1 ∧ w.heap.size ≤ g2 ∧ Below w.heap.size w w' := by
  have hA := fun e W => as_calls e W
  have HA := Lib.hid hA
  clear hA
  go_enter Tryd.func59, Tryd.ntmps59
  go_wp2_with (first | (go_at_call 85; ((with_reducible refine (HA.out false _).mono ?_); rintro en w1 ⟨g1, rfl, hk1, hl1, hb1⟩)) | (go_at_call 85; ((with_reducible refine (HA.out true _).mono ?_); rintro en w2 ⟨g2, rfl, hk2, hl2, hb2⟩)))
  go_ret
  have hz : w2.heap.size = w2.heap.size := rfl
  exact ⟨_, g1, g2, rfl, Bk.new _ _ _, (hk1.bel hb2).al _, hk2.al _, hl1, Nat.le_trans hb1.size hl2, below_al (below_go hb1 hb2) _⟩
/-- what find hands back of an encoding's number. -/
def CodV (w : World) (c : Int) (cs : Array Value) : Prop :=
  (c = 0 ∧ ∃ g, cs = #[.string nm7, asV g, fnV 86] ∧ Bk w g 4 #[.bool false]) ∨ (c = 1 ∧ ∃ g, cs = #[.string nm8, asV g, fnV 86] ∧ Bk w g 4 #[.bool true]) ∨
  (c = 2 ∧ cs = #[.string nm64, fnV 87, fnV 88]) ∨ (c = 3 ∧ cs = #[.string nmQ, fnV 40, fnV 89]) ∨ (c = -1 ∧ cs = #[.string ⟨#[]⟩, .nilFunc, .nilFunc])
structure FS (w wr : World) (g g1 g2 : Nat) : Prop where
  r : Bk wr w.heap.size 57 #[.string ⟨#[]⟩, .nilFunc, .nilFunc]
  t : Bk wr g 57 #[.string nm7, asV g1, fnV 86, .string nm8, asV g2, fnV 86, .string nm64, fnV 87, fnV 88, .string nmQ, fnV 40, fnV 89]
  a : Bk wr g1 4 #[.bool false]
  b : Bk wr g2 4 #[.bool true]
  n1 : w.heap.size < g1
  n2 : w.heap.size < g2
  lo : Below w.heap.size w wr
theorem FS.bel {w wr w' : World} {g g1 g2 : Nat} (h : FS w wr g g1 g2) (hb : Below wr.heap.size wr w') : FS w w' g g1 g2 := ⟨h.r.bel hb, h.t.bel hb, h.a.bel hb, h.b.bel hb, h.n1, h.n2, below_go h.lo hb⟩
set_option maxHeartbeats 2000000 in
set_option maxRecDepth 20000 in
theorem find_calls (n : ByteArray) (w : World) (hn : n.size ≤ maxLen) :
    Calls Tryd.prog 35 #[.string n] w fun en w' => ∃ cs, en = .returned (.tuple #[.agg cs, .bool (decide (0 ≤ codingOf n))]) ∧ CodV w' (codingOf n) cs ∧ Below w.heap.size w w' := by
  have hu57 := Tryd.underlying57
  have hC := fun W => codings_calls W
  have h7 := fun W => same_calls nm7 n W (by decide) hn
  have h8 := fun W => same_calls nm8 n W (by decide) hn
  have h64 := fun W => same_calls nm64 n W (by decide) hn
  have hQ := fun W => same_calls nmQ n W (by decide) hn
  have hv : codingOf n = if alike nm7 n = true then 0 else if alike nm8 n = true then 1 else if alike nm64 n = true then 2 else if alike nmQ n = true then 3 else -1 := rfl
  generalize codingOf n = v at *
  generalize alike nm7 n = b7 at *
  generalize alike nm8 n = b8 at *
  generalize alike nm64 n = b64 at *
  generalize alike nmQ n = bQ at *
  have HC := Lib.hid hC
  have H7 := Lib.hid h7
  have H8 := Lib.hid h8
  have H64 := Lib.hid h64
  have HQ := Lib.hid hQ
  have HV := Lib.hid hv
  have BR := Lib.hid (Bk.new w 57 #[.string ⟨#[]⟩, .nilFunc, .nilFunc])
  have HB := Lib.hid (below_al (Below.refl w.heap.size w) (.cells #[.string ⟨#[]⟩, .nilFunc, .nilFunc] 57))
  clear hC h7 h8 h64 hQ hv hn
  go_enter Tryd.func35, Tryd.ntmps35
  go_upto_region 1 with fail
  generalize w.alloc (.cells #[.string ⟨#[]⟩, .nilFunc, .nilFunc] 57) = w0 at *
  go_upto_region 2 with (go_at_call 59; ((with_reducible refine (HC.out _).mono ?_); rintro en w1 ⟨g, g1, g2, rfl, hk, hk1, hk2, hl1, hl2, hb1⟩))
  have S : Hid (FS w w1 g g1 g2) := Lib.hid ⟨BR.out.bel hb1, hk, hk1, hk2, Nat.lt_of_lt_of_le BR.out.lt hl1, Nat.lt_of_lt_of_le BR.out.lt hl2, below_go HB.out hb1⟩
  clear BR HB hk hk1 hk2 hl1 hl2 hb1 HC
  clear w0
  go_loopw [8] (fun s8 wr => ∃ k : Nat, k ≤ 4 ∧ s8 = .int .i64 k ∧ Hid ((0 < k → b7 = false) ∧ (1 < k → b8 = false) ∧ (2 < k → b64 = false) ∧ (3 < k → bQ = false)) ∧ Hid (FS w wr g g1 g2)) (fun s8 _ => 4 - (intOf s8).toNat)
  case atStart => exact ⟨0, by omega, rfl, Lib.hid ⟨by omega, by omega, by omega, by omega⟩, S⟩
  case round =>
    clear S
    obtain ⟨k, hk, rfl, HK, S⟩ := hrel
    have ct := S.out.t.cell
    have cr := S.out.r.cell
    have fr := S.out.r.frozen
    have lt0 : w.heap.size < wr.heap.size := S.out.r.lt
    rcases (show k = 0 ∨ k = 1 ∨ k = 2 ∨ k = 3 ∨ k = 4 by omega) with rfl | rfl | rfl | rfl | rfl
    · rcases tf b7 with hb | hb
      · subst hb
        go_wp2_with (go_at_call 60; ((with_reducible refine (H7.out _).mono ?_); rintro en w3 ⟨rfl, hb3⟩; have T := Lib.hid ((S.out.bel (below_al (Below.refl _ _) _)).bel hb3); have KC := Lib.hid ((Bk.new wr 57 #[.string nm7, asV g1, fnV 86]).bel hb3); clear ct cr fr; have ct := T.out.t.cell; have cr := T.out.r.cell; have fr := T.out.r.frozen; have cc := KC.out.cell))
        exact ⟨⟨1, by omega, rfl, Lib.hid ⟨fun _ => by simp, by omega, by omega, by omega⟩, T⟩, by simp [intOf]⟩
      · subst hb
        have hv : v = 0 := by rw [HV.out]; simp
        clear HV
        subst hv
        go_wp2_with (go_at_call 60; ((with_reducible refine (H7.out _).mono ?_); rintro en w3 ⟨rfl, hb3⟩; have T := Lib.hid ((S.out.bel (below_al (Below.refl _ _) _)).bel hb3); have KC := Lib.hid ((Bk.new wr 57 #[.string nm7, asV g1, fnV 86]).bel hb3); clear ct cr fr; have ct := T.out.t.cell; have cr := T.out.r.cell; have fr := T.out.r.frozen; have cc := KC.out.cell))
        exact bodyPost_ret (res_ct Tryd.results35 rfl (((T.out.r.put 0 (.string nm7)).put 1 (asV g1)).put' (cs' := #[.string nm7, asV g1, fnV 86]) 2 (fnV 86) rfl) hu57 rfl (by kernel_rfl)) rfl ⟨_, rfl, .inl ⟨rfl, g1, rfl, ((T.out.a.far (p := ⟨w.heap.size, 0, none⟩) (by have := T.out.n1; simp; omega) _).far (p := ⟨w.heap.size, 1, none⟩) (by have := T.out.n1; simp; omega) _).far (p := ⟨w.heap.size, 2, none⟩) (by have := T.out.n1; simp; omega) _⟩, below_set (below_set (below_set T.out.lo (Nat.le_refl _) _) (Nat.le_refl _) _) (Nat.le_refl _) _⟩
    · rcases tf b8 with hb | hb
      · subst hb
        go_wp2_with (go_at_call 60; ((with_reducible refine (H8.out _).mono ?_); rintro en w3 ⟨rfl, hb3⟩; have T := Lib.hid ((S.out.bel (below_al (Below.refl _ _) _)).bel hb3); have KC := Lib.hid ((Bk.new wr 57 #[.string nm8, asV g2, fnV 86]).bel hb3); clear ct cr fr; have ct := T.out.t.cell; have cr := T.out.r.cell; have fr := T.out.r.frozen; have cc := KC.out.cell))
        exact ⟨⟨2, by omega, rfl, Lib.hid ⟨fun _ => HK.out.1 (by omega), fun _ => by simp, by omega, by omega⟩, T⟩, by simp [intOf]⟩
      · subst hb
        have e0 : b7 = false := HK.out.1 (by omega)
        have hv : v = 1 := by rw [HV.out]; simp [e0]
        clear HV
        subst hv
        go_wp2_with (go_at_call 60; ((with_reducible refine (H8.out _).mono ?_); rintro en w3 ⟨rfl, hb3⟩; have T := Lib.hid ((S.out.bel (below_al (Below.refl _ _) _)).bel hb3); have KC := Lib.hid ((Bk.new wr 57 #[.string nm8, asV g2, fnV 86]).bel hb3); clear ct cr fr; have ct := T.out.t.cell; have cr := T.out.r.cell; have fr := T.out.r.frozen; have cc := KC.out.cell))
        exact bodyPost_ret (res_ct Tryd.results35 rfl (((T.out.r.put 0 (.string nm8)).put 1 (asV g2)).put' (cs' := #[.string nm8, asV g2, fnV 86]) 2 (fnV 86) rfl) hu57 rfl (by kernel_rfl)) rfl ⟨_, rfl, .inr (.inl ⟨rfl, g2, rfl, ((T.out.b.far (p := ⟨w.heap.size, 0, none⟩) (by have := T.out.n2; simp; omega) _).far (p := ⟨w.heap.size, 1, none⟩) (by have := T.out.n2; simp; omega) _).far (p := ⟨w.heap.size, 2, none⟩) (by have := T.out.n2; simp; omega) _⟩), below_set (below_set (below_set T.out.lo (Nat.le_refl _) _) (Nat.le_refl _) _) (Nat.le_refl _) _⟩
    · rcases tf b64 with hb | hb
      · subst hb
        go_wp2_with (go_at_call 60; ((with_reducible refine (H64.out _).mono ?_); rintro en w3 ⟨rfl, hb3⟩; have T := Lib.hid ((S.out.bel (below_al (Below.refl _ _) _)).bel hb3); have KC := Lib.hid ((Bk.new wr 57 #[.string nm64, fnV 87, fnV 88]).bel hb3); clear ct cr fr; have ct := T.out.t.cell; have cr := T.out.r.cell; have fr := T.out.r.frozen; have cc := KC.out.cell))
        exact ⟨⟨3, by omega, rfl, Lib.hid ⟨fun _ => HK.out.1 (by omega), fun _ => HK.out.2.1 (by omega), fun _ => by simp, by omega⟩, T⟩, by simp [intOf]⟩
      · subst hb
        have e0 : b7 = false := HK.out.1 (by omega)
        have e1 : b8 = false := HK.out.2.1 (by omega)
        have hv : v = 2 := by rw [HV.out]; simp [e0, e1]
        clear HV
        subst hv
        go_wp2_with (go_at_call 60; ((with_reducible refine (H64.out _).mono ?_); rintro en w3 ⟨rfl, hb3⟩; have T := Lib.hid ((S.out.bel (below_al (Below.refl _ _) _)).bel hb3); have KC := Lib.hid ((Bk.new wr 57 #[.string nm64, fnV 87, fnV 88]).bel hb3); clear ct cr fr; have ct := T.out.t.cell; have cr := T.out.r.cell; have fr := T.out.r.frozen; have cc := KC.out.cell))
        exact bodyPost_ret (res_ct Tryd.results35 rfl (((T.out.r.put 0 (.string nm64)).put 1 (fnV 87)).put' (cs' := #[.string nm64, fnV 87, fnV 88]) 2 (fnV 88) rfl) hu57 rfl (by kernel_rfl)) rfl ⟨_, rfl, .inr (.inr (.inl ⟨rfl, rfl⟩)), below_set (below_set (below_set T.out.lo (Nat.le_refl _) _) (Nat.le_refl _) _) (Nat.le_refl _) _⟩
    · rcases tf bQ with hb | hb
      · subst hb
        go_wp2_with (go_at_call 60; ((with_reducible refine (HQ.out _).mono ?_); rintro en w3 ⟨rfl, hb3⟩; have T := Lib.hid ((S.out.bel (below_al (Below.refl _ _) _)).bel hb3); have KC := Lib.hid ((Bk.new wr 57 #[.string nmQ, fnV 40, fnV 89]).bel hb3); clear ct cr fr; have ct := T.out.t.cell; have cr := T.out.r.cell; have fr := T.out.r.frozen; have cc := KC.out.cell))
        exact ⟨⟨4, by omega, rfl, Lib.hid ⟨fun _ => HK.out.1 (by omega), fun _ => HK.out.2.1 (by omega), fun _ => HK.out.2.2.1 (by omega), fun _ => by simp⟩, T⟩, by simp [intOf]⟩
      · subst hb
        have e0 : b7 = false := HK.out.1 (by omega)
        have e1 : b8 = false := HK.out.2.1 (by omega)
        have e2 : b64 = false := HK.out.2.2.1 (by omega)
        have hv : v = 3 := by rw [HV.out]; simp [e0, e1, e2]
        clear HV
        subst hv
        go_wp2_with (go_at_call 60; ((with_reducible refine (HQ.out _).mono ?_); rintro en w3 ⟨rfl, hb3⟩; have T := Lib.hid ((S.out.bel (below_al (Below.refl _ _) _)).bel hb3); have KC := Lib.hid ((Bk.new wr 57 #[.string nmQ, fnV 40, fnV 89]).bel hb3); clear ct cr fr; have ct := T.out.t.cell; have cr := T.out.r.cell; have fr := T.out.r.frozen; have cc := KC.out.cell))
        exact bodyPost_ret (res_ct Tryd.results35 rfl (((T.out.r.put 0 (.string nmQ)).put 1 (fnV 40)).put' (cs' := #[.string nmQ, fnV 40, fnV 89]) 2 (fnV 89) rfl) hu57 rfl (by kernel_rfl)) rfl ⟨_, rfl, .inr (.inr (.inr (.inl ⟨rfl, rfl⟩))), below_set (below_set (below_set T.out.lo (Nat.le_refl _) _) (Nat.le_refl _) _) (Nat.le_refl _) _⟩
    · have e0 : b7 = false := HK.out.1 (by omega)
      have e1 : b8 = false := HK.out.2.1 (by omega)
      have e2 : b64 = false := HK.out.2.2.1 (by omega)
      have e3 : bQ = false := HK.out.2.2.2 (by omega)
      have hv : v = -1 := by rw [HV.out]; simp [e0, e1, e2, e3]
      clear HV e0 e1 e2 e3 HK
      subst hv
      go_wp2
      exact bodyPost_ret (res_ct Tryd.results35 rfl (((S.out.r.put 0 (.string ⟨#[]⟩)).put 1 .nilFunc).put' (cs' := #[.string ⟨#[]⟩, .nilFunc, .nilFunc]) 2 .nilFunc rfl) hu57 rfl (by kernel_rfl)) rfl ⟨_, rfl, .inr (.inr (.inr (.inr ⟨rfl, rfl⟩))), below_set (below_set (below_set S.out.lo (Nat.le_refl _) _) (Nat.le_refl _) _) (Nat.le_refl _) _⟩
end Go.Proofs.YtjgohmfmalcjoaaDoor.TrW
