import Derived.Test.YtjgohmfmalcjoaaDoorTrW14
/- Walks: bytes.Index and bytes.Cut at one byte. -/
namespace Go.Proofs.YtjgohmfmalcjoaaDoor.TrW
open Go.RowKit Go.Proofs.YtjgohmfmalcjoaaDoor.Base Go.Proofs.YtjgohmfmalcjoaaDoor.Tr
set_option linter.unusedVariables false
set_option linter.unusedSimpArgs false
set_option maxRecDepth 20000 in
theorem index1_calls (ad : Addr) (l : List UInt8) (c g : Nat) (x : UInt8) (w : World) (h : Rd w bv (some ad) l) (hg : w.cell? ⟨g, 0, none⟩ = some (bv x)) :
    Calls Tryd.prog 120 #[.slice (some ad) l.length c, .slice (some ⟨g, 0, none⟩) 1 1] w fun e w' => e = .returned (.int .i64 (Lib.indexByte l x)) ∧ w = w' := by
  have hI := ib_calls ad l c x w h
  have HI := Lib.hid hI
  clear hI h
  go_enter Tryd.func120, Tryd.ntmps120
  go_wp2_with (go_at_call 138; ((with_reducible refine HI.out.mono ?_); rintro e w' ⟨rfl, rfl⟩))
  go_ret
  exact ⟨rfl, rfl⟩
theorem res_ttt {P : Program} {fn : Func} {u v x : Tmp} {tmps : Array Value} {w : World} (h : fn.results = #[.tmp u, .tmp v, .tmp x]) : (results fn tmps).run P w = .ok (.tuple #[tmps.getD u undef, tmps.getD v undef, tmps.getD x undef]) w := by
  simp only [results, h]
  simp [Sem.run_bind, Result.andThen]
set_option maxRecDepth 20000 in
set_option maxHeartbeats 1000000 in
theorem cut_found (ad : Addr) (l : List UInt8) (c g k : Nat) (x : UInt8) (w W0 : World) (h0 : Rd W0 bv (some ad) l) (h : Rd w bv (some ad) l) (hg : w.cell? ⟨g, 0, none⟩ = some (bv x)) (hc : l.length ≤ c) (hc63 : c ≤ 9223372036854775807) (hk : Lib.indexByte l x = (k : Int)) :
    Calls Tryd.prog 97 #[.slice (some ad) l.length c, .slice (some ⟨g, 0, none⟩) 1 1] w fun e w' => ∃ A2, e = .returned (.tuple #[.slice (some ad) k c, .slice A2 (l.length - (k + 1)) (c - (k + 1)), .bool true]) ∧ Rd W0 bv A2 (l.drop (k + 1)) ∧ Below w.heap.size w w' := by
  have hrd : Rd W0 bv (if c = k + 1 then some ad else some (ad.add (k + 1))) (l.drop (k + 1)) := by
    split
    · intro hn
      simp at hn
      omega
    · exact h0.drop _
  have HRD := Lib.hid hrd
  clear hrd
  have hI := index1_calls ad l c g x w h hg
  rw [hk] at hI
  have hb := ib_bd x l
  rw [hk] at hb
  have HI := Lib.hid hI
  have k0 : (0 : Int) ≤ (k : Int) := by omega
  have k1 : (k : Int) ≤ (c : Int) := by omega
  have k2 : (k : Int) + 1 ≤ (l.length : Int) := by omega
  have k3 : IntKind.i64.wrap ((k : Int) + 1) = (k : Int) + 1 := i64_id (by omega)
  have k4 : (0 : Int) ≤ (k : Int) + 1 := by omega
  have k5 : (k : Int) + 1 ≤ (c : Int) := by omega
  have k6 : ((k : Int) + 1).toNat = k + 1 := by omega
  have k7 : (l.length : Int) ≤ (c : Int) := by omega
  clear hI h h0 hb hk hg
  go_enter Tryd.func97, Tryd.ntmps97
  go_upto_region 3 with (go_at_call 120; ((with_reducible refine HI.out.mono ?_); rintro e w' ⟨rfl, rfl⟩))
  refine wp_region_bel (by kernel_rfl) (by kernel_rfl) ?_
  repeat (go_big_quiet_step (fail))
  refine wpQuiet_nil ?_
  rintro _ ⟨s0, rfl⟩
  have hb2 := Lib.hid s0.below
  generalize s0.w = w2 at *
  clear s0
  rcases Nat.lt_or_ge (k + 1) c with hck | hck
  · have hne : ¬ c = k + 1 := by omega
    have hrd := HRD.out
    rw [if_neg hne] at hrd
    have HRD2 := Lib.hid hrd
    clear HRD hrd
    go_wp2
    all_goals first
      | exact bodyPost_ret (res_ttt Tryd.results97) rfl ⟨_, rfl, HRD2.out, hb2.out⟩
      | (exfalso; omega)
  · have hck2 : c = k + 1 := by omega
    subst hck2
    have hrd := HRD.out
    rw [if_pos rfl] at hrd
    have HRD2 := Lib.hid hrd
    clear HRD hrd
    go_wp2
    all_goals first
      | exact bodyPost_ret (res_ttt Tryd.results97) rfl ⟨some ad, by rw [Nat.sub_self]; rfl, HRD2.out, hb2.out⟩
      | (exfalso; omega)
set_option maxRecDepth 20000 in
theorem cut_none (ad : Addr) (l : List UInt8) (c g : Nat) (x : UInt8) (w : World) (h : Rd w bv (some ad) l) (hg : w.cell? ⟨g, 0, none⟩ = some (bv x)) (hk : Lib.indexByte l x = -1) :
    Calls Tryd.prog 97 #[.slice (some ad) l.length c, .slice (some ⟨g, 0, none⟩) 1 1] w fun e w' => e = .returned (.tuple #[.slice (some ad) l.length c, .slice none 0 0, .bool false]) ∧ Below w.heap.size w w' := by
  have hI := index1_calls ad l c g x w h hg
  rw [hk] at hI
  have HI := Lib.hid hI
  clear hI h hk hg
  go_enter Tryd.func97, Tryd.ntmps97
  go_wp2_with (go_at_call 120; ((with_reducible refine HI.out.mono ?_); rintro e w' ⟨rfl, rfl⟩))
  exact bodyPost_ret (res_ttt Tryd.results97) rfl ⟨rfl, Below.refl _ _⟩
end Go.Proofs.YtjgohmfmalcjoaaDoor.TrW
