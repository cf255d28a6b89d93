import Derived.Test.YtjgohmfmalcjoaaDoorMc
import Derived.Test.YtjgohmfmalcjoaaDoorTrW5
/- Walks: encoders that leave bytes as they are. -/
namespace Go.Proofs.YtjgohmfmalcjoaaDoor.Tr
def asF (e : Bool) (l : List UInt8) : List UInt8 × (Int × Int) := if 12000 < l.length then ([], (1, -1)) else if 0 ≤ refL e l then ([], (17, refL e l)) else (l, (0, 0))
def sameF (l : List UInt8) : List UInt8 × (Int × Int) := if 12000 < l.length then ([], (1, -1)) else (l, (0, 0))
end Go.Proofs.YtjgohmfmalcjoaaDoor.Tr
namespace Go.Proofs.YtjgohmfmalcjoaaDoor.TrW
open Go.RowKit Go.Proofs.YtjgohmfmalcjoaaDoor.Base Go.Proofs.YtjgohmfmalcjoaaDoor.Tr
set_option linter.unusedVariables false
set_option linter.unusedSimpArgs false
set_option maxHeartbeats 1000000 in
set_option maxRecDepth 20000 in
theorem as1_calls (A : Option Addr) (l : List UInt8) (c g : Nat) (e : Bool) (w : World) (h : Rd w bv A l) (hg : Bk w g 4 #[.bool e]) :
    Calls Tryd.prog 111 #[.slice A l.length c, .pointer (some ⟨g, 0, none⟩)] w (GivesBF w (asF e l).1 (asF e l).2) := by
  have hu28 := Tryd.underlying25
  have hv : asF e l = if 12000 < l.length then ([], (1, -1)) else if 0 ≤ refL e l then ([], (17, refL e l)) else (l, (0, 0)) := rfl
  generalize asF e l = v at *
  have BG := Lib.hid (hg.al (.cells #[.int .i64 0, .int .i64 0] 25))
  have BF := Lib.hid (Bk.new w 25 #[.int .i64 0, .int .i64 0])
  have HR := Lib.hid (h.al (.cells #[.int .i64 0, .int .i64 0] 25))
  have HB := Lib.hid (below_al (Below.refl w.heap.size w) (.cells #[.int .i64 0, .int .i64 0] 25))
  clear h hg
  rcases Nat.lt_or_ge 12000 l.length with hlen | hlen
  · rw [if_pos hlen] at hv
    subst hv
    have g1 : (12000 : Int) < (l.length : Int) := by omega
    go_enter Tryd.func111, Tryd.ntmps111
    go_upto_region 1 with fail
    generalize w.alloc (.cells #[.int .i64 0, .int .i64 0] 25) = w0 at *
    have cg := BG.out.cell
    have cf := BF.out.cell
    have ff := BF.out.frozen
    go_wp2
    exact bodyPost_ret (res_tc Tryd.results111 rfl ((BF.out.put 0 (.int .i64 1)).put' (cs' := #[.int .i64 1, .int .i64 (-1)]) 1 (.int .i64 (-1)) rfl) hu28 rfl (by kernel_rfl)) rfl ⟨none, 0, rfl, Rd.nil, Fr.none _, below_set (below_set HB.out (Nat.le_refl _) _) (Nat.le_refl _) _⟩
  · rw [if_neg (by omega)] at hv
    have g1 : (l.length : Int) ≤ 12000 := by omega
    have hC := fun W h => refused_calls A l c e W h (by unfold maxLen; omega)
    have hK := fun W h => clone_calls A l c W h (by omega)
    generalize refL e l = n at *
    have HC := Lib.hid hC
    have HK := Lib.hid hK
    clear hC hK
    go_enter Tryd.func111, Tryd.ntmps111
    go_upto_region 1 with fail
    generalize w.alloc (.cells #[.int .i64 0, .int .i64 0] 25) = w0 at *
    have cg := BG.out.cell
    have cf := BF.out.cell
    have ff := BF.out.frozen
    by_cases hn : 0 ≤ n
    · rw [if_pos hn] at hv
      subst hv
      go_wp2_with (go_at_call 41; ((with_reducible refine (HC.out _ HR.out).mono ?_); rintro en w' ⟨rfl, rfl⟩))
      exact bodyPost_ret (res_tc Tryd.results111 rfl ((BF.out.put 0 (.int .i64 17)).put' (cs' := #[.int .i64 17, .int .i64 n]) 1 (.int .i64 n) rfl) hu28 rfl (by kernel_rfl)) rfl ⟨none, 0, rfl, Rd.nil, Fr.none _, below_set (below_set HB.out (Nat.le_refl _) _) (Nat.le_refl _) _⟩
    · rw [if_neg hn] at hv
      have g2 : n < 0 := by omega
      subst hv
      go_wp2_with (first | (go_at_call 41; ((with_reducible refine (HC.out _ HR.out).mono ?_); rintro en w' ⟨rfl, rfl⟩)) | (go_at_call 112; ((with_reducible refine (HK.out _ HR.out).mono ?_); rintro en w1 ⟨A1, c1, rfl, hr1, hf1, hb1⟩; have B1 := Lib.hid (BF.out.bel hb1); clear cf ff; have cf := B1.out.cell; have ff := B1.out.frozen)))
      have lt0 : w.heap.size < w0.heap.size := BF.out.lt
      have hh : ∀ ad, A1 = some ad → ad.block ≠ w.heap.size := fun ad h => by have := hf1 ad h; omega
      exact bodyPost_ret (res_tc Tryd.results111 rfl ((B1.out.put 0 (.int .i64 0)).put' (cs' := #[.int .i64 0, .int .i64 0]) 1 (.int .i64 0) rfl) hu28 rfl (by kernel_rfl)) rfl ⟨A1, c1, rfl, (hr1.far (p := ⟨w.heap.size, 0, none⟩) hh _).far (p := ⟨w.heap.size, 1, none⟩) hh _, hf1.up (by omega), below_set (below_set (below_go HB.out hb1) (Nat.le_refl _) _) (Nat.le_refl _) _⟩
set_option maxHeartbeats 1000000 in
set_option maxRecDepth 20000 in
theorem samed_calls (A : Option Addr) (l : List UInt8) (c : Nat) (w : World) (h : Rd w bv A l) :
    Calls Tryd.prog 86 #[.slice A l.length c] w (GivesBF w (sameF l).1 (sameF l).2) := by
  have hu28 := Tryd.underlying25
  have hv : sameF l = if 12000 < l.length then ([], (1, -1)) else (l, (0, 0)) := rfl
  generalize sameF l = v at *
  have BF := Lib.hid (Bk.new w 25 #[.int .i64 0, .int .i64 0])
  have HR := Lib.hid (h.al (.cells #[.int .i64 0, .int .i64 0] 25))
  have HB := Lib.hid (below_al (Below.refl w.heap.size w) (.cells #[.int .i64 0, .int .i64 0] 25))
  clear h
  rcases Nat.lt_or_ge 12000 l.length with hlen | hlen
  · rw [if_pos hlen] at hv
    subst hv
    have g1 : (12000 : Int) < (l.length : Int) := by omega
    go_enter Tryd.func86, Tryd.ntmps86
    go_upto_region 1 with fail
    generalize w.alloc (.cells #[.int .i64 0, .int .i64 0] 25) = w0 at *
    have cf := BF.out.cell
    have ff := BF.out.frozen
    go_wp2
    exact bodyPost_ret (res_tc Tryd.results86 rfl ((BF.out.put 0 (.int .i64 1)).put' (cs' := #[.int .i64 1, .int .i64 (-1)]) 1 (.int .i64 (-1)) rfl) hu28 rfl (by kernel_rfl)) rfl ⟨none, 0, rfl, Rd.nil, Fr.none _, below_set (below_set HB.out (Nat.le_refl _) _) (Nat.le_refl _) _⟩
  · rw [if_neg (by omega)] at hv
    have g1 : (l.length : Int) ≤ 12000 := by omega
    have hK := fun W h => clone_calls A l c W h (by omega)
    have HK := Lib.hid hK
    clear hK
    subst hv
    go_enter Tryd.func86, Tryd.ntmps86
    go_upto_region 1 with fail
    generalize w.alloc (.cells #[.int .i64 0, .int .i64 0] 25) = w0 at *
    have cf := BF.out.cell
    have ff := BF.out.frozen
    go_wp2_with ((go_at_call 112; ((with_reducible refine (HK.out _ HR.out).mono ?_); rintro en w1 ⟨A1, c1, rfl, hr1, hf1, hb1⟩; have B1 := Lib.hid (BF.out.bel hb1); clear cf ff; have cf := B1.out.cell; have ff := B1.out.frozen)))
    have lt0 : w.heap.size < w0.heap.size := BF.out.lt
    have hh : ∀ ad, A1 = some ad → ad.block ≠ w.heap.size := fun ad h => by have := hf1 ad h; omega
    exact bodyPost_ret (res_tc Tryd.results86 rfl ((B1.out.put 0 (.int .i64 0)).put' (cs' := #[.int .i64 0, .int .i64 0]) 1 (.int .i64 0) rfl) hu28 rfl (by kernel_rfl)) rfl ⟨A1, c1, rfl, (hr1.far (p := ⟨w.heap.size, 0, none⟩) hh _).far (p := ⟨w.heap.size, 1, none⟩) hh _, hf1.up (by omega), below_set (below_set (below_go HB.out hb1) (Nat.le_refl _) _) (Nat.le_refl _) _⟩
end Go.Proofs.YtjgohmfmalcjoaaDoor.TrW
