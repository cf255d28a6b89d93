import Derived.Test.YtjgohmfmalcjoaaDoorTrW18
/- Walks: transfer.Choose. -/
namespace Go.Proofs.YtjgohmfmalcjoaaDoor.Tr
def len64 (n : Nat) : Nat := (n + 2) / 3 * 4 + ((n + 2) / 3 * 4 + 75) / 76 * 2
/-- what Choose answers. -/
def choF (l : List UInt8) : ByteArray × (Int × Int) := if 12000 < l.length then (⟨#[]⟩, (1, -1)) else if refL false l < 0 then (nm7, (0, 0)) else if (quoL l).length ≤ len64 l.length then (nmQ, (0, 0)) else (nm64, (0, 0))
end Go.Proofs.YtjgohmfmalcjoaaDoor.Tr
namespace Go.Proofs.YtjgohmfmalcjoaaDoor.TrW
open Go.RowKit Go.Proofs.YtjgohmfmalcjoaaDoor.Base Go.Proofs.YtjgohmfmalcjoaaDoor.Tr
set_option linter.unusedVariables false
set_option linter.unusedSimpArgs false
set_option maxHeartbeats 1000000 in
set_option maxRecDepth 20000 in
theorem choose_calls (A : Option Addr) (l : List UInt8) (c : Nat) (w : World) (h : Rd w bv A l) :
    Calls Tryd.prog 21 #[.slice A l.length c] w fun e w' => e = .returned (.tuple #[.string (choF l).1, .agg #[.int .i64 (choF l).2.1, .int .i64 (choF l).2.2]]) ∧ Below w.heap.size w w' := by
  have hu28 := Tryd.underlying25
  have hv : choF l = if 12000 < l.length then (⟨#[]⟩, (1, -1)) else if refL false l < 0 then (nm7, (0, 0)) else if (quoL l).length ≤ len64 l.length then (nmQ, (0, 0)) else (nm64, (0, 0)) := rfl
  have BF := Lib.hid (Bk.new w 25 #[.int .i64 0, .int .i64 0])
  have HR := Lib.hid (h.al (.cells #[.int .i64 0, .int .i64 0] 25))
  have HB := Lib.hid (below_al (Below.refl w.heap.size w) (.cells #[.int .i64 0, .int .i64 0] 25))
  have hq : quoE l = if 12000 < l.length then ([], (1, -1)) else (quoL l, (0, 0)) := rfl
  have hC := fun W R => refused_calls A l c false W R
  have hQ := fun W R => quoenc_calls A l c W R
  have hql := quoF_len (l := l) l.length 0 0 []
  change (quoL l).length ≤ _ at hql
  simp only [List.length_nil, Nat.zero_add] at hql
  generalize choF l = v at *
  generalize refL false l = n at *
  rcases Nat.lt_or_ge 12000 l.length with hlen | hlen
  · rw [if_pos hlen] at hv
    subst hv
    have g1 : (12000 : Int) < (l.length : Int) := by omega
    clear h hq hC hQ hql
    go_enter Tryd.func21, Tryd.ntmps21
    go_upto_region 1 with fail
    generalize w.alloc (.cells #[.int .i64 0, .int .i64 0] 25) = w0 at *
    have cf := BF.out.cell
    have ff := BF.out.frozen
    go_wp2
    exact bodyPost_ret (res_tc Tryd.results21 rfl ((BF.out.put 0 (.int .i64 1)).put' (cs' := #[.int .i64 1, .int .i64 (-1)]) 1 (.int .i64 (-1)) rfl) hu28 rfl (by kernel_rfl)) rfl ⟨rfl, below_set (below_set HB.out (Nat.le_refl _) _) (Nat.le_refl _) _⟩
  · rw [if_neg (by omega)] at hv hq
    have g1 : (l.length : Int) ≤ 12000 := by omega
    have hC2 := fun W R => hC W R (by unfold maxLen; omega)
    rw [hq] at hQ
    generalize quoL l = q at *
    have HC := Lib.hid hC2
    have HQ := Lib.hid hQ
    obtain ⟨a, ha⟩ : ∃ a, a = (l.length + 2) / 3 := ⟨_, rfl⟩
    obtain ⟨b, hb⟩ : ∃ b, b = (a * 4 + 75) / 76 := ⟨_, rfl⟩
    have h64 : len64 l.length = a * 4 + b * 2 := by unfold len64; rw [← ha, ← hb]
    have e1 : ((l.length : Int) + 2).tdiv 3 = (a : Int) := by rw [Int.tdiv_eq_ediv_of_nonneg (by omega)]; omega
    have e2 : ((a : Int) * 4 + 75).tdiv 76 = (b : Int) := by rw [Int.tdiv_eq_ediv_of_nonneg (by omega)]; omega
    have a1 : (a : Int) ≤ 5000 := by omega
    have b1 : (b : Int) ≤ 5000 := by omega
    have a0 : (0 : Int) ≤ (a : Int) := by omega
    have b0 : (0 : Int) ≤ (b : Int) := by omega
    rw [h64] at hv
    clear h hq hC hC2 hQ ha hb h64
    go_enter Tryd.func21, Tryd.ntmps21
    go_upto_region 1 with fail
    generalize w.alloc (.cells #[.int .i64 0, .int .i64 0] 25) = w0 at *
    have cf := BF.out.cell
    have ff := BF.out.frozen
    go_upto_region 4 with (go_at_call 40; ((with_reducible refine (HQ.out _ HR.out).mono ?_); rintro en w1 ⟨A1, c1, rfl, hr1, hf1, hb1⟩; have B1 := Lib.hid ((BF.out.bel hb1).al (.cells #[.int .i64 0, .int .i64 0] 25)); have R1 := Lib.hid ((HR.out.bel hb1).al (.cells #[.int .i64 0, .int .i64 0] 25)); have HB1 := Lib.hid (below_al (below_go HB.out hb1) (.cells #[.int .i64 0, .int .i64 0] 25)); clear hr1 hf1 hb1 cf ff BF HR HB))
    have cf := B1.out.cell
    have ff := B1.out.frozen
    generalize w1.alloc (.cells #[.int .i64 0, .int .i64 0] 25) = w2 at *
    by_cases hn : n < 0
    · rw [if_pos hn] at hv
      subst hv
      go_wp2_with (go_at_call 41; ((with_reducible refine (HC.out _ R1.out).mono ?_); rintro en w' ⟨rfl, rfl⟩))
      exact bodyPost_ret (res_tc Tryd.results21 rfl ((B1.out.put 0 (.int .i64 0)).put' (cs' := #[.int .i64 0, .int .i64 0]) 1 (.int .i64 0) rfl) hu28 rfl (by kernel_rfl)) rfl ⟨rfl, below_set (below_set HB1.out (Nat.le_refl _) _) (Nat.le_refl _) _⟩
    · rw [if_neg hn] at hv
      have g2 : 0 ≤ n := by omega
      by_cases hqq : q.length ≤ a * 4 + b * 2
      · rw [if_pos hqq] at hv
        subst hv
        have g3 : (q.length : Int) ≤ (a : Int) * 4 + (b : Int) * 2 := by omega
        clear hqq hn
        go_wp2_with (go_at_call 41; ((with_reducible refine (HC.out _ R1.out).mono ?_); rintro en w' ⟨rfl, rfl⟩))
        exact bodyPost_ret (res_tc Tryd.results21 rfl ((B1.out.put 0 (.int .i64 0)).put' (cs' := #[.int .i64 0, .int .i64 0]) 1 (.int .i64 0) rfl) hu28 rfl (by kernel_rfl)) rfl ⟨rfl, below_set (below_set HB1.out (Nat.le_refl _) _) (Nat.le_refl _) _⟩
      · rw [if_neg hqq] at hv
        subst hv
        have g3 : (a : Int) * 4 + (b : Int) * 2 < (q.length : Int) := by omega
        clear hqq hn
        go_wp2_with (go_at_call 41; ((with_reducible refine (HC.out _ R1.out).mono ?_); rintro en w' ⟨rfl, rfl⟩))
        exact bodyPost_ret (res_tc Tryd.results21 rfl ((B1.out.put 0 (.int .i64 0)).put' (cs' := #[.int .i64 0, .int .i64 0]) 1 (.int .i64 0) rfl) hu28 rfl (by kernel_rfl)) rfl ⟨rfl, below_set (below_set HB1.out (Nat.le_refl _) _) (Nat.le_refl _) _⟩
end Go.Proofs.YtjgohmfmalcjoaaDoor.TrW
