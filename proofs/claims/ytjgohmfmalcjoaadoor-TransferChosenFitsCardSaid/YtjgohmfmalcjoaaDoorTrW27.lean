import Derived.Test.YtjgohmfmalcjoaaDoorTrW25
import Derived.Test.YtjgohmfmalcjoaaDoorMe
/- Walks: slices.Chunk and the iterator that it hands back. -/
namespace Go.Proofs.YtjgohmfmalcjoaaDoor.Tr
theorem nParts_eq {L n k : Nat} (h0 : 0 < n) (h1 : L ≤ n * k) (h2 : k = 0 ∨ n * (k - 1) < L) : nParts L n = k := by
  unfold nParts
  rcases h2 with rfl | h2
  · have : L = 0 := by omega
    subst this
    exact Nat.div_eq_of_lt (by omega)
  · obtain ⟨j, rfl⟩ : ∃ j, k = j + 1 := ⟨k - 1, by
      cases k with
      | zero => simp at h1 h2; omega
      | succ k => omega⟩
    rw [Nat.add_sub_cancel] at h2
    rw [Nat.mul_succ] at h1
    refine Nat.div_eq_of_lt_le ?_ ?_
    · rw [Nat.mul_comm, Nat.mul_succ]; omega
    · rw [Nat.mul_comm, Nat.mul_succ, Nat.mul_succ]; omega
/-- the places at which parts begin, up to the k-th. -/
def begL (n k : Nat) : List Nat := (List.range k).map (n * ·)
theorem begL_succ (n k : Nat) : begL n (k + 1) = begL n k ++ [n * k] := by simp [begL, List.range_succ]
theorem begL_len (n k : Nat) : (begL n k).length = k := by simp [begL]
end Go.Proofs.YtjgohmfmalcjoaaDoor.Tr
namespace Go.Proofs.YtjgohmfmalcjoaaDoor.TrW
open Go.RowKit Go.Shelf Go.Proofs.YtjgohmfmalcjoaaDoor.Base Go.Proofs.YtjgohmfmalcjoaaDoor.Tr
set_option linter.unusedVariables false
set_option linter.unusedSimpArgs false
theorem nodepth {n : Nat} (h : Fence.wide.depth.isSome = true) : 1 ≤ n := by simp [Fence.wide] at h
abbrev chunkV (g : Nat) : Value := .func (.func 134) #[] #[.pointer (some ⟨g, 0, none⟩), .pointer (some ⟨g + 1, 0, none⟩)]
set_option maxHeartbeats 1000000 in
set_option maxRecDepth 20000 in
theorem chunk_calls (A : Option Addr) (L c n : Nat) (w : World) (hn : 1 ≤ n) (hn2 : n ≤ 1000) :
    Calls Tryd.prog 113 #[.slice A L c, .int .i64 n] w fun e w' => e = .returned (chunkV w.heap.size) ∧ w' = (w.alloc (.cells #[.slice A L c] 22)).alloc (.cells #[.int .i64 n] 3) := by
  have g1 : (1 : Int) ≤ (n : Int) := by omega
  have cb := (Bk.new' (n := w.heap.size + 1) (w.alloc (.cells #[.slice A L c] 22)) 3 #[.int .i64 n] (by simp)).cell
  go_enter Tryd.func113, Tryd.ntmps113
  go_wp2
  go_ret
  exact ⟨by first | rfl | simp, by first | rfl | simp⟩
/-- a part of L bytes, by its beginning. -/
abbrev Part (L : Nat) : Type := { i : Nat // i < L }
abbrev partV (L n : Nat) (ad : Addr) (x : Part L) : Array Value := #[.slice (some (ad.add x.1)) (min n (L - x.1)) (min n (L - x.1))]
/-- what the iterator asks of memory. -/
structure ChAt (W : World) (go g : Nat) (A : Option Addr) (L c n : Nat) : Prop where
  row : rowOf W go = none
  lo : go < W.heap.size
  bs : Bk W g 22 #[.slice A L c]
  bn : Bk W (g + 1) 3 #[.int .i64 n]
  n1 : go < g
theorem ChAt.bel {W W' : World} {go g : Nat} {A : Option Addr} {L c n : Nat} (h : ChAt W go g A L c n) (hb : Below W.heap.size W W') : ChAt W' go g A L c n :=
  ⟨by rw [rowOf_same (hb.block go h.lo)]; exact h.row, Nat.lt_of_lt_of_le h.lo hb.size, h.bs.bel hb, h.bn.bel hb, h.n1⟩
/-- the iterator has come to its end, or a round has said 'no more'. -/
theorem grown_of_below {W W' : World} (h : Below W.heap.size W W') : W.grownBy W' none := ⟨h.os, h.tape, h.output, h.size, fun k hk _ => h.block k hk⟩
theorem jbel {α : Type} {J : List α → World → Prop} {B : Nat} (hJ : AbidesFrom B J) {pre : List α} {W W' : World} (h : J pre W) (hb : Below W.heap.size W W') : J pre W' := hJ pre W _ none h (grown_of_below hb) (fun r e => by cases e)
def ChEnd (L n : Nat) (J Jx : List (Part L) → World → Prop) (e : Ending) (W' : World) : Prop :=
  (∃ v, e = .returned v) ∧ ((∃ xs : List (Part L), xs.map (·.1) = begL n (nParts L n) ∧ J xs W') ∨ (∃ pre : List (Part L), True ∧ Jx pre W'))
set_option maxHeartbeats 4000000 in
set_option maxRecDepth 100000 in
theorem chunk1_in (L : Nat) (A : Option Addr) (ad : Addr) (hA : ∀ i, i < L → A = some ad) (c n l go g m : Nat) (J Jx : List (Part L) → World → Prop) (W : World) (B : Nat) (hJ : AbidesFrom B J) (hY : YieldsQ Tryd.prog l go go (L + 1) (partV L n ad) J Jx) (hW : ChAt W go g A L c n) (hn : 1 ≤ n) (hn2 : n ≤ 1000) (hLc : L ≤ c) (hL2 : L ≤ 1000000) (hc63 : c ≤ 9223372036854775807) (h0 : J [] W) :
    CallsIn Fence.wide m Tryd.prog 134 #[.func (.yield l) #[] #[], .pointer (some ⟨g, 0, none⟩), .pointer (some ⟨g + 1, 0, none⟩)] W (ChEnd L n J Jx) := by
  have HJ0 := Lib.hid h0
  have HW := Lib.hid hW
  have HY := Lib.hid hY
  have hbs : ∀ k, begL n (k + 1) = begL n k ++ [n * k] := begL_succ n
  have HBS := Lib.hid hbs
  have hms : ∀ k, n * (k + 1) = n * k + n := fun k => Nat.mul_succ n k
  have HMS := Lib.hid hms
  have hend : ∀ k, L ≤ n * k → (k = 0 ∨ n * (k - 1) < L) → nParts L n = k := fun k h1 h2 => nParts_eq hn h1 h2
  have HEND := Lib.hid hend
  have hbl : ∀ k, (begL n k).length = k := begL_len n
  have HBL := Lib.hid hbl
  have hge : ∀ k, k ≤ n * k := fun k => Nat.le_mul_of_pos_left k hn
  have HGE := Lib.hid hge
  have HA := Lib.hid hA
  clear h0 hW hY hbs hms hend hbl hge hA
  refine callsIn_of_wp Tryd.func134 rfl trivial ?_ rfl
  simp only [Tryd.ntmps134, List.size_toArray, List.length_cons, List.length_nil, Nat.reduceAdd, Nat.reduceSub, Array.replicate_succ, Array.replicate_zero, List.push_toArray, List.append_toArray, List.nil_append, List.cons_append]
  have cs := HW.out.bs.cell
  have cn := HW.out.bn.cell
  gi_wp2
  clear cs cn
  gi_loopw [4] (fun s4 wr => ∃ (k i : Nat) (pre : List (Part L)), s4 = .int .i64 i ∧ Hid (i = n * k) ∧ i ≤ L + n ∧ Hid (k = 0 ∨ n * (k - 1) < L) ∧ Hid (pre.map (·.1) = begL n k) ∧ Hid (J pre wr) ∧ Hid (Kq go go W wr)) (fun s4 _ => L + 1000 + 1 - (intOf s4).toNat)
  case atStart => exact ⟨0, 0, [], rfl, Lib.hid (by simp), by omega, Lib.hid (.inl rfl), Lib.hid rfl, HJ0, Lib.hid (Kq.refl _ _ _)⟩
  case round =>
    clear HJ0
    obtain ⟨k, i, pre, rfl, hi, hiL, hk, hp, HJ, HQ⟩ := hrel
    have hl := HW.out.lo
    have hg := HW.out.n1
    have hB := HQ.out.bk HW.out.row HW.out.bs (by omega) (by omega)
    have hN := HQ.out.bk HW.out.row HW.out.bn (by omega) (by omega)
    have cs := hB.cell
    have cn := hN.cell
    clear hl hg
    by_cases hlt : i < L
    · have hA := HA.out i hlt
      subst hA
      have i1 : (0 : Int) ≤ (i : Int) := by omega
      have i2 : (i : Int) < (L : Int) := by omega
      have i3 : (i : Int) ≤ (c : Int) := by omega
      have hmin : ∃ q : Nat, q = min n (L - i) ∧ 1 ≤ q ∧ q ≤ n ∧ i + q ≤ L := ⟨_, rfl, by omega, by omega, by omega⟩
      obtain ⟨q, hq, q1, q2, q3⟩ := hmin
      have n1 : (1 : Int) ≤ (n : Int) := by omega
      have hsub : (L : Int) - (i : Int) = ((L - i : Nat) : Int) := by omega
      have sgs := hB.s
      have sgn := hN.s
      gi_wp2
      refine wpIn_region_bel open_wide (by kernel_rfl) (by kernel_rfl) (by kernel_rfl) ?_
      repeat (go_big_quiet_step (fail))
      refine wpQuiet_nil ?_
      rintro _ ⟨s0, rfl⟩
      have hqi : min (n : Int) ((L - i : Nat) : Int) = (q : Int) := by omega
      rw [hqi]
      have HJ2 := Lib.hid (jbel hJ HJ.out s0.below)
      have HQ2 := Lib.hid (HQ.out.trans (Kq.of_below (gr := go) (by have := HW.out.lo; have := HQ.out.size; omega) s0.below))
      have hB2 := hB.bel s0.below
      have hN2 := hN.bel s0.below
      clear HJ HQ hB hN cs cn sgs sgn hqi
      generalize s0.w = W9 at *
      clear s0
      have cs := hB2.cell
      have cn := hN2.cell
      have hplen : pre.length < L + 1 := by
        have h1 : pre.length = (pre.map (·.1)).length := by simp
        rw [h1, hp.out, HBL.out]
        have := hi.out
        have := HGE.out k
        omega
      obtain ⟨fn, tmps, assign, body, hy, hR⟩ := HY.out (m - 1) pre ⟨i, hlt⟩ W9 HJ2.out hplen
      dsimp only [partV] at hy
      rw [← hq] at hy
      have HR := Lib.hid hR
      clear hq
      have hp3 : (pre ++ [(⟨i, hlt⟩ : Part L)]).map (·.1) = begL n (k + 1) := by
        rw [List.map_append, hp.out, HBS.out]
        show begL n k ++ [i] = begL n k ++ [n * k]
        rw [hi.out]
      have HP3 := Lib.hid hp3
      have j1 : (0 : Int) ≤ (q : Int) := by omega
      have j2 : (i : Int) + (q : Int) ≤ (c : Int) := by omega
      have j3 : (i : Int) ≤ (i : Int) + (q : Int) := by omega
      have j4 : (0 : Int) ≤ (i : Int) + (q : Int) := by omega
      have jw : IntKind.i64.wrap ((i : Int) + (q : Int)) = ((i + q : Nat) : Int) := by rw [i64_id (by omega)]; omega
      have j5 : i + q - i = q := by omega
      have j6 : (i : Int) ≤ ((i + q : Nat) : Int) := by omega
      have j7 : ((i + q : Nat) : Int) ≤ (c : Int) := by omega
      have j8 : (0 : Int) ≤ ((i + q : Nat) : Int) := by omega
      have j9 : i + q ≠ i := by omega
      clear hplen hR hp3 hp
      gi_wp2
      refine ⟨nodepth, (roundIn_any HR.out).mono ?_⟩
      rintro e W' (⟨rfl, hJ', hK'⟩ | ⟨rfl, hX⟩)
      · have HJ' := Lib.hid hJ'
        have HK' := Lib.hid (HQ2.out.trans hK')
        have hN3 := HK'.out.bk HW.out.row HW.out.bn (by have := HW.out.lo; have := HW.out.n1; omega) (by have := HW.out.lo; have := HW.out.n1; omega)
        clear cs cn
        have cn := hN3.cell
        have jx : IntKind.i64.wrap ((i : Int) + (n : Int)) = ((i + n : Nat) : Int) := by rw [i64_id (by omega)]; omega
        clear hJ' hK' hB2 hN2 hN3 HJ2 HQ2 jw j1 j2 j3 j4 j5 j6 j7 j8 j9
        gi_wp2
        exact ⟨⟨k + 1, i + n, pre ++ [⟨i, hlt⟩], by first | rfl | go_num, Lib.hid (by rw [HMS.out, hi.out]), by omega, Lib.hid (.inr (by rw [Nat.add_sub_cancel, ← hi.out]; exact hlt)), HP3, HJ', HK'⟩, by simp [intOf]; omega⟩
      · gi_wp2
        refine bodyPost_ret (results_none rfl _ _ _) rfl ?_
        exact ⟨⟨_, rfl⟩, .inr ⟨_, trivial, hX⟩⟩
    · have he := HEND.out k (by rw [← hi.out]; omega) hk.out
      have HE := Lib.hid he
      have i2 : (L : Int) ≤ (i : Int) := by omega
      clear he
      gi_wp2
      go_end0
      exact ⟨⟨_, rfl⟩, .inl ⟨pre, by rw [HE.out]; exact hp.out, HJ.out⟩⟩
theorem chunk_enters : ∀ args w, (callFunc 134 args).run Tryd.prog w = .ok (.enter 134 args) w := enters_of Tryd.func134 (by kernel_rfl) rfl
/-- the iterator's contract. -/
theorem chunk_stops (L : Nat) (A : Option Addr) (ad : Addr) (hA : ∀ i, i < L → A = some ad) (c n go g m : Nat) (w : World) (hW : ChAt w go g A L c n) (hn : 1 ≤ n) (hn2 : n ≤ 1000) (hLc : L ≤ c) (hL2 : L ≤ 1000000) (hc63 : c ≤ 9223372036854775807) :
    SeqStopsK Fence.wide m Tryd.prog 134 #[.pointer (some ⟨g, 0, none⟩), .pointer (some ⟨g + 1, 0, none⟩)] (partV L n ad) (Kq go go) (fun xs => xs.map (·.1) = begL n (nParts L n)) (fun _ => True) (L + 1) w := fun l J Jx W hb hJ _ hY h0 =>
  chunk1_in L A ad hA c n l go g m J Jx W W.heap.size hJ (fun m pre x W1 h1 h2 => yieldAt_any m (hY pre x W1 h1 h2)) (hW.bel hb) hn hn2 hLc hL2 hc63 h0
end Go.Proofs.YtjgohmfmalcjoaaDoor.TrW
