import Derived.Test.YtjgohmfmalcjoaaDoorTrW27
/- Behind the walks of loops over parts: memory in a round. -/
namespace Go
theorem wpListIn_append_own_at {F : Fence} {n : Nat} {P : Program} (w : World) {ops : Array Oper} {rest : List Oper} {o : Oper} {a : Act} {Q : Exit → Act → World → Prop}
    (hg : o.guard = none) (s x : Operand) (t : TypeId) (hop : o.op = Op.call { callee := Callee.builtin Builtin.append, args := #[s, x], argTypes := #[t, t] })
    (base : Nat) (e : TypeId) (i : TypeInfo) (z : Value) (size bytes : Nat) (h1 : P.underlying t = some (.slice e)) (h2 : P.info? e = some i) (h3 : i.zero = some z) (h4 : i.size = size) (h5 : i.bytes = bytes) (h6 : z.cells.size = size) (h7 : 0 < size)
    (v : Value) (k : Nat) (xs : List Value) (hs : a.eval s = v) (hown : w.ownsRow base e size v k xs) (ad : Addr) (m c : Nat) (news : List Value) (hx : a.eval x = .slice (some ad) m c) (hn : news.length = m * size)
    (hc : ∀ j u, news[j]? = some u → w.cell? (ad.add j) = some u) (h1c : ∀ u ∈ news, u.oneCell' = true) (b1 : k + m ≤ maxLen) (b2 : (k + m) * bytes ≤ 140737488355328) (b3 : base ≤ w.heap.size)
    (hK : ∀ v' w', w'.ownsRow base e size v' (k + m) (xs ++ news) → w.grownBy w' v.ownBlock → (v'.ownBlock = v.ownBlock ∨ v'.ownBlock = some w.heap.size) → wpListIn F n P ops Q rest (a.put o.dst v') w') :
    wpListIn F n P ops Q (o :: rest) a w := by
  refine wpListIn_plain hg fun K hK' => ?_
  obtain ⟨v', w', hrun, r1, r2, _, r4⟩ := run_append_own_at (P := P) w base t o.type e i z size bytes h1 h2 h3 h4 h5 h6 h7 v k xs hown ad m c news hn hc h1c b1 b2 b3
  unfold Oper.wpIn
  refine ⟨?_, ?_⟩
  · simp [Oper.about, hop, resolve, Target.leads, Sem.run_pure]
  · rw [Oper.semAt_plain F _ _ (by rw [hop]; intro c hc'; cases hc')]
    simp [execOp, hop, resolve, invoke, builtin, hs, hx, hrun, Result.andThen]
    exact hK' _ _ (hK v' w' r1 r2 r4)
theorem step_append_in_at {F : Fence} {n : Nat} {P : Program} {w : World} {ops : Array Oper} {o : Oper} {a : Act} {K : Act → World → Prop} {Q : Exit → Act → World → Prop} {E : Prop}
    (hg : o.guard = none) (s x : Operand) (t : TypeId) (hop : o.op = Op.call { callee := Callee.builtin Builtin.append, args := #[s, x], argTypes := #[t, t] })
    (base : Nat) (e : TypeId) (i : TypeInfo) (z : Value) (size bytes : Nat) (h1 : P.underlying t = some (.slice e)) (h2 : P.info? e = some i) (h3 : i.zero = some z) (h4 : i.size = size) (h5 : i.bytes = bytes) (h6 : z.cells.size = size) (h7 : 0 < size)
    (v : Value) (k : Nat) (xs : List Value) (hs : a.eval s = v) (hown : w.ownsRow base e size v k xs) (ad : Addr) (m c : Nat) (news : List Value) (hx : a.eval x = .slice (some ad) m c) (hn : news.length = m * size)
    (hc : ∀ j u, news[j]? = some u → w.cell? (ad.add j) = some u) (h1c : ∀ u ∈ news, u.oneCell' = true) (b1 : k + m ≤ maxLen) (b2 : (k + m) * bytes ≤ 140737488355328) (b3 : base ≤ w.heap.size)
    (hK : ∀ v' w', w'.ownsRow base e size v' (k + m) (xs ++ news) → w.grownBy w' v.ownBlock → (v'.ownBlock = v.ownBlock ∨ v'.ownBlock = some w.heap.size) → K (a.put o.dst v') w') :
    if Region.wanted o (yielded ops a.tmps) = true then Oper.wpIn F n P o a w K Q else E := by
  have hw : Region.wanted o (yielded ops a.tmps) = true := by simp [Region.wanted, hg]
  rw [if_pos hw]
  obtain ⟨v', w', hrun, r1, r2, _, r4⟩ := run_append_own_at (P := P) w base t o.type e i z size bytes h1 h2 h3 h4 h5 h6 h7 v k xs hown ad m c news hn hc h1c b1 b2 b3
  unfold Oper.wpIn
  refine ⟨?_, ?_⟩
  · simp [Oper.about, hop, resolve, Target.leads, Sem.run_pure]
  · rw [Oper.semAt_plain F _ _ (by rw [hop]; intro c hc'; cases hc')]
    simp [execOp, hop, resolve, invoke, builtin, hs, hx, hrun, Result.andThen]
    exact hK v' w' r1 r2 r4
end Go
namespace Go.Proofs.YtjgohmfmalcjoaaDoor.TrW
open Go.RowKit Go.Shelf Go.Proofs.YtjgohmfmalcjoaaDoor.Base Go.Proofs.YtjgohmfmalcjoaaDoor.Tr
set_option linter.unusedVariables false
set_option linter.unusedSimpArgs false
theorem own_mono {w : World} {B B' : Nat} {e : TypeId} {size : Nat} {v : Value} {n : Nat} {xs : List Value} (h : w.ownsRow B e size v n xs) (hB : B' ≤ B) : w.ownsRow B' e size v n xs := by
  refine ⟨h.1, ?_⟩
  rcases h.2 with hn | ⟨g, cap, cur, hv, hb, rest⟩
  · exact .inl hn
  · exact .inr ⟨g, cap, cur, hv, Nat.le_trans hB hb, rest⟩
theorem keeps_bel {W W' : World} {B : Nat} (hb : Below W.heap.size W W') : KeepsFrom B W W' := ⟨hb.size, fun k o _ hk _ => (hb.block k (Array.getElem?_eq_some_iff.1 hk).1).trans hk⟩
theorem keeps_up {B B' : Nat} {W W' : World} (h : KeepsFrom B W W') (hB : B ≤ B') : KeepsFrom B' W W' := ⟨h.size, fun k o hk => h.same k o (by omega)⟩
theorem own_cells {W : World} {B : Nat} {v : Value} {e : TypeId} {size n : Nat} {xs : List Value} (h : W.ownsRow B e size v n xs) {g : Nat} (hv : v.ownBlock = some g) {o : Obj} (ho : W.heap[g]? = some o) : o.isCells = true := by
  rcases h.2 with ⟨rfl, _⟩ | ⟨g', cap, cur, rfl, _, hg, _⟩
  · simp [Value.ownBlock] at hv
  · have : g' = g := by simpa [Value.ownBlock] using hv
    subst this
    rw [hg] at ho
    cases ho
    rfl
/-- memory in a round: the list's box and its row. -/
structure PI (w W : World) (go B : Nat) (l : List UInt8) (v : Value) : Prop where
  own : W.ownsRow B 5 1 v l.length (l.map bv)
  b : Below w.heap.size w W
  hB : B ≤ W.heap.size
  lB : w.heap.size ≤ go
  nB : go < B
  out : Bk W go 22 #[v]
/-- the same, in the midst of a round that began at W: v is not stored yet. -/
structure PM (w W Wc : World) (go B : Nat) (v0 : Value) (l : List UInt8) (v : Value) : Prop where
  own : Wc.ownsRow B 5 1 v l.length (l.map bv)
  b : Below w.heap.size w Wc
  hB : B ≤ Wc.heap.size
  lB : w.heap.size ≤ go
  nB : go < B
  out : Bk Wc go 22 #[v0]
  size : W.heap.size ≤ Wc.heap.size
  keep : ∀ k, k < W.heap.size → v0.ownBlock ≠ some k → Wc.heap[k]? = W.heap[k]?
  cells : ∀ k o, W.heap[k]? = some o → v0.ownBlock = some k → o.isCells = true
  lies : ∀ r, v.ownBlock = some r → v0.ownBlock = some r ∨ W.heap.size ≤ r
section
variable {w W W' Wc w2 : World} {go B : Nat} {v0 v v' : Value} {l l' : List UInt8}
theorem PI.bel (h : PI w W go B l v) (hb : Below W.heap.size W W') : PI w W' go B l v := ⟨own_bel h.own hb, below_go h.b hb, Nat.le_trans h.hB hb.size, h.lB, h.nB, h.out.bel hb⟩
theorem PI.row (h : PI w W go B l v) : rowOf W go = v.ownBlock := by
  unfold rowOf
  rw [show W.cell? ⟨go, 0, none⟩ = some v from h.out.cell 0]
theorem PI.abides {row : Option Nat} (h : PI w W go B l v) (hg : W.grownBy W' row) (hr : ∀ r, row = some r → w.heap.size ≤ r ∧ ∃ o : Obj, W.heap[r]? = some o ∧ o.isCells = false) : PI w W' go B l v := by
  have hk : ∀ {g : Nat} {t : TypeId} {cs : Array Value}, Bk W g t cs → Bk W' g t cs := fun hB => (hg.block _ hB.lt (fun e => by
    obtain ⟨_, o, ho, hc⟩ := hr _ e.symm
    rw [hB] at ho
    cases ho
    cases hc)).trans hB
  refine ⟨h.own.kept hg ?_, h.b.grown hg h.b.size (fun k e => (hr k e).1), Nat.le_trans h.hB hg.size, h.lB, h.nB, hk h.out⟩
  cases hv : v.ownBlock with
  | none => exact .inl rfl
  | some g =>
    refine .inr (fun e => ?_)
    obtain ⟨_, o, ho, hc⟩ := hr g e.symm
    rw [own_cells h.own hv ho] at hc
    cases hc
theorem PI.start (h : PI w W go B l v) : PM w W W go B v l v := ⟨h.own, h.b, h.hB, h.lB, h.nB, h.out, Nat.le_refl _, fun _ _ _ => rfl, fun _ _ ho hv => own_cells h.own hv ho, fun _ hr => .inl hr⟩
theorem PM.bel (h : PM w W Wc go B v0 l v) (hb : Below Wc.heap.size Wc W') : PM w W W' go B v0 l v :=
  ⟨own_bel h.own hb, below_go h.b hb, Nat.le_trans h.hB hb.size, h.lB, h.nB, h.out.bel hb, Nat.le_trans h.size hb.size, fun k hk hv => (hb.block k (Nat.lt_of_lt_of_le hk h.size)).trans (h.keep k hk hv), h.cells, h.lies⟩
theorem PM.al (h : PM w W Wc go B v0 l v) (o : Obj) : PM w W (Wc.alloc o) go B v0 l v := h.bel (below_al (Below.refl _ _) _)
theorem PM.app (h : PM w W Wc go B v0 l v) (hg : Wc.grownBy w2 v.ownBlock) (hown : w2.ownsRow B 5 1 v' l'.length (l'.map bv)) (hat : v'.ownBlock = v.ownBlock ∨ v'.ownBlock = some Wc.heap.size) : PM w W w2 go B v0 l' v' := by
  refine ⟨hown, below_grown h.b hg h.own (by have := h.lB; have := h.nB; omega), Nat.le_trans h.hB hg.size, h.lB, h.nB, h.out.grown hg h.own h.nB, Nat.le_trans h.size hg.size, fun k hk hv => ?_, h.cells, fun r hr => ?_⟩
  · refine (hg.block k (Nat.lt_of_lt_of_le hk h.size) (fun e => ?_)).trans (h.keep k hk hv)
    rcases h.lies k e.symm with h1 | h1
    · exact hv h1
    · omega
  · rcases hat with h1 | h1
    · rw [h1] at hr
      exact h.lies r hr
    · rw [h1] at hr
      cases hr
      exact .inr h.size
/-- the list is stored into its box. -/
theorem PM.store (h : PM w W Wc go B v0 l v) (hrow : rowOf W go = v0.ownBlock) (hgo : Bk W go 22 #[v0]) :
    PI w (Wc.setCell ⟨go, 0, none⟩ v) go B l v ∧ Kq go go W (Wc.setCell ⟨go, 0, none⟩ v) ∧ KeepsFrom w.heap.size W (Wc.setCell ⟨go, 0, none⟩ v) := by
  have ho3 : Bk (Wc.setCell ⟨go, 0, none⟩ v) go 22 #[v] := h.out.put' 0 v rfl
  have hsz : Wc.heap.size = (Wc.setCell ⟨go, 0, none⟩ v).heap.size := by simp [World.setCell]
  have n1 := h.size
  have n3 := h.nB
  have hall : ∀ k, k < W.heap.size → k ≠ go → v0.ownBlock ≠ some k → (Wc.setCell ⟨go, 0, none⟩ v).heap[k]? = W.heap[k]? := fun k h1 h2 h3 =>
    (Below.heap_setCell Wc ⟨go, 0, none⟩ v k h2).trans (h.keep k h1 h3)
  refine ⟨⟨?_, below_set h.b h.lB v, by rw [← hsz]; exact h.hB, h.lB, h.nB, ho3⟩, ⟨by omega, fun k o hk hc h1 h2 h3 => ?_, fun g hgr => ?_⟩, ⟨by omega, fun k o _ hk hc => ?_⟩⟩
  · refine h.own.kept (grownBy_setCell' Wc go v) ?_
    cases hv : v.ownBlock with
    | none => exact .inl rfl
    | some g => exact .inr (fun e => by have := (h.own.lt g hv).1; have e' : g = go := Option.some.inj e; omega)
  · rw [hrow] at h3
    exact (hall k (Array.getElem?_eq_some_iff.1 hk).1 h1 h3).trans hk
  · have e : rowOf (Wc.setCell ⟨go, 0, none⟩ v) go = v.ownBlock := by
      unfold rowOf
      rw [show (Wc.setCell ⟨go, 0, none⟩ v).cell? ⟨go, 0, none⟩ = some v from ho3.cell 0]
    rw [e] at hgr
    rcases h.lies g hgr with h4 | h4
    · exact .inl (by rw [hrow]; exact h4)
    · exact .inr h4
  · refine (hall k (Array.getElem?_eq_some_iff.1 hk).1 (fun e => ?_) (fun e => ?_)).trans hk
    · subst e
      rw [hgo] at hk
      cases hk
      cases hc
    · rw [h.cells k o hk e] at hc
      cases hc
end
end Go.Proofs.YtjgohmfmalcjoaaDoor.TrW
