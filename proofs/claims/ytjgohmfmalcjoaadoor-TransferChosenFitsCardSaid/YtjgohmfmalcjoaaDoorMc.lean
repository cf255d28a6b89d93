import Derived.Test.YtjgohmfmalcjoaaDoorBase7
import Derived.Test.YtjgohmfmalcjoaaDoorMe
import Derived.Test.YtjgohmfmalcjoaaDoorMb
import Derived.Laws.IdiomStrings
import Derived.Laws.BytesArg
import Derived.Lib.Bytes
import Derived.Lib.SlTrimSet
import Derived.Lib.SlBytesConst
import Derived.Shelf.Bytes.SlTrim
import Derived.Test.YtjgohmfmalcjoaaDoorShelfI
/- General: bytes, strings and lists of them in memory; results; a byte in a list. -/
namespace Go.Proofs.YtjgohmfmalcjoaaDoor.Tr
open Go.RowKit Go.Proofs.YtjgohmfmalcjoaaDoor.Base Go.Proofs.YtjgohmfmalcjoaaDoor.Tr
set_option linter.unusedVariables false
set_option linter.unusedSimpArgs false
/-- CR LF at i. -/
def crlfAt (l : List UInt8) (i : Nat) : Bool := l[i]? == some 13 && l[i + 1]? == some 10
theorem crlf_of {l : List UInt8} {i : Nat} (h : i + 1 < l.length) : crlfAt l i = (l[i] == 13 && l[i + 1] == 10) := by
  unfold crlfAt
  rw [List.getElem?_eq_getElem (by omega), List.getElem?_eq_getElem h]
  rfl
theorem crlf_end {l : List UInt8} {i : Nat} (h : l.length ≤ i + 1) : crlfAt l i = false := by
  unfold crlfAt
  rw [List.getElem?_eq_none (i := i + 1) (by omega)]
  simp
theorem u8_is (c : UInt8) (n : Nat) (h : n < 256) : (c == UInt8.ofNat n) = decide (c.toNat = n) := by
  rw [Bool.eq_iff_iff, beq_iff_eq, decide_eq_true_iff]
  constructor
  · intro h2; subst h2; simp; omega
  · intro h2; subst h2; simp
def blankC (c : UInt8) : Bool := decide (c.toNat = 32) || decide (c.toNat = 9)
end Go.Proofs.YtjgohmfmalcjoaaDoor.Tr
namespace Go.Proofs.YtjgohmfmalcjoaaDoor.TrW
open Go.RowKit Go.Proofs.YtjgohmfmalcjoaaDoor.Base Go.Proofs.YtjgohmfmalcjoaaDoor.Tr
set_option linter.unusedVariables false
set_option linter.unusedSimpArgs false
theorem add_zero (g j : Nat) : (⟨g, 0, none⟩ : Addr).add j = ⟨g, j, none⟩ := by
  unfold Addr.add
  split
  · subst_vars; rfl
  · simp
/-- '[]byte(s)'. -/
theorem bytes_of (s : ByteArray) (w : World) : ∃ cap W, (convert 9 22 (.string s)).run Tryd.prog w = .ok (.slice (some ⟨w.heap.size, 0, none⟩) s.size cap) W ∧ Below w.heap.size w W ∧ w.heap.size < W.heap.size ∧ (∀ j (h : j < s.size), W.cell? ⟨w.heap.size, j, none⟩ = some (bv s[j])) ∧ (∀ j, j < s.size → W.frozen? ⟨w.heap.size, j, none⟩ = false) := by
  refine ⟨_, _, run_bytes_of_string w _ _ 5 s Tryd.underlying9 Tryd.underlying22 Tryd.underlying5, ?_, by simp, fun j h => ?_, fun j h => ?_⟩
  · exact below_al (below_drew1 (Below.refl _ _)) _
  · have hn : (w.drew.alloc (.cells (bytesRow s (grownCap w s.size 0 5)) 5 ((bytesRow s (grownCap w s.size 0 5)).size, (bytesRow s (grownCap w s.size 0 5)).size + 1))).heap[w.heap.size]? = some (.cells (bytesRow s (grownCap w s.size 0 5)) 5 ((bytesRow s (grownCap w s.size 0 5)).size, (bytesRow s (grownCap w s.size 0 5)).size + 1)) := heap_alloc_new w.drew _
    rw [cell_of_row _ _ j _ _ _ hn]
    exact bytesRow_at s _ j h
  · have hn : (w.drew.alloc (.cells (bytesRow s (grownCap w s.size 0 5)) 5 ((bytesRow s (grownCap w s.size 0 5)).size, (bytesRow s (grownCap w s.size 0 5)).size + 1))).heap[w.heap.size]? = some (.cells (bytesRow s (grownCap w s.size 0 5)) 5 ((bytesRow s (grownCap w s.size 0 5)).size, (bytesRow s (grownCap w s.size 0 5)).size + 1)) := heap_alloc_new w.drew _
    unfold World.frozen?
    rw [hn]
    have : s.size ≤ (bytesRow s (grownCap w s.size 0 5)).size := by unfold bytesRow; simp
    simp
    omega
/-- 'string(b)'. -/
theorem string_of {A : Option Addr} {l : List UInt8} {c : Nat} {w : World} (h : Rd w bv A l) : (convert 22 9 (.slice A l.length c)).run Tryd.prog w = .ok (.string ⟨l.toArray⟩) w := by
  cases A with
  | none =>
    have : l = [] := by
      cases l with
      | nil => rfl
      | cons x l => obtain ⟨ad, e, _⟩ := h (by simp); cases e
    subst this
    exact run_convert_bytes_nil w _ 5 Tryd.underlying22 Tryd.underlying5 _ _ _ Tryd.underlying9
  | some a =>
    refine run_convert_bytes_back w _ _ 5 a c l Tryd.underlying22 Tryd.underlying5 Tryd.underlying9 (fun j hj => ?_)
    obtain ⟨ad, e, _, hc⟩ := h.at_ hj
    injection e with e
    subst e
    exact hc
set_option maxRecDepth 20000 in
theorem rbytes_calls {A B : Option Addr} {a b : List UInt8} {c d : Nat} {w : World} (hA : Rd w bv A a) (hB : Rd w bv B b) :
    Calls Tryd.prog 17 #[.slice A a.length c, .slice B b.length d] w fun e w' => e = .returned (.bool (a == b)) ∧ w = w' := by
  have h1 := string_of (c := c) hA
  have h2 := string_of (c := d) hB
  have he : decide ((⟨a.toArray⟩ : ByteArray) = ⟨b.toArray⟩) = (a == b) := by
    rw [Bool.eq_iff_iff, decide_eq_true_iff, beq_iff_eq]
    constructor
    · intro h; injection h with h; exact (List.toArray_inj h)
    · intro h; rw [h]
  clear hA hB
  go_enter Tryd.func17, Tryd.ntmps17
  go_wp2
  go_ret
  exact ⟨by rw [← he]; rfl, rfl⟩
theorem add_succ (a : Addr) (i : Nat) : a.add (i + 1) = ⟨a.block, a.off + (i + 1), none⟩ := by simp [Addr.add]
theorem u8_eqb (c : UInt8) (n : Nat) (h : n < 256) : (c == UInt8.ofNat n) = ((c.toNat : Int) == (n : Int)) := by
  rw [u8_is c n h, Bool.eq_iff_iff, decide_eq_true_iff, beq_iff_eq]
  omega
theorem crlf_int {l : List UInt8} {i : Nat} (h : i + 1 < l.length) : crlfAt l i = ((l[i].toNat : Int) == 13 && (l[i + 1].toNat : Int) == 10) := by
  rw [crlf_of h]
  have e1 := u8_eqb l[i] 13 (by omega)
  have e2 := u8_eqb l[i + 1] 10 (by omega)
  simp only [show UInt8.ofNat 13 = 13 from rfl, show UInt8.ofNat 10 = 10 from rfl] at e1 e2
  rw [e1, e2]
  rfl
set_option maxRecDepth 20000 in
theorem rcrlf_calls (A : Option Addr) (l : List UInt8) (c i : Nat) (w : World) (h : Rd w bv A l) (hl : l.length ≤ maxLen) (hi : i < l.length) :
    Calls Tryd.prog 37 #[.slice A l.length c, .int .i64 i] w fun en w' => en = .returned (.bool (crlfAt l i)) ∧ w = w' := by
  unfold maxLen at hl
  have HR := Lib.hid h
  clear h
  by_cases hlt : i + 1 < l.length
  · have i1 : (0 : Int) ≤ (i : Int) := by omega
    have i2 : (i : Int) < (l.length : Int) := by omega
    have i3 : (i : Int) + 1 < (l.length : Int) := by omega
    obtain ⟨ad, rfl, _, ck⟩ := HR.out.at_ (show i < l.length by omega)
    obtain ⟨ad2, e2, _, ck2⟩ := HR.out.at_ hlt
    injection e2 with e2
    subst e2
    have ck3 := ck2
    rw [add_succ] at ck3
    have hcr := crlf_int hlt
    generalize crlfAt l i = v at *
    rcases tf ((l[i].toNat : Int) == 13) with q13 | q13
    · rw [q13] at hcr
      subst hcr
      generalize l[i] = x at *
      generalize l[i + 1] = y at *
      go_enter Tryd.func37, Tryd.ntmps37
      go_wp2
      go_ret
      exact ⟨rfl, rfl⟩
    · rw [q13] at hcr
      generalize l[i] = x at *
      generalize l[i + 1] = y at *
      rcases tf ((y.toNat : Int) == 10) with q10 | q10
      all_goals
        rw [q10] at hcr
        subst hcr
        go_enter Tryd.func37, Tryd.ntmps37
        go_wp2
        go_ret
        exact ⟨rfl, rfl⟩
  · have i3 : (l.length : Int) ≤ (i : Int) + 1 := by omega
    rw [crlf_end (by omega)]
    clear hlt HR
    go_enter Tryd.func37, Tryd.ntmps37
    go_wp2
    go_ret
    exact ⟨rfl, rfl⟩
theorem info8 : (Tryd.prog.info? 5).map (fun i => (i.zero, i.size, i.bytes)) = some (some (.int .u8 0), 1, 1) := by kernel_rfl
theorem bv1 (x : UInt8) : (bv x).oneCell' = true := rfl
theorem own_max {w : World} {B : Nat} {e : TypeId} {A : Option Addr} {n c : Nat} {xs : List Value} (h : w.ownsRow B e 1 (.slice A n c) n xs) : c ≤ 9223372036854775807 := by
  rcases h.2 with ⟨hv, _⟩ | ⟨g, cap, cur, hv, _, _, _, h4, _⟩
  · cases hv; omega
  · cases hv; unfold maxLen at h4; omega
/-- a slice whose array the call has made, with its capacity. -/
structure Fr (w : World) (A : Option Addr) (n c : Nat) : Prop where
  f : Fresh w A
  le : n ≤ c
  mx : c ≤ 9223372036854775807
instance {w : World} {A : Option Addr} {n c : Nat} : CoeFun (Fr w A n c) (fun _ => ∀ ad, A = some ad → w.heap.size ≤ ad.block) := ⟨fun h => h.f⟩
theorem Fr.none (w : World) : Fr w Option.none 0 0 := ⟨Fresh.none w, Nat.le_refl _, by omega⟩
theorem Fr.own {w0 w : World} {base : Nat} {e : TypeId} {n c : Nat} {A : Option Addr} {xs : List Value} (h : w.ownsRow base e 1 (.slice A n c) n xs) (hb : w0.heap.size ≤ base) : Fr w0 A n c := ⟨Fresh.own h hb, own_cap h, own_max h⟩
theorem Fr.up {w w' : World} {A : Option Addr} {n c : Nat} (h : Fr w' A n c) (hle : w.heap.size ≤ w'.heap.size) : Fr w A n c := ⟨h.f.up hle, h.le, h.mx⟩
/-- the call hands back a list of bytes. -/
def GivesB (w : World) (l : List UInt8) (e : Ending) (w' : World) : Prop := ∃ A c, e = .returned (.slice A l.length c) ∧ Rd w' bv A l ∧ Fr w A l.length c ∧ Below w.heap.size w w'
/-- the call hands back a list of bytes; nothing is said of its capacity. -/
def GivesBw (w : World) (l : List UInt8) (e : Ending) (w' : World) : Prop := ∃ A c, e = .returned (.slice A l.length c) ∧ Rd w' bv A l ∧ Fresh w A ∧ Below w.heap.size w w'
/-- a list of bytes, and a fault. -/
def GivesBF (w : World) (l : List UInt8) (f : Int × Int) (e : Ending) (w' : World) : Prop := ∃ A c, e = .returned (.tuple #[.slice A l.length c, .agg #[.int .i64 f.1, .int .i64 f.2]]) ∧ Rd w' bv A l ∧ Fr w A l.length c ∧ Below w.heap.size w w'
theorem add_zero' (a : Addr) : a.add 0 = a := by simp [Addr.add]
section
variable {w : World} {base : Nat} {A : Option Addr} {c : Nat} {l r : List UInt8}
theorem string_lies {t u ty e : TypeId} {P : Program} (i : TypeInfo) (ht : P.underlying t = some (.slice e)) (hu : P.underlying u = some .string) (hi : P.info? e = some i) (hz : i.zero = some (.int .u8 0)) (hsize : i.size = 1) (hby : i.bytes = 1)
    {v v' : Value} {n : Nat} {xs : List Value} {w' : World} (hown : w.ownsRow base e 1 v n xs) (b : ByteArray) (hb : 0 < b.size) (h48 : n + b.size ≤ 140737488355328) (hr : (Builtin.append_ #[t, u] ty #[v, .string b]).run P w = .ok v' w') :
    v'.ownBlock = v.ownBlock ∨ v'.ownBlock = some w.heap.size := by
  have hxl : xs.length = n := by simpa using hown.1
  rcases hown.2 with ⟨rfl, rfl⟩ | ⟨g, cap, cur, rfl, hbg, hg, hnc, hcm, hcs, htake⟩
  · have h := run_append_nil_string (P := P) w t u ty e i (.int .u8 0) ht hu hi hz b hb (by omega) (by rw [hby]; omega)
    rw [h] at hr
    injection hr with h1 h2
    subst h1
    exact .inr rfl
  · by_cases hroom : n + b.size ≤ cap
    · have h := Lib.run_append_room_string (P := P) w t u ty e i ht hu hi hsize g n cap cur hg b hroom (by omega)
      rw [h] at hr
      injection hr with h1 h2
      subst h1
      exact .inl rfl
    · have h := Lib.run_append_grow_string (P := P) w t u ty e i (.int .u8 0) ht hu hi hz ⟨g, 0, none⟩ n cap xs (by rw [hsize]; simpa using hxl) (hown.cells (g := g) rfl) b (by omega) (by omega) (by rw [hby]; exact growslice_fits (by omega) (by omega))
      rw [h] at hr
      injection hr with h1 h2
      subst h1
      exact .inr rfl
/-- append of a string's bytes, for the walk. -/
theorem wpList_appS {ops : Array Oper} {rest : List Oper} {o : Oper} {a : Act} {Q : Exit → Act → World → Prop} (hw : Region.wanted o (yielded ops a.tmps) = true) (s x : Operand)
    (ho : o.op = .call { callee := .builtin .append, args := #[s, x], argTypes := #[22, 9] }) (b : ByteArray)
    (hs : a.eval s = .slice A l.length c) (hown : w.ownsRow base 5 1 (.slice A l.length c) l.length (l.map bv)) (hxv : a.eval x = .string b) (hb : b.data.toList = r) (hb0 : 0 < r.length) (h48 : l.length + r.length ≤ 140737488355328) (hbase : base ≤ w.heap.size)
    (h : ∀ A' c' w', w'.ownsRow base 5 1 (.slice A' (l ++ r).length c') (l ++ r).length ((l ++ r).map bv) → w.grownBy w' (Value.slice A l.length c).ownBlock → ((Value.slice A' (l ++ r).length c').ownBlock = (Value.slice A l.length c).ownBlock ∨ (Value.slice A' (l ++ r).length c').ownBlock = some w.heap.size) → wpList Tryd.prog ops Q rest (a.put o.dst (.slice A' (l ++ r).length c')) w') :
    wpList Tryd.prog ops Q (o :: rest) a w := by
  refine wpList_step fun K hK => ?_
  rw [if_pos hw]
  obtain ⟨i0, hi0, hz0, hz1, hz2⟩ := info_parts info8
  have hz : b.size = r.length := by rw [← hb]; rfl
  obtain ⟨v', w', hr, h2, h3, _⟩ := Lib.run_append_own_string (P := Tryd.prog) w base 22 9 o.type 5 i0 Tryd.underlying22 Tryd.underlying9 hi0 hz0 hz1 hz2 _ l.length _ hown b (by unfold maxLen; omega) (by omega) hbase
  have h5 := string_lies i0 Tryd.underlying22 Tryd.underlying9 hi0 hz0 hz1 hz2 hown b (by omega) (by omega) hr
  obtain ⟨A', c', rfl⟩ := own_form h2
  have e1 : (l ++ r).length = l.length + b.size := by rw [List.length_append, hz]
  have e2 : (l ++ r).map bv = l.map bv ++ Lib.strCells b := by
    rw [List.map_append, ← hb]
    rfl
  unfold Oper.wp execOp
  simp only [ho, resolve, invoke, builtin, Sem.run_bind, Sem.run_pure, Result.andThen_ok, List.map_toArray, List.map_cons, List.map_nil, hs, hxv, hr]
  rw [← e1] at h5 ⊢
  exact hK _ _ (h A' c' w' (by rw [e1, e2]; exact h2) h3 h5)
end
theorem bapp (a b : List UInt8) : (⟨a.toArray⟩ : ByteArray) ++ ⟨b.toArray⟩ = ⟨(a ++ b).toArray⟩ := by
  apply ByteArray.ext
  simp
theorem rblank_calls (x : UInt8) (w : World) :
    Calls Tryd.prog 64 #[bv x] w fun en w' => en = .returned (.bool (blankC x)) ∧ w = w' := by
  have hv : blankC x = (((x.toNat : Int) == 32) || ((x.toNat : Int) == 9)) := by
    unfold blankC
    rw [Bool.eq_iff_iff]
    simp
    omega
  generalize blankC x = v at *
  rcases tf ((x.toNat : Int) == 32) with q1 | q1
  · rcases tf ((x.toNat : Int) == 9) with q2 | q2
    all_goals
      rw [q1, q2] at hv
      subst hv
      go_enter Tryd.func64, Tryd.ntmps64
      go_wp2
      go_ret
      exact ⟨rfl, rfl⟩
  · rw [q1] at hv
    subst hv
    go_enter Tryd.func64, Tryd.ntmps64
    go_wp2
    go_ret
    exact ⟨rfl, rfl⟩
theorem info9 : (Tryd.prog.info? 9).map (fun i => (i.zero, i.size, i.bytes)) = some (some (.string ⟨#[]⟩), 1, 16) := by kernel_rfl
abbrev uv (u : List UInt8) : Value := .string ⟨u.toArray⟩
theorem uv1 (x : List UInt8) : (uv x).oneCell' = true := rfl
/-- '[]byte(s)', as a list. -/
theorem bytes_of' (l : List UInt8) (w : World) : ∃ cap W, (convert 9 22 (.string ⟨l.toArray⟩)).run Tryd.prog w = .ok (.slice (some ⟨w.heap.size, 0, none⟩) l.length cap) W ∧ Below w.heap.size w W ∧ Rd W bv (some ⟨w.heap.size, 0, none⟩) l := by
  obtain ⟨cap, W, h1, h2, h3, h4, _⟩ := bytes_of ⟨l.toArray⟩ w
  refine ⟨cap, W, h1, h2, fun hn => ⟨_, rfl, h3, fun j x hx => ?_⟩⟩
  rw [add_zero, h4 j (by have := (List.getElem?_eq_some_iff.1 hx).1; exact this)]
  obtain ⟨hj, e⟩ := List.getElem?_eq_some_iff.1 hx
  subst e
  rfl
/-- the address of a part of a list. -/
def partA (A : Option Addr) (c at_ : Nat) : Option Addr := match A with
  | none => none
  | some ad => if c = at_ then some ad else some (ad.add at_)
theorem rd_part {A : Option Addr} {l : List UInt8} {c at_ k : Nat} {W : World} (h : Rd W bv A l) (hc : l.length ≤ c) : Rd W bv (partA A c at_) ((l.drop at_).take k) := by
  cases A with
  | none =>
    intro hn
    have : l = [] := by
      cases l with
      | nil => rfl
      | cons x l => obtain ⟨ad, e, _⟩ := h (by simp); cases e
    subst this
    simp at hn
  | some ad =>
    unfold partA
    dsimp only
    split
    · intro hn
      simp at hn
      omega
    · exact (h.drop at_).take k
end Go.Proofs.YtjgohmfmalcjoaaDoor.TrW
namespace Go.Proofs.YtjgohmfmalcjoaaDoor.Tr
open Go.RowKit Go.Proofs.YtjgohmfmalcjoaaDoor.Base Go.Proofs.YtjgohmfmalcjoaaDoor.Tr
set_option linter.unusedVariables false
set_option linter.unusedSimpArgs false
theorem ib_bd (x : UInt8) : ∀ l : List UInt8, -1 ≤ Lib.indexByte l x ∧ Lib.indexByte l x < l.length
  | [] => by simp [Lib.indexByte]
  | b :: l => by
    have := ib_bd x l
    unfold Lib.indexByte
    rw [List.length_cons]
    split
    · omega
    · split
      · omega
      · omega
end Go.Proofs.YtjgohmfmalcjoaaDoor.Tr
namespace Go.Proofs.YtjgohmfmalcjoaaDoor.TrW
open Go.RowKit Go.Proofs.YtjgohmfmalcjoaaDoor.Base Go.Proofs.YtjgohmfmalcjoaaDoor.Tr
set_option linter.unusedVariables false
set_option linter.unusedSimpArgs false
theorem bytesOf_l (l : List UInt8) : Lib.bytesOf (l.map fun c => (c.toNat : Int)) = l := by
  unfold Lib.bytesOf
  rw [List.map_map]
  conv => rhs; rw [← List.map_id l]
  apply List.map_congr_left
  intro x _
  simp
/-- a marked row reads as a list. -/
theorem rd_marked {w : World} {l : List UInt8} {m : Nat × Nat} : Rd (w.alloc (.cells (l.map bv).toArray 5 m)) bv (some ⟨w.heap.size, 0, none⟩) l := fun _ => by
  refine ⟨_, rfl, by simp, fun j x hx => ?_⟩
  rw [add_zero, cell_of_row _ _ j _ _ _ (heap_alloc_new w _)]
  simp [hx]
theorem spot_none {w : World} {a : Addr} {v : Value} (h : w.cell? a = some v) : a.spot = none := by
  unfold World.cell? at h
  split at h
  · cases hs : a.spot with
    | none => rfl
    | some k => rw [hs] at h; simp at h
  · cases h
theorem at_of_rd {w : World} {A : Option Addr} {l : List UInt8} (h : Rd w bv A l) : Lib.BytesAt w A l.length l := fun hn => by
  obtain ⟨ad, e, _, hc⟩ := h hn
  have h0 := hc 0 _ (List.getElem?_eq_getElem hn)
  have hs : ad.spot = none := by
    have := spot_none h0
    simpa [Addr.add] using this
  obtain ⟨b, off, sp⟩ := ad
  simp only at hs
  subst hs
  refine ⟨b, off, e, fun i hi => ?_⟩
  have := hc i _ (List.getElem?_eq_getElem hi)
  have e2 : (⟨b, off, none⟩ : Addr).add i = ⟨b, off + i, none⟩ := by
    unfold Addr.add
    split
    · rename_i h0; subst h0; rfl
    · rfl
  rw [e2] at this
  rw [this]
  simp [List.getElem?_eq_getElem hi]
theorem rd_all {w : World} {A : Option Addr} {l : List UInt8} (h : Rd w bv A l) {k : Nat} (hk : k < l.length) : ∃ ad, A = some ad ∧ ∀ (W : World) (hb : Below w.heap.size w W) (m : Nat) (hm : m < l.length), W.cell? (ad.add m) = some (bv l[m]) := by
  obtain ⟨ad, e, _, _⟩ := h.at_ hk
  refine ⟨ad, e, fun W hb m hm => ?_⟩
  obtain ⟨ad', e', _, hc⟩ := (h.bel hb).at_ hm
  rw [e] at e'
  injection e' with e'
  subst e'
  exact hc
theorem res_tt {P : Program} {fn : Func} {u v : Tmp} {tmps : Array Value} {w : World} (h : fn.results = #[.tmp u, .tmp v]) : (results fn tmps).run P w = .ok (.tuple #[tmps.getD u undef, tmps.getD v undef]) w := by
  simp only [results, h]
  simp [Sem.run_bind, Result.andThen]
theorem res_ttt {P : Program} {fn : Func} {u v x : Tmp} {tmps : Array Value} {w : World} (h : fn.results = #[.tmp u, .tmp v, .tmp x]) : (results fn tmps).run P w = .ok (.tuple #[tmps.getD u undef, tmps.getD v undef, tmps.getD x undef]) w := by
  simp only [results, h]
  simp [Sem.run_bind, Result.andThen]
theorem info3 : (Tryd.prog.info? 3).map (fun i => (i.zero, i.size, i.bytes)) = some (some (.int .i64 0), 1, 8) := by kernel_rfl
theorem iv1 (x : Int) : (iv x).oneCell' = true := rfl
/-- the length of a string. -/
def lenS : Value → Nat
  | .string s => s.size
  | _ => 0
theorem ext_take (s : List UInt8) (k : Nat) : (⟨s.toArray⟩ : ByteArray).extract 0 k = ⟨(s.take k).toArray⟩ := by
  apply ByteArray.ext
  simp
theorem ext_drop (s : List UInt8) (k : Nat) : (⟨s.toArray⟩ : ByteArray).extract k s.length = ⟨(s.drop k).toArray⟩ := by
  apply ByteArray.ext
  simp
  exact List.take_of_length_le (by simp)
end Go.Proofs.YtjgohmfmalcjoaaDoor.TrW
namespace Go.Proofs.YtjgohmfmalcjoaaDoor.Tr
open Go.RowKit Go.Proofs.YtjgohmfmalcjoaaDoor.Base Go.Proofs.YtjgohmfmalcjoaaDoor.Tr
set_option linter.unusedVariables false
set_option linter.unusedSimpArgs false
theorem trim_take (l cs : List UInt8) : Lib.trimRightS l cs = l.take (Lib.trimRightS l cs).length := by
  have h : Lib.trimRightS l cs <+: l := by
    unfold Lib.trimRightS
    have := (List.dropWhile_suffix (l := l.reverse) (cs.contains ·)).reverse
    rwa [List.reverse_reverse] at this
  exact (List.prefix_iff_eq_take.1 h)
theorem trim_len (l cs : List UInt8) : (Lib.trimRightS l cs).length ≤ l.length := by
  have := trim_take l cs
  have h2 := congrArg List.length this
  rw [List.length_take] at h2
  omega
theorem trimR_snoc (l : List UInt8) (x : UInt8) : Lib.trimRightS (l ++ [x]) [32, 9] = if blankC x = true then Lib.trimRightS l [32, 9] else l ++ [x] := by
  unfold Lib.trimRightS
  rw [List.reverse_append, List.reverse_singleton, List.singleton_append, List.dropWhile_cons]
  have e : ([32, 9] : List UInt8).contains x = blankC x := by
    unfold blankC
    rw [Bool.eq_iff_iff]
    simp [← UInt8.toNat_inj]
  rw [e]
  split
  · rfl
  · simp
theorem trimR_nil : Lib.trimRightS ([] : List UInt8) [32, 9] = [] := rfl
theorem ib_app {x : UInt8} : ∀ {a : List UInt8} (b : List UInt8), (∀ y ∈ a, y ≠ x) → Lib.indexByte (a ++ x :: b) x = (a.length : Int)
  | [], b, _ => by simp [Lib.indexByte]
  | y :: a, b, h => by
    have ih := ib_app (a := a) b (fun z hz => h z (by simp [hz]))
    have hy : (y == x) = false := by simpa using h y (by simp)
    rw [List.cons_append, Lib.indexByte]
    simp only [hy, ih, List.length_cons]
    simp
theorem ib_none {x : UInt8} : ∀ {a : List UInt8}, (∀ y ∈ a, y ≠ x) → Lib.indexByte a x = -1
  | [], _ => rfl
  | y :: a, h => by
    have ih := ib_none (a := a) (fun z hz => h z (by simp [hz]))
    have hy : (y == x) = false := by simpa using h y (by simp)
    rw [Lib.indexByte]
    simp [hy, ih]
theorem ib_spec (x : UInt8) : ∀ l : List UInt8, (∃ k, ∃ hk : k < l.length, Lib.indexByte l x = (k : Int) ∧ l[k] = x ∧ ∀ j (hj : j < l.length), j < k → l[j] ≠ x) ∨ (Lib.indexByte l x = -1 ∧ ∀ j (hj : j < l.length), l[j] ≠ x)
  | [] => .inr ⟨rfl, fun j hj => by simp at hj⟩
  | b :: l => by
    by_cases hb : b = x
    · refine .inl ⟨0, by simp, ?_, hb, fun j _ hj => by omega⟩
      unfold Lib.indexByte
      simp [hb]
    · have hb' : ¬ (b == x) = true := by simpa using hb
      rcases ib_spec x l with ⟨k, hk, h1, h2, h3⟩ | ⟨h1, h2⟩
      · refine .inl ⟨k + 1, by simpa using hk, ?_, by simpa using h2, fun j hj hjk => ?_⟩
        · unfold Lib.indexByte
          rw [h1, if_neg hb', if_neg (fun h => by have := eq_of_beq h; omega)]
          rfl
        · cases j with
          | zero => exact hb
          | succ j => exact h3 j (by simpa using hj) (by omega)
      · refine .inr ⟨?_, fun j hj => ?_⟩
        · unfold Lib.indexByte
          rw [h1, if_neg hb', if_pos (by decide)]
        · cases j with
          | zero => exact hb
          | succ j => exact h2 j (by simpa using hj)
/-- the bytes from k to t. -/
def seg (l : List UInt8) (k t : Nat) : List UInt8 := (l.drop k).take (t - k)
theorem seg_len {l : List UInt8} {k t : Nat} (h : t ≤ l.length) : (seg l k t).length = t - k := by unfold seg; rw [List.length_take, List.length_drop]; omega
theorem seg_self (l : List UInt8) (k : Nat) : seg l k k = [] := by unfold seg; simp
theorem seg_snoc {l : List UInt8} {k t : Nat} (hk : k ≤ t) (h : t < l.length) : seg l k (t + 1) = seg l k t ++ [l[t]] := by
  unfold seg
  rw [show t + 1 - k = (t - k) + 1 by omega, List.take_succ_eq_append_getElem (by rw [List.length_drop]; omega), List.getElem_drop]
  simp only [show k + (t - k) = t by omega]
theorem seg_cons {l : List UInt8} {k t : Nat} (hk : k < t) (h : t ≤ l.length) : seg l k t = l[k]'(by omega) :: seg l (k + 1) t := by
  unfold seg
  rw [List.drop_eq_getElem_cons (by omega), show t - k = (t - (k + 1)) + 1 by omega, List.take_succ_cons]
end Go.Proofs.YtjgohmfmalcjoaaDoor.Tr
/- General: bytes.IndexByte; bytes.Index and bytes.Cut at one byte. -/
namespace Go.Proofs.YtjgohmfmalcjoaaDoor.TrW
open Go.RowKit Go.Proofs.YtjgohmfmalcjoaaDoor.Base Go.Proofs.YtjgohmfmalcjoaaDoor.Tr
set_option linter.unusedVariables false
set_option linter.unusedSimpArgs false
theorem ib_calls (a : Addr) (l : List UInt8) (c : Nat) (x : UInt8) (w : World) (h : Rd w bv (some a) l) :
    Calls Tryd.prog 138 #[.slice (some a) l.length c, bv x] w fun e w' => e = .returned (.int .i64 (Lib.indexByte l x)) ∧ w = w' := by
  have := Any.bytes_IndexByte_at Tryd.laysIB a l.length c (l.map fun c => (c.toNat : Int)) (x.toNat : Int) w (by simp) (fun i hi => by
    obtain ⟨ad, e, _, hc⟩ := h.at_ hi
    injection e with e
    subst e
    rw [hc]
    simp [List.getElem?_eq_getElem hi])
  rw [bytesOf_l] at this
  refine this.mono ?_
  rintro e w' ⟨rfl, rfl⟩
  refine ⟨?_, rfl⟩
  simp
set_option maxRecDepth 20000 in
theorem index1_calls (ad : Addr) (l : List UInt8) (c g : Nat) (x : UInt8) (w : World) (h : Rd w bv (some ad) l) (hg : w.cell? ⟨g, 0, none⟩ = some (bv x)) :
    Calls Tryd.prog 120 #[.slice (some ad) l.length c, .slice (some ⟨g, 0, none⟩) 1 1] w fun e w' => e = .returned (.int .i64 (Lib.indexByte l x)) ∧ w = w' := by
  have hI := ib_calls ad l c x w h
  have HI := Lib.hid hI
  clear hI h
  go_enter Tryd.func120, Tryd.ntmps120
  go_wp2_with (go_at_call 138; ((with_reducible refine HI.out.mono ?_); rintro e w' ⟨rfl, rfl⟩))
  go_ret
  exact ⟨rfl, rfl⟩
set_option maxRecDepth 20000 in
set_option maxHeartbeats 1000000 in
theorem cut_found (ad : Addr) (l : List UInt8) (c g k : Nat) (x : UInt8) (w W0 : World) (h0 : Rd W0 bv (some ad) l) (h : Rd w bv (some ad) l) (hg : w.cell? ⟨g, 0, none⟩ = some (bv x)) (hc : l.length ≤ c) (hc63 : c ≤ 9223372036854775807) (hk : Lib.indexByte l x = (k : Int)) :
    Calls Tryd.prog 97 #[.slice (some ad) l.length c, .slice (some ⟨g, 0, none⟩) 1 1] w fun e w' => ∃ A2, e = .returned (.tuple #[.slice (some ad) k c, .slice A2 (l.length - (k + 1)) (c - (k + 1)), .bool true]) ∧ Rd W0 bv A2 (l.drop (k + 1)) ∧ Below w.heap.size w w' := by
  have hrd : Rd W0 bv (if c = k + 1 then some ad else some (ad.add (k + 1))) (l.drop (k + 1)) := by
    split
    · intro hn
      simp at hn
      omega
    · exact h0.drop _
  have HRD := Lib.hid hrd
  clear hrd
  have hI := index1_calls ad l c g x w h hg
  rw [hk] at hI
  have hb := ib_bd x l
  rw [hk] at hb
  have HI := Lib.hid hI
  have k0 : (0 : Int) ≤ (k : Int) := by omega
  have k1 : (k : Int) ≤ (c : Int) := by omega
  have k2 : (k : Int) + 1 ≤ (l.length : Int) := by omega
  have k3 : IntKind.i64.wrap ((k : Int) + 1) = (k : Int) + 1 := i64_id (by omega)
  have k4 : (0 : Int) ≤ (k : Int) + 1 := by omega
  have k5 : (k : Int) + 1 ≤ (c : Int) := by omega
  have k6 : ((k : Int) + 1).toNat = k + 1 := by omega
  have k7 : (l.length : Int) ≤ (c : Int) := by omega
  clear hI h h0 hb hk hg
  go_enter Tryd.func97, Tryd.ntmps97
  go_upto_region 3 with (go_at_call 120; ((with_reducible refine HI.out.mono ?_); rintro e w' ⟨rfl, rfl⟩))
  refine wp_region_bel (by kernel_rfl) (by kernel_rfl) ?_
  repeat (go_big_quiet_step (fail))
  refine wpQuiet_nil ?_
  rintro _ ⟨s0, rfl⟩
  have hb2 := Lib.hid s0.below
  generalize s0.w = w2 at *
  clear s0
  rcases Nat.lt_or_ge (k + 1) c with hck | hck
  · have hne : ¬ c = k + 1 := by omega
    have hrd := HRD.out
    rw [if_neg hne] at hrd
    have HRD2 := Lib.hid hrd
    clear HRD hrd
    go_wp2
    all_goals first
      | exact bodyPost_ret (res_ttt Tryd.results97) rfl ⟨_, rfl, HRD2.out, hb2.out⟩
      | (exfalso; omega)
  · have hck2 : c = k + 1 := by omega
    subst hck2
    have hrd := HRD.out
    rw [if_pos rfl] at hrd
    have HRD2 := Lib.hid hrd
    clear HRD hrd
    go_wp2
    all_goals first
      | exact bodyPost_ret (res_ttt Tryd.results97) rfl ⟨some ad, by rw [Nat.sub_self]; rfl, HRD2.out, hb2.out⟩
      | (exfalso; omega)
set_option maxRecDepth 20000 in
theorem cut_none (ad : Addr) (l : List UInt8) (c g : Nat) (x : UInt8) (w : World) (h : Rd w bv (some ad) l) (hg : w.cell? ⟨g, 0, none⟩ = some (bv x)) (hk : Lib.indexByte l x = -1) :
    Calls Tryd.prog 97 #[.slice (some ad) l.length c, .slice (some ⟨g, 0, none⟩) 1 1] w fun e w' => e = .returned (.tuple #[.slice (some ad) l.length c, .slice none 0 0, .bool false]) ∧ Below w.heap.size w w' := by
  have hI := index1_calls ad l c g x w h hg
  rw [hk] at hI
  have HI := Lib.hid hI
  clear hI h hk hg
  go_enter Tryd.func97, Tryd.ntmps97
  go_wp2_with (go_at_call 120; ((with_reducible refine HI.out.mono ?_); rintro e w' ⟨rfl, rfl⟩))
  exact bodyPost_ret (res_ttt Tryd.results97) rfl ⟨rfl, Below.refl _ _⟩
end Go.Proofs.YtjgohmfmalcjoaaDoor.TrW
