import Derived.Test.YtjgohmfmalcjoaaDoorMd
import Derived.Test.YtjgohmfmalcjoaaDoorBase7
import Derived.Lib.SliceRun
/- Walks: slices.Clone at bytes; encoders that leave bytes as they are. -/
namespace Go.Proofs.YtjgohmfmalcjoaaDoor.TrW
open Go.RowKit Go.Proofs.YtjgohmfmalcjoaaDoor.Base Go.Proofs.YtjgohmfmalcjoaaDoor.Tr
set_option linter.unusedVariables false
set_option linter.unusedSimpArgs false
theorem info8 : (Tryd.prog.info? 5).map (fun i => (i.zero, i.size, i.bytes)) = some (some (.int .u8 0), 1, 1) := by kernel_rfl
theorem bv1 (x : UInt8) : (bv x).oneCell' = true := rfl
theorem own_max {w : World} {B : Nat} {e : TypeId} {A : Option Addr} {n c : Nat} {xs : List Value} (h : w.ownsRow B e 1 (.slice A n c) n xs) : c ≤ 9223372036854775807 := by
  rcases h.2 with ⟨hv, _⟩ | ⟨g, cap, cur, hv, _, _, _, h4, _⟩
  · cases hv; omega
  · cases hv; unfold maxLen at h4; omega
/-- a slice whose array the call has made, with its capacity. -/
structure Fr (w : World) (A : Option Addr) (n c : Nat) : Prop where
  f : Fresh w A
  le : n ≤ c
  mx : c ≤ 9223372036854775807
instance {w : World} {A : Option Addr} {n c : Nat} : CoeFun (Fr w A n c) (fun _ => ∀ ad, A = some ad → w.heap.size ≤ ad.block) := ⟨fun h => h.f⟩
theorem Fr.none (w : World) : Fr w Option.none 0 0 := ⟨Fresh.none w, Nat.le_refl _, by omega⟩
theorem Fr.own {w0 w : World} {base : Nat} {e : TypeId} {n c : Nat} {A : Option Addr} {xs : List Value} (h : w.ownsRow base e 1 (.slice A n c) n xs) (hb : w0.heap.size ≤ base) : Fr w0 A n c := ⟨Fresh.own h hb, own_cap h, own_max h⟩
theorem Fr.up {w w' : World} {A : Option Addr} {n c : Nat} (h : Fr w' A n c) (hle : w.heap.size ≤ w'.heap.size) : Fr w A n c := ⟨h.f.up hle, h.le, h.mx⟩
/-- the call hands back a list of bytes. -/
def GivesB (w : World) (l : List UInt8) (e : Ending) (w' : World) : Prop := ∃ A c, e = .returned (.slice A l.length c) ∧ Rd w' bv A l ∧ Fr w A l.length c ∧ Below w.heap.size w w'
/-- the call hands back a list of bytes; nothing is said of its capacity. -/
def GivesBw (w : World) (l : List UInt8) (e : Ending) (w' : World) : Prop := ∃ A c, e = .returned (.slice A l.length c) ∧ Rd w' bv A l ∧ Fresh w A ∧ Below w.heap.size w w'
/-- a list of bytes, and a fault. -/
def GivesBF (w : World) (l : List UInt8) (f : Int × Int) (e : Ending) (w' : World) : Prop := ∃ A c, e = .returned (.tuple #[.slice A l.length c, .agg #[.int .i64 f.1, .int .i64 f.2]]) ∧ Rd w' bv A l ∧ Fr w A l.length c ∧ Below w.heap.size w w'
set_option maxHeartbeats 1000000 in
set_option maxRecDepth 20000 in
theorem clone_calls (A : Option Addr) (l : List UInt8) (c : Nat) (w : World) (h : Rd w bv A l) (hl : l.length ≤ 140737488355328) :
    Calls Tryd.prog 112 #[.slice A l.length c] w (GivesB w l) := by
  have hu22 := Tryd.underlying22
  have hn := fun (w : World) (a : Option Addr) (n c : Nat) => Lib.run_eql_slice_nil (P := Tryd.prog) w 22 5 a n c 0 0 hu22
  obtain ⟨i0, hi0, hz0, hz1, hz2⟩ := info_parts info8
  have HI0 := Lib.hid hi0
  have HZ0 := Lib.hid hz0
  have HZ1 := Lib.hid hz1
  have HZ2 := Lib.hid hz2
  have HR := Lib.hid h
  clear hi0 hz0 hz1 hz2 h
  cases A with
  | none =>
    obtain rfl : l = [] := by
      cases l with
      | nil => rfl
      | cons x l => obtain ⟨ad, e, _⟩ := HR.out (by simp); cases e
    go_enter Tryd.func112, Tryd.ntmps112
    go_wp2
    go_ret
    exact ⟨none, 0, rfl, Rd.nil, Fr.none _, Below.refl _ _⟩
  | some ad =>
    have h0 : (w.alloc (.cells #[] 5)).ownsRow w.heap.size 5 1 (.slice (some ⟨w.heap.size, 0, none⟩) ([] : List UInt8).length 0) ([] : List UInt8).length (([] : List UInt8).map bv) :=
      ⟨by simp, .inr ⟨w.heap.size, 0, #[], rfl, Nat.le_refl _, heap_alloc_new w _, Nat.le_refl _, Nat.zero_le _, rfl, rfl⟩⟩
    have HN := Lib.hid h0
    clear h0
    go_enter Tryd.func112, Tryd.ntmps112
    go_wp2_with (at_builtin; refine wpList_appG (l := ([] : List UInt8)) (r := l) (A := some ⟨w.heap.size, 0, none⟩) (c := 0) (base := w.heap.size) bv1 (by rfl) _ _ 22 rfl i0 (.int .u8 0) 1 Tryd.underlying22 HI0.out HZ0.out HZ1.out HZ2.out rfl rfl HN.out rfl (HR.out.al _) (by simp; unfold maxLen; omega) (by simp; omega) (by simp) ?_; intro A4 c4 w8 hown hg _; rw [List.nil_append] at hown; rw [List.nil_append])
    go_ret
    exact ⟨A4, c4, rfl, Rd.own hown, Fr.own hown (Nat.le_refl _), (below_al (Below.refl _ _) _).grown hg (by simp) (fun k hk => (HN.out.lt k hk).1)⟩
end Go.Proofs.YtjgohmfmalcjoaaDoor.TrW
