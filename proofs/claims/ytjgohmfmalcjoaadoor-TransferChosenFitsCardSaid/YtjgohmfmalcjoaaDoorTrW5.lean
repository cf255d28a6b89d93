import Derived.Test.YtjgohmfmalcjoaaDoorMc
import Derived.Test.YtjgohmfmalcjoaaDoorMd
import Derived.Test.YtjgohmfmalcjoaaDoorBase7
import Derived.Lib.SliceRun
/- Walks: slices.Clone at bytes; encoders that leave bytes as they are. -/
namespace Go.Proofs.YtjgohmfmalcjoaaDoor.TrW
open Go.RowKit Go.Proofs.YtjgohmfmalcjoaaDoor.Base Go.Proofs.YtjgohmfmalcjoaaDoor.Tr
set_option linter.unusedVariables false
set_option linter.unusedSimpArgs false
set_option maxHeartbeats 1000000 in
set_option maxRecDepth 20000 in
theorem clone_calls (A : Option Addr) (l : List UInt8) (c : Nat) (w : World) (h : Rd w bv A l) (hl : l.length ≤ 140737488355328) :
    Calls Tryd.prog 112 #[.slice A l.length c] w (GivesB w l) := by
  have hu22 := Tryd.underlying22
  have hn := fun (w : World) (a : Option Addr) (n c : Nat) => Lib.run_eql_slice_nil (P := Tryd.prog) w 22 5 a n c 0 0 hu22
  obtain ⟨i0, hi0, hz0, hz1, hz2⟩ := info_parts info8
  have HI0 := Lib.hid hi0
  have HZ0 := Lib.hid hz0
  have HZ1 := Lib.hid hz1
  have HZ2 := Lib.hid hz2
  have HR := Lib.hid h
  clear hi0 hz0 hz1 hz2 h
  cases A with
  | none =>
    obtain rfl : l = [] := by
      cases l with
      | nil => rfl
      | cons x l => obtain ⟨ad, e, _⟩ := HR.out (by simp); cases e
    go_enter Tryd.func112, Tryd.ntmps112
    go_wp2
    go_ret
    exact ⟨none, 0, rfl, Rd.nil, Fr.none _, Below.refl _ _⟩
  | some ad =>
    have h0 : (w.alloc (.cells #[] 5)).ownsRow w.heap.size 5 1 (.slice (some ⟨w.heap.size, 0, none⟩) ([] : List UInt8).length 0) ([] : List UInt8).length (([] : List UInt8).map bv) :=
      ⟨by simp, .inr ⟨w.heap.size, 0, #[], rfl, Nat.le_refl _, heap_alloc_new w _, Nat.le_refl _, Nat.zero_le _, rfl, rfl⟩⟩
    have HN := Lib.hid h0
    clear h0
    go_enter Tryd.func112, Tryd.ntmps112
    go_wp2_with (at_builtin; refine wpList_appG (l := ([] : List UInt8)) (r := l) (A := some ⟨w.heap.size, 0, none⟩) (c := 0) (base := w.heap.size) bv1 (by rfl) _ _ 22 rfl i0 (.int .u8 0) 1 Tryd.underlying22 HI0.out HZ0.out HZ1.out HZ2.out rfl rfl HN.out rfl (HR.out.al _) (by simp; unfold maxLen; omega) (by simp; omega) (by simp) ?_; intro A4 c4 w8 hown hg _; rw [List.nil_append] at hown; rw [List.nil_append])
    go_ret
    exact ⟨A4, c4, rfl, Rd.own hown, Fr.own hown (Nat.le_refl _), (below_al (Below.refl _ _) _).grown hg (by simp) (fun k hk => (HN.out.lt k hk).1)⟩
end Go.Proofs.YtjgohmfmalcjoaaDoor.TrW
