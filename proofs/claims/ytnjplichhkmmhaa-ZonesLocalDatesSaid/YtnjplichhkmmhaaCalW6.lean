/- Walks: the reference's instants of dates. -/
import Derived.Test.YtnjplichhkmmhaaCalW5
namespace Go.Proofs.Ytnjplichhkmmhaa.CalW
open Go.RowKit Go.Proofs.Ytnjplichhkmmhaa.Base Go.Proofs.Ytnjplichhkmmhaa.Cal
set_option linter.unusedVariables false
set_option linter.unusedSimpArgs false

/-- a date whose sums don't wrap. -/
def FitsR (D : Date) : Prop := 1 ≤ D.y ∧ D.y ≤ 5000 ∧ 1 ≤ D.mo ∧ D.mo ≤ 12 ∧ -1000 ≤ D.d ∧ D.d ≤ 1000 ∧ -1000 ≤ D.h ∧ D.h ≤ 1000 ∧ -1000 ≤ D.mi ∧ D.mi ≤ 1000 ∧ -1000 ≤ D.s ∧ D.s ≤ 1000 ∧ -1000 ≤ D.z ∧ D.z ≤ 1000
set_option maxHeartbeats 1000000 in
set_option maxRecDepth 20000 in
theorem secs_calls (y mo d h mi s z : Int) (w : World) (F : FitsR ⟨y, mo, d, h, mi, s, z⟩) :
    Calls Try.prog 23 #[.agg #[.int .i64 y, .int .i64 mo, .int .i64 d, .int .i64 h, .int .i64 mi, .int .i64 s, .int .i64 z]] w fun e w' => e = .returned (.int .i64 (secs ⟨y, mo, d, h, mi, s, z⟩)) ∧ Below w.heap.size w w' := by
  obtain ⟨f1, f2, f3, f4, f5, f6, f7, f8, f9, f10, f11, f12, f13, f14⟩ := F
  dsimp only at *
  have hb := dnum_bd y mo d f1 (by omega) f3 f4 (by omega) (by omega)
  have b1 := hb.1
  have b2 := hb.2
  clear hb
  have hu := Try.underlying34
  go_enter Try.func23, Try.ntmps23
  go_wp2_with fail
  have B := Bk.new w 34 #[.int .i64 y, .int .i64 mo, .int .i64 d, .int .i64 h, .int .i64 mi, .int .i64 s, .int .i64 z]
  have HB := Lib.hid (below_al (Below.refl w.heap.size w) (.cells #[.int .i64 y, .int .i64 mo, .int .i64 d, .int .i64 h, .int .i64 mi, .int .i64 s, .int .i64 z] 34))
  generalize hw0 : w.alloc (.cells #[.int .i64 y, .int .i64 mo, .int .i64 d, .int .i64 h, .int .i64 mi, .int .i64 s, .int .i64 z] 34) = w0 at *
  generalize hg : w.heap.size = g at *
  clear hw0
  have HK := Lib.hid B
  clear B
  go_region_held3 (fun w' => w'.cell? ⟨g, 0, none⟩ = some (.int .i64 y) ∧ w'.cell? ⟨g, 1, none⟩ = some (.int .i64 mo) ∧ w'.cell? ⟨g, 2, none⟩ = some (.int .i64 d) ∧ w'.cell? ⟨g, 3, none⟩ = some (.int .i64 h) ∧ w'.cell? ⟨g, 4, none⟩ = some (.int .i64 mi) ∧ w'.cell? ⟨g, 5, none⟩ = some (.int .i64 s) ∧ w'.cell? ⟨g, 6, none⟩ = some (.int .i64 z)) (first | exact (HK.out.dr).c7 | exact ((Bk.bel (HK.out.dr) hb)).c7) ((go_at_call 48; refine (dnum_calls y mo d _ f1 f2 f3 f4 (by omega) (by omega)).mono ?_; rintro e w1 ⟨rfl, hb⟩))
  go_wp2
  go_ret
  refine ⟨ret_int ?_, by subst hg; exact below_go (below_drew1 HB.out) hb⟩
  simp (disch := omega) only [i64_id]
  unfold secs
  dsimp only
  omega
end Go.Proofs.Ytnjplichhkmmhaa.CalW
