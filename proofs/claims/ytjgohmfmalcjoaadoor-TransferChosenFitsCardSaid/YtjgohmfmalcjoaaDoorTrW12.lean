import Derived.Test.YtjgohmfmalcjoaaDoorMc
import Derived.Test.YtjgohmfmalcjoaaDoorTrW11
import Derived.Test.YtjgohmfmalcjoaaDoorShelfM
import Derived.Lib.SlBytesConst
/- Walks: bytes.IndexByte; hexadecimal digits. -/
namespace Go.Proofs.YtjgohmfmalcjoaaDoor.Tr
def hexUp (c : UInt8) : UInt8 := if 97 ≤ c.toNat ∧ c.toNat ≤ 102 then c - 32 else c
/-- the value of a hexadecimal digit, or -1. -/
def hexV (c : UInt8) : Int := Lib.indexByte [48, 49, 50, 51, 52, 53, 54, 55, 56, 57, 65, 66, 67, 68, 69, 70] (hexUp c)
theorem hexV_bd (c : UInt8) : -1 ≤ hexV c ∧ hexV c ≤ 15 := by
  have := ib_bd (hexUp c) [48, 49, 50, 51, 52, 53, 54, 55, 56, 57, 65, 66, 67, 68, 69, 70]
  unfold hexV
  simp at this
  omega
end Go.Proofs.YtjgohmfmalcjoaaDoor.Tr
namespace Go.Proofs.YtjgohmfmalcjoaaDoor.TrW
open Go.RowKit Go.Proofs.YtjgohmfmalcjoaaDoor.Base Go.Proofs.YtjgohmfmalcjoaaDoor.Tr
set_option linter.unusedVariables false
set_option linter.unusedSimpArgs false
set_option maxRecDepth 20000 in
set_option maxHeartbeats 1000000 in
theorem hex_calls (x : UInt8) (w : World) :
    Calls Tryd.prog 150 #[bv x] w fun e w' => e = .returned (.int .i64 (hexV x)) ∧ Below w.heap.size w w' := by
  have hx := u8_lt x
  have kc := fun (w : World) (C : Array Value) (n c : Nat) => Lib.run_convert_bytes_const (P := Tryd.prog) w 22 5 C n c Tryd.underlying22 Tryd.underlying5
  have hb : ∀ y : UInt8, Calls Tryd.prog 138 #[.slice (some ⟨w.heap.size, 0, none⟩) 16 16, bv y] (w.alloc (.cells #[.int .u8 48, .int .u8 49, .int .u8 50, .int .u8 51, .int .u8 52, .int .u8 53, .int .u8 54, .int .u8 55, .int .u8 56, .int .u8 57, .int .u8 65, .int .u8 66, .int .u8 67, .int .u8 68, .int .u8 69, .int .u8 70] 5 (16, 17))) fun e w' => e = .returned (.int .i64 (Lib.indexByte [48, 49, 50, 51, 52, 53, 54, 55, 56, 57, 65, 66, 67, 68, 69, 70] y)) ∧ (w.alloc (.cells #[.int .u8 48, .int .u8 49, .int .u8 50, .int .u8 51, .int .u8 52, .int .u8 53, .int .u8 54, .int .u8 55, .int .u8 56, .int .u8 57, .int .u8 65, .int .u8 66, .int .u8 67, .int .u8 68, .int .u8 69, .int .u8 70] 5 (16, 17))) = w' := fun y =>
    ib_calls ⟨w.heap.size, 0, none⟩ [48, 49, 50, 51, 52, 53, 54, 55, 56, 57, 65, 66, 67, 68, 69, 70] 16 y _ (rd_marked (l := [48, 49, 50, 51, 52, 53, 54, 55, 56, 57, 65, 66, 67, 68, 69, 70]))
  have hv : hexV x = Lib.indexByte [48, 49, 50, 51, 52, 53, 54, 55, 56, 57, 65, 66, 67, 68, 69, 70] (hexUp x) := rfl
  generalize hexV x = v at *
  by_cases hl : 97 ≤ x.toNat ∧ x.toNat ≤ 102
  · have hu : ((hexUp x).toNat : Int) = (x.toNat : Int) - 32 := by
      unfold hexUp
      rw [if_pos hl, UInt8.toNat_sub_of_le _ _ (by rw [UInt8.le_iff_toNat_le]; show 32 ≤ x.toNat; omega)]
      show ((x.toNat - 32 : Nat) : Int) = _
      omega
    have hb2 := hb (hexUp x)
    rw [← hv] at hb2
    have hby : bv (hexUp x) = .int .u8 ((x.toNat : Int) - 32) := by unfold bv; rw [hu]
    rw [hby] at hb2
    have HB := Lib.hid hb2
    have g1 : 97 ≤ (x.toNat : Int) := by omega
    have g2 : (x.toNat : Int) ≤ 102 := by omega
    clear hb hb2 hv hby hu hl
    go_enter Tryd.func150, Tryd.ntmps150
    go_wp2_with (go_at_call 138; ((with_reducible refine HB.out.mono ?_); rintro e w' ⟨rfl, rfl⟩))
    go_ret
    exact ⟨rfl, below_al (Below.refl _ _) _⟩
  · have hu : hexUp x = x := by unfold hexUp; rw [if_neg hl]
    rw [hu] at hv
    have hb2 := hb x
    rw [← hv] at hb2
    have HB := Lib.hid hb2
    have g : decide (97 ≤ (x.toNat : Int)) = false ∨ (decide (97 ≤ (x.toNat : Int)) = true ∧ decide ((x.toNat : Int) ≤ 102) = false) := by
      by_cases h1 : 97 ≤ x.toNat
      · right; simp; omega
      · left; simp; omega
    clear hb hb2 hv hu hl
    rcases g with g1 | ⟨g1, g2⟩
    all_goals
      go_enter Tryd.func150, Tryd.ntmps150
      go_wp2_with (go_at_call 138; ((with_reducible refine HB.out.mono ?_); rintro e w' ⟨rfl, rfl⟩))
      go_ret
      exact ⟨rfl, below_al (Below.refl _ _) _⟩
end Go.Proofs.YtjgohmfmalcjoaaDoor.TrW
