import Derived.Test.YtnjplichhkmmhaaZonW13
import Derived.Test.YtnjplichhkmmhaaMg
/- Walk: the law ZonesOffsetMatchesSpec. -/
namespace Go.Proofs.Ytnjplichhkmmhaa.CalW
open Go.RowKit Go.Proofs.Ytnjplichhkmmhaa.Base Go.Proofs.Ytnjplichhkmmhaa.Cal
set_option linter.unusedVariables false
set_option linter.unusedSimpArgs false

theorem _root_.Go.Proofs.Ytnjplichhkmmhaa.Cal.Zone.fault_or (z : Zone) : z.fault = (0, 0) ∨ (z.fault.1 != 0) = true := by
  unfold Zone.fault
  split
  · exact .inr rfl
  split
  · exact .inr rfl
  split
  · split
    · exact .inl rfl
    · exact .inr rfl
  split
  · exact .inr rfl
  split
  · exact .inr rfl
  split
  · exact .inr rfl
  split
  · exact .inr rfl
  · exact .inl rfl
attribute [local go_sem high] eqA28
set_option maxHeartbeats 4000000 in
set_option maxRecDepth 20000 in
theorem lawoffset_walk (z : Zone) (t : Int) (w : World) (hs : z.name.size ≤ maxLen) (ht : -9223372036854775808 ≤ t) (ht' : t ≤ 9223372036854775807) :
    Calls Try.prog 3 #[zval z, .int .i64 t] w fun e w' => e = .returned (.bool true) ∧ Below w.heap.size w w' := by
  have hV := fun W => zvalidate_calls z W hs
  have hF := fun W => zonefault_calls z W hs
  have hO := fun W => offset_calls z t W hs ht ht'
  have hQ := fun W h => offsetof_calls z t W h ht ht'
  have hX : z.fault ≠ (0, 0) → offR z t = (0, z.fault) := fun h => by unfold offR; rw [if_pos h]
  have hK : z.fault ≠ (0, 0) → (z.fault.1 != 0) = true := fun h => (z.fault_or).resolve_left h
  obtain ⟨nm, st, su, ⟨b0, b1, b2, b3⟩, ⟨e0, e1, e2, e3⟩⟩ := z
  have hu25 := Try.underlying25
  have hu28 := Try.underlying28
  generalize offR ⟨nm, st, su, ⟨b0, b1, b2, b3⟩, ⟨e0, e1, e2, e3⟩⟩ t = v at *
  generalize hk : Zone.fault ⟨nm, st, su, ⟨b0, b1, b2, b3⟩, ⟨e0, e1, e2, e3⟩⟩ = k at *
  have HK := Lib.hid hk
  have HVAL := Lib.hid hV
  have HZF := Lib.hid hF
  have HO := Lib.hid hO
  have HQ := Lib.hid hQ
  have HX := Lib.hid hX
  have HKN := Lib.hid hK
  clear hk hV hF hO hQ hX hK
  go_enter Try.func3, Try.ntmps3
  go_upto_region 1 with fail
  have HZ := Lib.hid (Bk.new w 25 #[.string nm, .int .i64 st, .int .i64 su, .int .i64 b0, .int .i64 b1, .int .i64 b2, .int .i64 b3, .int .i64 e0, .int .i64 e1, .int .i64 e2, .int .i64 e3])
  have HB := Lib.hid (below_al (Below.refl w.heap.size w) (.cells #[.string nm, .int .i64 st, .int .i64 su, .int .i64 b0, .int .i64 b1, .int .i64 b2, .int .i64 b3, .int .i64 e0, .int .i64 e1, .int .i64 e2, .int .i64 e3] 25))
  generalize w.alloc (.cells #[.string nm, .int .i64 st, .int .i64 su, .int .i64 b0, .int .i64 b1, .int .i64 b2, .int .i64 b3, .int .i64 e0, .int .i64 e1, .int .i64 e2, .int .i64 e3] 25) = w0 at *
  have cs := HZ.out.s
  refine wp_region_bel (by kernel_rfl) (by kernel_rfl) ?_
  repeat (go_big_quiet_step ((first | (go_at_call 14; exact bel_bel (zexample_calls _)) | (go_at_call 15; exact bel_bel (HVAL.out _)) | (go_at_call 16; exact bel_bel (HZF.out _)))))
  refine wpQuiet_nil ?_
  rintro _ ⟨s0, rfl⟩
  have hb0 := s0.below
  generalize s0.w = w1 at *
  clear s0 cs
  have KZ := Lib.hid (HZ.out.bel hb0)
  have KB := Lib.hid (below_go HB.out hb0)
  clear HZ HB hb0 w0
  have cz := KZ.out.cell
  go_upto_region 4 with (go_at_call 17; refine (HO.out _).mono ?_; rintro e w2 ⟨rfl, hb⟩)
  have JZ := Lib.hid ((KZ.out.bel hb).al (.cells #[.int .i64 v.2.1, .int .i64 v.2.2] 28))
  have J1 := Lib.hid (Bk.new w2 28 #[.int .i64 v.2.1, .int .i64 v.2.2])
  have JB := Lib.hid (below_al (below_go KB.out hb) (.cells #[.int .i64 v.2.1, .int .i64 v.2.2] 28))
  clear cz KZ KB hb
  generalize w2.heap.size = g1 at *
  generalize w2.alloc (.cells #[.int .i64 v.2.1, .int .i64 v.2.2] 28) = w3 at *
  clear w1 w2
  have cz := JZ.out.cell
  go_upto_region 5 with (go_at_call 16; refine (HZF.out _).mono ?_; rintro e w2 ⟨rfl, hb⟩)
  have KZ := Lib.hid ((JZ.out.bel hb).al (.cells #[.int .i64 k.1, .int .i64 k.2] 28))
  have K1 := Lib.hid ((J1.out.bel hb).al (.cells #[.int .i64 k.1, .int .i64 k.2] 28))
  have K2 := Lib.hid (Bk.new w2 28 #[.int .i64 k.1, .int .i64 k.2])
  have KB := Lib.hid (below_al (below_go JB.out hb) (.cells #[.int .i64 k.1, .int .i64 k.2] 28))
  clear cz JZ J1 JB hb
  generalize w2.heap.size = g2 at *
  generalize w2.alloc (.cells #[.int .i64 k.1, .int .i64 k.2] 28) = w4 at *
  clear w3 w2
  have cz := KZ.out.cell
  have c1 := K1.out.cell
  have c2 := K2.out.cell
  by_cases hk : k = (0, 0)
  · have hq := fun W => HQ.out W hk
    have HQ0 := Lib.hid hq
    subst hk
    clear hq
    go_upto_region 8 with (go_at_call 18; refine (HQ0.out _).mono ?_; rintro e w2 ⟨rfl, hb⟩)
    have J1 := Lib.hid ((K1.out.bel hb).al (.cells #[.int .i64 v.2.1, .int .i64 v.2.2] 28))
    have J3 := Lib.hid (Bk.new w2 28 #[.int .i64 v.2.1, .int .i64 v.2.2])
    have JB := Lib.hid (below_al (below_go KB.out hb) (.cells #[.int .i64 v.2.1, .int .i64 v.2.2] 28))
    clear cz c1 c2 KZ K1 K2 KB hb
    generalize w2.heap.size = g3 at *
    generalize w2.alloc (.cells #[.int .i64 v.2.1, .int .i64 v.2.2] 28) = w5 at *
    clear w4 w2
    have c1 := J1.out.cell
    have c3 := J3.out.cell
    go_wp2
    go_ret
    exact ⟨rfl, by with_reducible repeat (first | exact JB.out | refine below_drew1 ?_ | refine below_drewN ?_ _)⟩
  · have hv := HX.out hk
    have p3 := HKN.out hk
    have HV := Lib.hid hv
    subst hv
    clear hk HX HKN
    go_wp2
    go_ret
    exact ⟨rfl, by with_reducible repeat (first | exact KB.out | refine below_drew1 ?_ | refine below_drewN ?_ _)⟩
end Go.Proofs.Ytnjplichhkmmhaa.CalW
