import Derived.Test.YtjgohmfmalcjoaaDoorMc
import Derived.Test.YtjgohmfmalcjoaaDoorTrW20
import Derived.Test.YtjgohmfmalcjoaaDoorTr6
/- Walks: the reference's bits. -/
namespace Go.Proofs.YtjgohmfmalcjoaaDoor.TrW
open Go.RowKit Go.Proofs.YtjgohmfmalcjoaaDoor.Base Go.Proofs.YtjgohmfmalcjoaaDoor.Tr
set_option linter.unusedVariables false
set_option linter.unusedSimpArgs false
/-- the call hands back a list of numbers that it owns. -/
def GivesN (w : World) (l : List Int) (e : Ending) (w' : World) : Prop := ∃ A c, e = .returned (.slice A l.length c) ∧ w'.ownsRow w.heap.size 3 1 (.slice A l.length c) l.length (l.map iv) ∧ Below w.heap.size w w'
theorem sumL_bd8 {b : List Int} (hb : Bit b) (hl : b.length ≤ 8) : 0 ≤ sumL b ∧ sumL b < 256 := by
  have := foldl_bd b 0 hb (by omega)
  refine ⟨this.1, Int.lt_of_lt_of_le this.2 ?_⟩
  have h : b.length = 0 ∨ b.length = 1 ∨ b.length = 2 ∨ b.length = 3 ∨ b.length = 4 ∨ b.length = 5 ∨ b.length = 6 ∨ b.length = 7 ∨ b.length = 8 := by omega
  rcases h with h | h | h | h | h | h | h | h | h <;> rw [h] <;> decide
set_option maxHeartbeats 1000000 in
set_option maxRecDepth 20000 in
theorem sum_calls (A : Option Addr) (l : List Int) (c : Nat) (w : World) (h : Rd w iv A l) (hb : Bit l) (hl : l.length ≤ 8) :
    Calls Tryd.prog 63 #[.slice A l.length c] w fun e w' => e = .returned (.int .i64 (sumL l)) ∧ w = w' := by
  have hbd : ∀ k, 0 ≤ sumL (l.take k) ∧ sumL (l.take k) < 256 := fun k => sumL_bd8 (fun x hx => hb x (List.mem_of_mem_take hx)) (by rw [List.length_take]; omega)
  generalize hv : sumL l = v
  have HV := Lib.hid hv
  have HR := Lib.hid h
  have HBD := Lib.hid hbd
  clear hv h hbd
  go_enter Tryd.func63, Tryd.ntmps63
  go_upto_region 3 with fail
  go_loop [3, 4] (fun s3 s4 => ∃ (k : Nat) (n : Int), s3 = .int .i64 n ∧ s4 = .int .i64 k ∧ k ≤ l.length ∧ Hid (n = sumL (l.take k))) (fun _ s4 => l.length - (intOf s4).toNat)
  case atStart => exact ⟨0, 0, rfl, rfl, by omega, Lib.hid rfl⟩
  case round =>
    obtain ⟨k, n, rfl, rfl, hk, HN⟩ := hrel
    by_cases hlt : k < l.length
    · have i1 : (0 : Int) ≤ (k : Int) := by omega
      have i2 : (k : Int) < (l.length : Int) := by omega
      obtain ⟨ad, rfl, _, ck⟩ := HR.out.at_ hlt
      have hs := sumL_snoc l k hlt
      rw [← HN.out] at hs
      have hb1 := HBD.out k
      rw [← HN.out] at hb1
      obtain ⟨n0, n1⟩ := hb1
      have hx := hb l[k] (List.getElem_mem hlt)
      generalize l[k] = x at *
      have x0 : 0 ≤ x := by omega
      have x1 : x ≤ 1 := by omega
      have HS := Lib.hid hs
      clear hs hx HN
      go_wp2
      go_round
      case rel => exact ⟨k + 1, 2 * n + x, by first | rfl | go_num, by go_num, by omega, Lib.hid HS.out.symm⟩
      case measure => simp [intOf]; omega
    · have e : l.take k = l := List.take_of_length_le (by omega)
      have hn := HN.out
      rw [e, HV.out] at hn
      have HN2 := Lib.hid hn
      clear hn HN e
      go_wp2
      go_ret
      exact ⟨ret_int HN2.out, rfl⟩
set_option maxHeartbeats 4000000 in
set_option maxRecDepth 20000 in
theorem bits_calls (A : Option Addr) (l : List UInt8) (c : Nat) (w : World) (h : Rd w bv A l) (hl : l.length ≤ 100000) :
    Calls Tryd.prog 69 #[.slice A l.length c] w (GivesN w (bitsL l)) := by
  have hu79 := Tryd.underlying79
  have hll := bitsL_len l
  have hsn := fun k hk => bitsL_snoc l k hk
  have HR := Lib.hid h
  have HSN := Lib.hid hsn
  obtain ⟨i0, hi0, hz0, hz1, hz2⟩ := info_parts info3
  have HI0 := Lib.hid hi0
  have HZ0 := Lib.hid hz0
  have HZ1 := Lib.hid hz1
  have HZ2 := Lib.hid hz2
  clear hi0 hz0 hz1 hz2 h hsn
  go_enter Tryd.func69, Tryd.ntmps69
  go_upto_region 3 with fail
  go_loopw [3, 4] (fun s3 s4 wr => ∃ (k : Nat) (out : List Int) (A2 : Option Addr) (c2 : Nat), s3 = .slice A2 out.length c2 ∧ s4 = .int .i64 k ∧ k ≤ l.length ∧ Hid (out = bitsL (l.take k)) ∧ Hid (out.length = 8 * k) ∧ Hid (Ow iv 3 w wr out A2 c2)) (fun _ s4 _ => l.length - (intOf s4).toNat)
  case atStart => exact ⟨0, [], none, 0, rfl, rfl, by omega, Lib.hid rfl, Lib.hid rfl, Lib.hid (Ow.nil w)⟩
  case round =>
    obtain ⟨k, out, A2, c2, rfl, rfl, hk, HU, HOL, O⟩ := hrel
    by_cases hlt : k < l.length
    · have i1 : (0 : Int) ≤ (k : Int) := by omega
      have i2 : (k : Int) < (l.length : Int) := by omega
      obtain ⟨ad, hA, hre⟩ := rd_all HR.out hlt
      cases hA
      have hcell : ∀ W, Below w.heap.size w W → W.cell? (ad.add k) = some (bv l[k]) := fun W hb => hre W hb k hlt
      have hs := HSN.out k hlt
      rw [← HU.out] at hs
      generalize l[k] = x at *
      have HC := Lib.hid hcell
      have HS := Lib.hid hs
      have hx := u8_lt x
      clear hcell hs hre HU
      go_upto_region 6 with fail
      go_loopw [3, 5] (fun s3 s5 wx => ∃ (j : Nat) (o2 : List Int) (A5 : Option Addr) (c5 : Nat), s3 = .slice A5 o2.length c5 ∧ s5 = .int .i64 (7 - (j : Int)) ∧ j ≤ 8 ∧ Hid (o2 = out ++ (bits8 x).take j) ∧ Hid (o2.length ≤ out.length + 8) ∧ Hid (Ow iv 3 w wx o2 A5 c5)) (fun _ s5 _ => (intOf s5 + 1).toNat)
      case atStart => exact ⟨0, out, A2, c2, rfl, rfl, by omega, Lib.hid (by simp), Lib.hid (by omega), O⟩
      case round =>
        clear O
        obtain ⟨j, o2, A5, c5, rfl, rfl, hj, HO2, HOL2, O⟩ := hrel
        have ck := HC.out _ O.out.b
        rcases (show j = 0 ∨ j = 1 ∨ j = 2 ∨ j = 3 ∨ j = 4 ∨ j = 5 ∨ j = 6 ∨ j = 7 ∨ j = 8 by omega) with rfl | rfl | rfl | rfl | rfl | rfl | rfl | rfl | rfl
        · have hbt : (x.toNat : Int) / 128 % 2 = bitAt x 7 := by unfold bitAt; omega
          have HBT := Lib.hid hbt
          clear hbt
          go_wp2_with (at_builtin; refine wpList_appG (f := iv) (l := o2) (r := [_]) iv1 (by rfl) _ _ 77 rfl i0 (.int .i64 0) 8 Tryd.underlying77 HI0.out HZ0.out HZ1.out HZ2.out rfl rfl (O.out.al _).own rfl (rd_new (r := [_]) (Bk.new _ _ _) rfl) (by show o2.length + 1 ≤ _; have := HOL2.out; have := HOL.out; unfold maxLen; omega) (by show (o2.length + 1) * 8 ≤ _; have := HOL2.out; have := HOL.out; omega) (O.out.al _).b.size ?_; intro A6 c6 w6 hown hg _; have T := Lib.hid ((O.out.al _).app hg hown); clear O ck hown hg; have O := T; clear T)
          rw [HBT.out] at O
          exact ⟨⟨1, o2 ++ [bitAt x 7], A6, c6, by simp, by first | rfl | go_num | (apply congrArg; omega), by omega, Lib.hid (by rw [HO2.out, List.append_assoc]; rfl), Lib.hid (by rw [HO2.out]; simp [bits8]), O⟩, by simp [intOf]⟩
        · have hbt : (x.toNat : Int) / 64 % 2 = bitAt x 6 := by unfold bitAt; omega
          have HBT := Lib.hid hbt
          clear hbt
          go_wp2_with (at_builtin; refine wpList_appG (f := iv) (l := o2) (r := [_]) iv1 (by rfl) _ _ 77 rfl i0 (.int .i64 0) 8 Tryd.underlying77 HI0.out HZ0.out HZ1.out HZ2.out rfl rfl (O.out.al _).own rfl (rd_new (r := [_]) (Bk.new _ _ _) rfl) (by show o2.length + 1 ≤ _; have := HOL2.out; have := HOL.out; unfold maxLen; omega) (by show (o2.length + 1) * 8 ≤ _; have := HOL2.out; have := HOL.out; omega) (O.out.al _).b.size ?_; intro A6 c6 w6 hown hg _; have T := Lib.hid ((O.out.al _).app hg hown); clear O ck hown hg; have O := T; clear T)
          rw [HBT.out] at O
          exact ⟨⟨2, o2 ++ [bitAt x 6], A6, c6, by simp, by first | rfl | go_num | (apply congrArg; omega), by omega, Lib.hid (by rw [HO2.out, List.append_assoc]; rfl), Lib.hid (by rw [HO2.out]; simp [bits8]), O⟩, by simp [intOf]⟩
        · have hbt : (x.toNat : Int) / 32 % 2 = bitAt x 5 := by unfold bitAt; omega
          have HBT := Lib.hid hbt
          clear hbt
          go_wp2_with (at_builtin; refine wpList_appG (f := iv) (l := o2) (r := [_]) iv1 (by rfl) _ _ 77 rfl i0 (.int .i64 0) 8 Tryd.underlying77 HI0.out HZ0.out HZ1.out HZ2.out rfl rfl (O.out.al _).own rfl (rd_new (r := [_]) (Bk.new _ _ _) rfl) (by show o2.length + 1 ≤ _; have := HOL2.out; have := HOL.out; unfold maxLen; omega) (by show (o2.length + 1) * 8 ≤ _; have := HOL2.out; have := HOL.out; omega) (O.out.al _).b.size ?_; intro A6 c6 w6 hown hg _; have T := Lib.hid ((O.out.al _).app hg hown); clear O ck hown hg; have O := T; clear T)
          rw [HBT.out] at O
          exact ⟨⟨3, o2 ++ [bitAt x 5], A6, c6, by simp, by first | rfl | go_num | (apply congrArg; omega), by omega, Lib.hid (by rw [HO2.out, List.append_assoc]; rfl), Lib.hid (by rw [HO2.out]; simp [bits8]), O⟩, by simp [intOf]⟩
        · have hbt : (x.toNat : Int) / 16 % 2 = bitAt x 4 := by unfold bitAt; omega
          have HBT := Lib.hid hbt
          clear hbt
          go_wp2_with (at_builtin; refine wpList_appG (f := iv) (l := o2) (r := [_]) iv1 (by rfl) _ _ 77 rfl i0 (.int .i64 0) 8 Tryd.underlying77 HI0.out HZ0.out HZ1.out HZ2.out rfl rfl (O.out.al _).own rfl (rd_new (r := [_]) (Bk.new _ _ _) rfl) (by show o2.length + 1 ≤ _; have := HOL2.out; have := HOL.out; unfold maxLen; omega) (by show (o2.length + 1) * 8 ≤ _; have := HOL2.out; have := HOL.out; omega) (O.out.al _).b.size ?_; intro A6 c6 w6 hown hg _; have T := Lib.hid ((O.out.al _).app hg hown); clear O ck hown hg; have O := T; clear T)
          rw [HBT.out] at O
          exact ⟨⟨4, o2 ++ [bitAt x 4], A6, c6, by simp, by first | rfl | go_num | (apply congrArg; omega), by omega, Lib.hid (by rw [HO2.out, List.append_assoc]; rfl), Lib.hid (by rw [HO2.out]; simp [bits8]), O⟩, by simp [intOf]⟩
        · have hbt : (x.toNat : Int) / 8 % 2 = bitAt x 3 := by unfold bitAt; omega
          have HBT := Lib.hid hbt
          clear hbt
          go_wp2_with (at_builtin; refine wpList_appG (f := iv) (l := o2) (r := [_]) iv1 (by rfl) _ _ 77 rfl i0 (.int .i64 0) 8 Tryd.underlying77 HI0.out HZ0.out HZ1.out HZ2.out rfl rfl (O.out.al _).own rfl (rd_new (r := [_]) (Bk.new _ _ _) rfl) (by show o2.length + 1 ≤ _; have := HOL2.out; have := HOL.out; unfold maxLen; omega) (by show (o2.length + 1) * 8 ≤ _; have := HOL2.out; have := HOL.out; omega) (O.out.al _).b.size ?_; intro A6 c6 w6 hown hg _; have T := Lib.hid ((O.out.al _).app hg hown); clear O ck hown hg; have O := T; clear T)
          rw [HBT.out] at O
          exact ⟨⟨5, o2 ++ [bitAt x 3], A6, c6, by simp, by first | rfl | go_num | (apply congrArg; omega), by omega, Lib.hid (by rw [HO2.out, List.append_assoc]; rfl), Lib.hid (by rw [HO2.out]; simp [bits8]), O⟩, by simp [intOf]⟩
        · have hbt : (x.toNat : Int) / 4 % 2 = bitAt x 2 := by unfold bitAt; omega
          have HBT := Lib.hid hbt
          clear hbt
          go_wp2_with (at_builtin; refine wpList_appG (f := iv) (l := o2) (r := [_]) iv1 (by rfl) _ _ 77 rfl i0 (.int .i64 0) 8 Tryd.underlying77 HI0.out HZ0.out HZ1.out HZ2.out rfl rfl (O.out.al _).own rfl (rd_new (r := [_]) (Bk.new _ _ _) rfl) (by show o2.length + 1 ≤ _; have := HOL2.out; have := HOL.out; unfold maxLen; omega) (by show (o2.length + 1) * 8 ≤ _; have := HOL2.out; have := HOL.out; omega) (O.out.al _).b.size ?_; intro A6 c6 w6 hown hg _; have T := Lib.hid ((O.out.al _).app hg hown); clear O ck hown hg; have O := T; clear T)
          rw [HBT.out] at O
          exact ⟨⟨6, o2 ++ [bitAt x 2], A6, c6, by simp, by first | rfl | go_num | (apply congrArg; omega), by omega, Lib.hid (by rw [HO2.out, List.append_assoc]; rfl), Lib.hid (by rw [HO2.out]; simp [bits8]), O⟩, by simp [intOf]⟩
        · have hbt : (x.toNat : Int) / 2 % 2 = bitAt x 1 := by unfold bitAt; omega
          have HBT := Lib.hid hbt
          clear hbt
          go_wp2_with (at_builtin; refine wpList_appG (f := iv) (l := o2) (r := [_]) iv1 (by rfl) _ _ 77 rfl i0 (.int .i64 0) 8 Tryd.underlying77 HI0.out HZ0.out HZ1.out HZ2.out rfl rfl (O.out.al _).own rfl (rd_new (r := [_]) (Bk.new _ _ _) rfl) (by show o2.length + 1 ≤ _; have := HOL2.out; have := HOL.out; unfold maxLen; omega) (by show (o2.length + 1) * 8 ≤ _; have := HOL2.out; have := HOL.out; omega) (O.out.al _).b.size ?_; intro A6 c6 w6 hown hg _; have T := Lib.hid ((O.out.al _).app hg hown); clear O ck hown hg; have O := T; clear T)
          rw [HBT.out] at O
          exact ⟨⟨7, o2 ++ [bitAt x 1], A6, c6, by simp, by first | rfl | go_num | (apply congrArg; omega), by omega, Lib.hid (by rw [HO2.out, List.append_assoc]; rfl), Lib.hid (by rw [HO2.out]; simp [bits8]), O⟩, by simp [intOf]⟩
        · have hbt : (x.toNat : Int) % 2 = bitAt x 0 := by unfold bitAt; omega
          have HBT := Lib.hid hbt
          clear hbt
          go_wp2_with (at_builtin; refine wpList_appG (f := iv) (l := o2) (r := [_]) iv1 (by rfl) _ _ 77 rfl i0 (.int .i64 0) 8 Tryd.underlying77 HI0.out HZ0.out HZ1.out HZ2.out rfl rfl (O.out.al _).own rfl (rd_new (r := [_]) (Bk.new _ _ _) rfl) (by show o2.length + 1 ≤ _; have := HOL2.out; have := HOL.out; unfold maxLen; omega) (by show (o2.length + 1) * 8 ≤ _; have := HOL2.out; have := HOL.out; omega) (O.out.al _).b.size ?_; intro A6 c6 w6 hown hg _; have T := Lib.hid ((O.out.al _).app hg hown); clear O ck hown hg; have O := T; clear T)
          rw [HBT.out] at O
          exact ⟨⟨8, o2 ++ [bitAt x 0], A6, c6, by simp, by first | rfl | go_num | (apply congrArg; omega), by omega, Lib.hid (by rw [HO2.out, List.append_assoc]; rfl), Lib.hid (by rw [HO2.out]; simp [bits8]), O⟩, by simp [intOf]⟩
        · go_wp2
          exact ⟨⟨k + 1, o2, A5, c5, rfl, by go_num, by omega, Lib.hid (by rw [HS.out, HO2.out]; rfl), Lib.hid (by rw [HO2.out, List.length_append, HOL.out]; show _ + 8 = _; omega), O⟩, by simp [intOf]; omega⟩
    · have e : l.take k = l := List.take_of_length_le (by omega)
      have hu := HU.out
      rw [e] at hu
      have HU2 := Lib.hid hu
      clear hu HU e
      go_wp2
      go_ret
      exact ⟨A2, c2, by rw [← HU2.out]; rfl, by rw [← HU2.out]; exact O.out.own, O.out.b⟩
end Go.Proofs.YtjgohmfmalcjoaaDoor.TrW
