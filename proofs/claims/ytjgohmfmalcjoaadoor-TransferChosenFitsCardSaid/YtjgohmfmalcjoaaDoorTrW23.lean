import Derived.Test.YtjgohmfmalcjoaaDoorMc
import Derived.Test.YtjgohmfmalcjoaaDoorTrW22
/- Walks: the reference's lines of base64. -/
namespace Go.Proofs.YtjgohmfmalcjoaaDoor.TrW
open Go.RowKit Go.Proofs.YtjgohmfmalcjoaaDoor.Base Go.Proofs.YtjgohmfmalcjoaaDoor.Tr
set_option linter.unusedVariables false
set_option linter.unusedSimpArgs false
set_option maxHeartbeats 2000000 in
set_option maxRecDepth 20000 in
theorem lines_calls (A : Option Addr) (l : List UInt8) (c : Nat) (w : World) (h : Rd w bv A l) (hl : l.length ≤ 100000) :
    Calls Tryd.prog 23 #[.slice A l.length c] w (GivesB w (lines64 l)) := by
  have hC := chars_calls A l c w h hl
  have hv : lines64 l = linesF ((chars64 l).length + 1) (chars64 l) [] := rfl
  have hcl := chars64_len l
  generalize lines64 l = v at *
  generalize chars64 l = s0 at *
  have HC := Lib.hid hC
  have HV := Lib.hid hv.symm
  obtain ⟨i0, hi0, hz0, hz1, hz2⟩ := info_parts info8
  have HI0 := Lib.hid hi0
  have HZ0 := Lib.hid hz0
  have HZ1 := Lib.hid hz1
  have HZ2 := Lib.hid hz2
  have hs0 : s0.length ≤ 200000 := by omega
  clear hi0 hz0 hz1 hz2 hC hv h hcl
  go_enter Tryd.func23, Tryd.ntmps23
  go_upto_region 3 with (go_at_call 43; ((with_reducible refine HC.out.mono ?_); rintro en w1 ⟨rfl, hb1⟩; skip))
  have HB1 := Lib.hid hb1
  clear hb1 HC
  go_loopw [3, 4] (fun s3 s4 wr => ∃ (n : Nat) (s out : List UInt8) (A2 : Option Addr) (c2 : Nat), s3 = .string ⟨s.toArray⟩ ∧ s4 = .slice A2 out.length c2 ∧ s.length ≤ 200000 ∧ Hid (s.length ≤ 76 * n) ∧ Hid (out.length + 2 * s.length ≤ 400000) ∧ Hid (linesF (n + 1) s out = v) ∧ Hid (Ow bv 5 w1 wr out A2 c2)) (fun s3 _ _ => lenS s3)
  case atStart => exact ⟨s0.length, s0, [], none, 0, rfl, rfl, hs0, Lib.hid (by omega), Lib.hid (by simp; omega), HV, Lib.hid (Ow.nil w1)⟩
  case round =>
    obtain ⟨n, s, out, A2, c2, rfl, rfl, hsl, HN, HSU, HF, O⟩ := hrel
    have hf := HF.out
    unfold linesF at hf
    by_cases hlt : 76 < s.length
    · rw [if_pos hlt] at hf
      have g1 : (76 : Int) < (s.length : Int) := by omega
      have hx1 := ext_take s 76
      have hx2 := ext_drop s 76
      have hx3 : (s.take 76).length = 76 := by rw [List.length_take]; omega
      obtain ⟨n, rfl⟩ : ∃ m, n = m + 1 := ⟨n - 1, by have := HN.out; omega⟩
      have HF2 := Lib.hid hf
      have HX3 := Lib.hid hx3
      clear hf HF hx3
      go_wp2_with (first
        | (at_builtin; refine wpList_appS (l := out) (r := s.take 76) (by rfl) _ _ rfl _ rfl O.out.own rfl rfl (by have := HX3.out; omega) (by have := HX3.out; have := HSU.out; omega) O.out.b.size ?_; intro A4 c4 w4 hown hg _; have hod : (out ++ s.take 76).length = out.length + 76 := (by rw [List.length_append, HX3.out]); generalize out ++ s.take 76 = od at *; have HOD := Lib.hid hod; have T := Lib.hid (O.out.app hg hown); clear O hown hg hod; have O := T; clear T)
        | (at_builtin; refine wpList_appG (f := bv) (l := od) (r := [13, 10]) bv1 (by rfl) _ _ 22 rfl i0 (.int .u8 0) 1 Tryd.underlying22 HI0.out HZ0.out HZ1.out HZ2.out rfl rfl (O.out.al _).own rfl (rd_new (r := [13, 10]) (Bk.new _ _ _) rfl) (by show od.length + 2 ≤ _; have := HOD.out; have := HSU.out; unfold maxLen; omega) (by show (od.length + 2) * 1 ≤ _; have := HOD.out; have := HSU.out; omega) (O.out.al _).b.size ?_; intro A5 c5 w5 hown hg _; have T := Lib.hid ((O.out.al _).app hg hown); clear O hown hg; have O := T; clear T))
      exact ⟨⟨n, s.drop 76, od ++ [13, 10], A5, c5, rfl, by simp, by rw [List.length_drop]; omega, Lib.hid (by rw [List.length_drop]; have := HN.out; omega), Lib.hid (by rw [List.length_append, List.length_drop]; have := HOD.out; have := HSU.out; simp only [List.length_cons, List.length_nil]; omega), HF2, O⟩, by
        have e1 : (⟨(s.drop 76).toArray⟩ : ByteArray).size = (s.drop 76).length := rfl
        have e2 : (⟨s.toArray⟩ : ByteArray).size = s.length := rfl
        have e3 : (s.drop 76).length < s.length := by rw [List.length_drop]; omega
        simp [lenS]
        omega⟩
    · rw [if_neg hlt] at hf
      have g1 : (s.length : Int) ≤ 76 := by omega
      by_cases hs : s.length = 0
      · rw [if_pos hs] at hf
        obtain rfl : s = [] := List.eq_nil_of_length_eq_zero hs
        have HF2 := Lib.hid hf
        clear hf HF hs hlt
        go_wp2
        go_ret
        exact ⟨A2, c2, by rw [← HF2.out]; rfl, by rw [← HF2.out]; exact O.out.rd, by rw [← HF2.out]; exact (Fr.own O.out.own (Nat.le_refl _)).up HB1.out.size, below_go HB1.out O.out.b⟩
      · rw [if_neg hs] at hf
        have hsn : s.isEmpty = false := by
          cases s with
          | nil => exact absurd rfl hs
          | cons x s => rfl
        have HF2 := Lib.hid hf
        clear hf HF hlt
        go_wp2_with (first
          | (at_builtin; refine wpList_appS (l := out) (r := s) (by rfl) _ _ rfl _ rfl O.out.own rfl rfl (by omega) (by have := HSU.out; omega) O.out.b.size ?_; intro A4 c4 w4 hown hg _; have hod : (out ++ s).length = out.length + s.length := (List.length_append); generalize out ++ s = od at *; have HOD := Lib.hid hod; have T := Lib.hid (O.out.app hg hown); clear O hown hg hod; have O := T; clear T)
          | (at_builtin; refine wpList_appG (f := bv) (l := od) (r := [13, 10]) bv1 (by rfl) _ _ 22 rfl i0 (.int .u8 0) 1 Tryd.underlying22 HI0.out HZ0.out HZ1.out HZ2.out rfl rfl (O.out.al _).own rfl (rd_new (r := [13, 10]) (Bk.new _ _ _) rfl) (by show od.length + 2 ≤ _; have := HOD.out; have := HSU.out; unfold maxLen; omega) (by show (od.length + 2) * 1 ≤ _; have := HOD.out; have := HSU.out; omega) (O.out.al _).b.size ?_; intro A5 c5 w5 hown hg _; have T := Lib.hid ((O.out.al _).app hg hown); clear O hown hg; have O := T; clear T))
        go_ret
        exact ⟨A5, c5, by rw [← HF2.out]; simp, by rw [← HF2.out]; exact O.out.rd, by rw [← HF2.out]; exact (Fr.own O.out.own (Nat.le_refl _)).up HB1.out.size, below_go HB1.out O.out.b⟩
end Go.Proofs.YtjgohmfmalcjoaaDoor.TrW
