import Derived.Test.YtjgohmfmalcjoaaDoorTrW24
import Derived.Laws.BitsLemmas
/- Walk: base64.Group. -/
namespace Go.Proofs.YtjgohmfmalcjoaaDoor.Tr
/-- the number of the first k of three bytes. -/
def numTo (p : List UInt8) : Nat → Nat
  | 0 => 0
  | k + 1 => numTo p k * 256 + (p.getD k 0).toNat
theorem numTo3 (p : List UInt8) : numTo p 3 = num3 p := by
  simp only [numTo, num3]
  omega
theorem numTo_bd (p : List UInt8) (k : Nat) (hk : k ≤ 3) : numTo p k < 16777216 ∧ (k < 3 → numTo p k < 65536) := by
  have h0 := (p.getD 0 0).toNat_lt
  have h1 := (p.getD 1 0).toNat_lt
  have h2 := (p.getD 2 0).toNat_lt
  rcases (show k = 0 ∨ k = 1 ∨ k = 2 ∨ k = 3 by omega) with rfl | rfl | rfl | rfl <;> simp only [numTo] <;> omega
end Go.Proofs.YtjgohmfmalcjoaaDoor.Tr
namespace Go.Proofs.YtjgohmfmalcjoaaDoor.Tr
/-- the row of the four characters, k the next place to be filled. -/
def gRow (n k : Nat) (y0 y1 y2 y3 : UInt8) : List UInt8 := [y0, y1, if n < 2 ∧ 2 < k then 61 else y2, if n < 3 ∧ 3 < k then 61 else y3]
end Go.Proofs.YtjgohmfmalcjoaaDoor.Tr
namespace Go.Proofs.YtjgohmfmalcjoaaDoor.TrW
open Go.RowKit Go.Proofs.YtjgohmfmalcjoaaDoor.Base Go.Proofs.YtjgohmfmalcjoaaDoor.Tr
set_option linter.unusedVariables false
set_option linter.unusedSimpArgs false
set_option maxRecDepth 20000 in
set_option maxHeartbeats 4000000 in
theorem group_calls (A : Option Addr) (p : List UInt8) (c : Nat) (w : World) (h : Rd w bv A p) (hl : 1 ≤ p.length) (hl3 : p.length ≤ 3) :
    Calls Tryd.prog 135 #[.slice A p.length c] w (GivesB w (groupL p)) := by
  have hg : groupL p = [let6 (num3 p / 262144), let6 (num3 p / 4096 % 64), if p.length < 2 then 61 else let6 (num3 p / 64 % 64), if p.length < 3 then 61 else let6 (num3 p % 64)] := rfl
  have hbd := fun k hk => numTo_bd p k hk
  have hst : ∀ k, numTo p (k + 1) = numTo p k * 256 + (p.getD k 0).toNat := fun k => rfl
  have h3 := numTo3 p
  generalize groupL p = v at *
  have HR := Lib.hid h
  have HG := Lib.hid hg
  have HBD := Lib.hid hbd
  have HST := Lib.hid hst
  have H3 := Lib.hid h3
  clear h hg hbd hst h3
  have hb := Lib.hid (Below.refl w.heap.size w)
  go_enter Tryd.func135, Tryd.ntmps135
  go_upto_region 3 with fail
  go_loop [3, 7] (fun s3 s7 => ∃ (k : Nat) (n : Int), s3 = .int .i64 n ∧ s7 = .int .i64 k ∧ k ≤ 3 ∧ Hid (n = (numTo p k : Int)) ∧ 0 ≤ n ∧ n < 16777216) (fun _ s7 => 3 - (intOf s7).toNat)
  case atStart => exact ⟨0, 0, rfl, rfl, by omega, Lib.hid rfl, by omega, by omega⟩
  case round =>
    obtain ⟨k, n, rfl, rfl, hk, HN, hn0, hn1⟩ := hrel
    by_cases hlt : k < 3
    · have i1 : (0 : Int) ≤ (k : Int) := by omega
      have i2 : (k : Int) < 3 := by omega
      have hs := HST.out k
      have hb1 := (HBD.out k hk).2 hlt
      have hb2 := (HBD.out (k + 1) (by omega)).1
      have n1 : n < 65536 := by have := HN.out; omega
      by_cases hlen : k < p.length
      · have j2 : (k : Int) < (p.length : Int) := by omega
        obtain ⟨ad, rfl, _, ck⟩ := HR.out.at_ hlen
        have hgd : p.getD k 0 = p[k] := by simp [List.getD, List.getElem?_eq_getElem hlen]
        rw [hgd] at hs
        generalize p[k] = x at *
        have hx := u8_lt x
        have hor : bits .or .i64 (n * 256) (x.toNat : Int) = n * 256 + (x.toNat : Int) := bits_join .i64 63 (by decide) (fun n h0 h1 => i64_id (by omega)) 8 (n * 256) (x.toNat : Int) (by omega) (by omega) (by omega) (by omega) (by omega) (by omega)
        have hw1 : IntKind.i64.wrap (n * 256) = n * 256 := i64_id (by omega)
        have HS : Hid (n * 256 + (x.toNat : Int) = (numTo p (k + 1) : Int)) := Lib.hid (by rw [hs, HN.out]; omega)
        clear hs hgd HN hb1 hb2
        go_wp2
        go_round
        case rel => exact ⟨k + 1, _, rfl, by go_num, by omega, HS, by omega, by have := HS.out; have := (HBD.out (k + 1) (by omega)).1; omega⟩
        case measure => simp [intOf]; omega
      · have j2 : (p.length : Int) ≤ (k : Int) := by omega
        have hgd : p.getD k 0 = 0 := by simp [List.getD, List.getElem?_eq_none (show p.length ≤ k by omega)]
        rw [hgd] at hs
        have hw1 : IntKind.i64.wrap (n * 256) = n * 256 := i64_id (by omega)
        have HS : Hid (n * 256 = (numTo p (k + 1) : Int)) := Lib.hid (by rw [hs, HN.out]; simp)
        clear hs hgd HN hb1 hb2
        go_wp2
        go_round
        case rel => exact ⟨k + 1, _, rfl, by go_num, by omega, HS, by omega, by have := HS.out; have := (HBD.out (k + 1) (by omega)).1; omega⟩
        case measure => simp [intOf]; omega
    · obtain rfl : k = 3 := by omega
      have hN := HN.out
      rw [H3.out] at hN
      have hnb : num3 p < 16777216 := by have := (HBD.out 3 (by omega)).1; rw [H3.out] at this; exact this
      generalize num3 p = m at *
      subst hN
      have l0 := let6_all (m / 262144) (by omega)
      have l1 := let6_all (m / 4096 % 64) (by omega)
      have l2 := let6_all (m / 64 % 64) (by omega)
      have l3 := let6_all (m % 64) (by omega)
      unfold letS at l0 l1 l2 l3
      have a1 : bits .and .i64 ((m : Int) / 4096) 63 = (m : Int) / 4096 % 64 := bits_mask .i64 63 (by decide) (fun n h0 h1 => i64_id (by omega)) 6 (by decide) _ (by omega) (by omega)
      have a2 : bits .and .i64 ((m : Int) / 64) 63 = (m : Int) / 64 % 64 := bits_mask .i64 63 (by decide) (fun n h0 h1 => i64_id (by omega)) 6 (by decide) _ (by omega) (by omega)
      have a3 : bits .and .i64 (m : Int) 63 = (m : Int) % 64 := bits_mask .i64 63 (by decide) (fun n h0 h1 => i64_id (by omega)) 6 (by decide) _ (by omega) (by omega)
      have b0 : (0 : Int) ≤ (m : Int) / 262144 := by omega
      have b1 : (m : Int) / 262144 < 64 := by omega
      have b2 : (0 : Int) ≤ (m : Int) / 4096 % 64 := by omega
      have b3 : (m : Int) / 4096 % 64 < 64 := by omega
      have b4 : (0 : Int) ≤ (m : Int) / 64 % 64 := by omega
      have b5 : (m : Int) / 64 % 64 < 64 := by omega
      have b6 : (0 : Int) ≤ (m : Int) % 64 := by omega
      have b7 : (m : Int) % 64 < 64 := by omega
      have t0 : ((m : Int) / 262144).toNat = m / 262144 := by omega
      have t1 : ((m : Int) / 4096 % 64).toNat = m / 4096 % 64 := by omega
      have t2 : ((m : Int) / 64 % 64).toNat = m / 64 % 64 := by omega
      have t3 : ((m : Int) % 64).toNat = m % 64 := by omega
      generalize let6 (m / 262144) = y0 at *
      generalize let6 (m / 4096 % 64) = y1 at *
      generalize let6 (m / 64 % 64) = y2 at *
      generalize let6 (m % 64) = y3 at *
      clear hlt hk HN HBD HST H3 hn0 hn1
      go_upto_region 9 with fail
      go_cut [5] (fun s5 wx => s5 = .slice (some ⟨w.heap.size, 0, none⟩) 4 4 ∧ Hid (Bk wx w.heap.size 5 #[bv y0, bv y1, bv y2, bv y3]) ∧ Hid (Below w.heap.size w wx))
      case first =>
        go_region
        go_wp2_with fail
        go_meet
        exact ⟨rfl, Lib.hid (by exact Bk.new _ _ _), Lib.hid (by with_reducible repeat (first | exact hb.out | refine below_drew1 ?_ | refine below_al ?_ _))⟩
      case rest =>
        obtain ⟨rfl, B, hb2⟩ := hcut
        have hg2 := HG.out
        have B0 : Hid (Bk _ w.heap.size 5 ((gRow p.length (p.length + 1) y0 y1 y2 y3).map bv).toArray) := Lib.hid (by
          have e : gRow p.length (p.length + 1) y0 y1 y2 y3 = [y0, y1, y2, y3] := by
            unfold gRow
            rw [if_neg (by omega), if_neg (by omega)]
          rw [e]
          exact B.out)
        have hv4 : v = gRow p.length 4 y0 y1 y2 y3 := by
          rw [hg2]
          unfold gRow
          simp
        obtain ⟨q, hq⟩ : ∃ q, q = p.length := ⟨_, rfl⟩
        rw [← hq] at hv4 B0
        have q0 : 1 ≤ q := by omega
        have q1 : q ≤ 3 := by omega
        have hqi : (p.length : Int) + 1 = ((q + 1 : Nat) : Int) := by omega
        have HV4 := Lib.hid hv4
        have HQI := Lib.hid hqi
        clear B hg2 hv4 HG a1 a2 a3 b0 b1 b2 b3 b4 b5 b6 b7 t0 t1 t2 t3 l0 l1 l2 l3 hqi
        go_upto_region 11 with fail
        go_loopw [6] (fun s6 wr => ∃ k : Nat, s6 = .int .i64 k ∧ q + 1 ≤ k ∧ k ≤ 4 ∧ Hid (Bk wr w.heap.size 5 ((gRow q k y0 y1 y2 y3).map bv).toArray) ∧ Hid (Below w.heap.size w wr)) (fun s6 _ => 4 - (intOf s6).toNat)
        case atStart => exact ⟨q + 1, by have := HQI.out; first | rfl | (rw [this]) | (apply congrArg; omega), by omega, by omega, B0, hb2⟩
        case round =>
          clear B0 hb2
          obtain ⟨k, rfl, k0, k1, B, hb2⟩ := hrel
          by_cases hlt : k < 4
          · have cb := B.out.cell
            have fb := B.out.frozen
            rcases (show (q = 1 ∧ k = 2) ∨ (q = 1 ∧ k = 3) ∨ (q = 2 ∧ k = 3) by omega) with ⟨rfl, rfl⟩ | ⟨rfl, rfl⟩ | ⟨rfl, rfl⟩
            all_goals
              clear HQI hq q0 q1
              unfold gRow at *
              go_wp2
              first
                | exact ⟨⟨3, rfl, by omega, by omega, Lib.hid (B.out.put' 2 (bv 61) rfl), Lib.hid (below_set hb2.out (Nat.le_refl _) _)⟩, by simp [intOf]⟩
                | exact ⟨⟨4, rfl, by omega, by omega, Lib.hid (B.out.put' 3 (bv 61) rfl), Lib.hid (below_set hb2.out (Nat.le_refl _) _)⟩, by simp [intOf]⟩
          · obtain rfl : k = 4 := by omega
            rw [← HV4.out] at B
            have hlen : v.length = 4 := by rw [HV4.out]; rfl
            go_wp2
            go_ret
            exact ⟨some ⟨w.heap.size, 0, none⟩, 4, by rw [hlen]; rfl, rd_new (r := v) B.out rfl, ⟨fun ad h => by cases h; exact Nat.le_refl _, Nat.le_of_eq hlen, by omega⟩, hb2.out⟩
end Go.Proofs.YtjgohmfmalcjoaaDoor.TrW
