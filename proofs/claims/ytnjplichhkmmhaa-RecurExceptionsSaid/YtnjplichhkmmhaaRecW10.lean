import Derived.Test.YtnjplichhkmmhaaMl
/- Walk: the reference's RegularOf. -/
namespace Go.Proofs.Ytnjplichhkmmhaa.Cal
theorem Rule.ok_of {r : Rule} (h : r.fault = (0, 0)) : inR r.fr 0 4 = true ∧ 1 ≤ r.ev ∧ r.ev ≤ 100 ∧ 0 ≤ r.ct ∧ r.ct ≤ 1500 := by
  unfold Rule.fault at h
  split at h
  · simp at h
  split at h
  · simp at h
  split at h
  · simp at h
  rename_i h1 h2 h3
  have h2 := inR_t (by simpa using h2)
  have h3 := inR_t (by simpa using h3)
  exact ⟨by simpa using h1, h2.1, h2.2, h3.1, h3.2⟩
end Go.Proofs.Ytnjplichhkmmhaa.Cal
namespace Go.Proofs.Ytnjplichhkmmhaa.CalW
open Go.RowKit Go.Proofs.Ytnjplichhkmmhaa.Base Go.Proofs.Ytnjplichhkmmhaa.Cal
set_option linter.unusedVariables false
set_option linter.unusedSimpArgs false
set_option maxHeartbeats 4000000 in
set_option maxRecDepth 20000 in
theorem regularof_calls (z : Zone) (d : Date) (r : Rule) (sr : RS) (w : World) (hk : z.fault = (0, 0)) (hq : locf d = (0, 0)) (hy : d.y ≤ 3980) (hrf : r.fault = (0, 0)) (hR : RuleAt w r sr) :
    Calls Try.prog 63 #[zval z, dval d, rval r sr] w (GivesO w (regL z d r)) := by
  have F := FirstOk.of hq hy
  have bd := F.bd
  have ro := Rule.ok_of hrf
  have hN : ∀ W, Calls Try.prog 48 #[.int .i64 d.y, .int .i64 d.mo, .int .i64 d.d] W fun e w' => e = .returned (.int .i64 (firstD d)) ∧ Below W.heap.size W w' := fun W => dnum_calls d.y d.mo d.d W (by have := F.y0; omega) (by have := F.y1; omega) F.m0 F.m1 (by have := F.d0; omega) (by have := F.d1; have := mlen_bd d.y d.mo; omega)
  have hO := fun W n (A : RuleAt W r sr) h1 h2 => onday_calls d r sr n W A F h1 h2 ro.2.1 ro.2.2.1 ro.1
  have hT := fun W n (h1 : firstD d ≤ n) (h2 : n ≤ firstD d + 1500) => dateof_day n W (by have := bd.1; omega) (by have := bd.2; omega) (inR_mk (by have := F.yr h1 h2; omega) (by have := F.yr h1 h2; omega))
  have hI := fun W n (h1 : firstD d ≤ n) (h2 : n ≤ firstD d + 1500) => instantsof_calls z (dateN n d) W hk (dateN_ok hq hy h1 h2)
  have hE := fun acc m (h : RunEnds z d r (dayL d r m) acc) hm => h.reg hm
  have hFin := fun acc (h : Run z d r (dayL d r 1501) acc) => h.fin
  have hL : regL z d r = regF z d r [] (dayL d r 1501) := rfl
  generalize regL z d r = L at *
  have dn : ∀ n, dval (dateN n d) = .agg #[.int .i64 (ymdY n), .int .i64 (ymdM n), .int .i64 (ymdD n), .int .i64 d.h, .int .i64 d.mi, .int .i64 d.s, .int .i64 0] := fun n => rfl
  have hct := ro.2.2.2
  clear ro F hk hq hy hrf
  obtain ⟨nm, st, su, ⟨b0, b1, b2, b3⟩, ⟨e0, e1, e2, e3⟩⟩ := z
  obtain ⟨y, mo, dd, h, mi, s, dz⟩ := d
  obtain ⟨fr, ev, ct, un, hu, wd, ex, ad⟩ := r
  obtain ⟨a5, c5, a6, c6, a7, c7⟩ := sr
  dsimp only at hct dn hN
  have hct1 := hct.1
  have hct2 := hct.2
  have bd1 := bd.1
  have bd2 := bd.2
  clear hct bd
  generalize hfi : firstD ⟨y, mo, dd, h, mi, s, dz⟩ = fi at *
  have hu25 := Try.underlying25
  have hu34 := Try.underlying34
  have hu49 := Try.underlying49
  have hu35 := Try.underlying35
  have HFI := Lib.hid hfi
  have HN := Lib.hid hN
  have HO := Lib.hid hO
  have HT := Lib.hid hT
  have HI := Lib.hid hI
  have HE := Lib.hid hE
  have HFIN := Lib.hid hFin
  have HL := Lib.hid hL
  have HRA := Lib.hid hR
  have DN := Lib.hid dn
  clear hfi hN hO hT hI hE hFin hL hR dn
  obtain ⟨i0, hi0, hz0, hz1, hz2⟩ := info_parts info3
  have HI0 := Lib.hid hi0
  have HZ0 := Lib.hid hz0
  have HZ1 := Lib.hid hz1
  have HZ2 := Lib.hid hz2
  clear hi0 hz0 hz1 hz2
  have S := Lib.hid (RgSt.mk (((Bk.new w 25 #[.string nm, .int .i64 st, .int .i64 su, .int .i64 b0, .int .i64 b1, .int .i64 b2, .int .i64 b3, .int .i64 e0, .int .i64 e1, .int .i64 e2, .int .i64 e3]).al (.cells #[.int .i64 y, .int .i64 mo, .int .i64 dd, .int .i64 h, .int .i64 mi, .int .i64 s, .int .i64 dz] 34)).al (.cells #[.int .i64 fr, .int .i64 ev, .int .i64 ct, .int .i64 un, .bool hu, .slice a5 wd.length c5, .slice a6 ex.length c6, .slice a7 ad.length c7] 49)) ((Bk.new' (n := w.heap.size + 1) (w.alloc (.cells #[.string nm, .int .i64 st, .int .i64 su, .int .i64 b0, .int .i64 b1, .int .i64 b2, .int .i64 b3, .int .i64 e0, .int .i64 e1, .int .i64 e2, .int .i64 e3] 25)) 34 #[.int .i64 y, .int .i64 mo, .int .i64 dd, .int .i64 h, .int .i64 mi, .int .i64 s, .int .i64 dz] (by simp)).al (.cells #[.int .i64 fr, .int .i64 ev, .int .i64 ct, .int .i64 un, .bool hu, .slice a5 wd.length c5, .slice a6 ex.length c6, .slice a7 ad.length c7] 49)) (Bk.new' (n := w.heap.size + 1 + 1) ((w.alloc (.cells #[.string nm, .int .i64 st, .int .i64 su, .int .i64 b0, .int .i64 b1, .int .i64 b2, .int .i64 b3, .int .i64 e0, .int .i64 e1, .int .i64 e2, .int .i64 e3] 25)).alloc (.cells #[.int .i64 y, .int .i64 mo, .int .i64 dd, .int .i64 h, .int .i64 mi, .int .i64 s, .int .i64 dz] 34)) 49 #[.int .i64 fr, .int .i64 ev, .int .i64 ct, .int .i64 un, .bool hu, .slice a5 wd.length c5, .slice a6 ex.length c6, .slice a7 ad.length c7] (by simp)) (World.ownsRow_nil _ (w.heap.size + 1 + 1 + 1) _ _) (below_al (below_al (below_al (Below.refl w.heap.size w) (.cells #[.string nm, .int .i64 st, .int .i64 su, .int .i64 b0, .int .i64 b1, .int .i64 b2, .int .i64 b3, .int .i64 e0, .int .i64 e1, .int .i64 e2, .int .i64 e3] 25)) (.cells #[.int .i64 y, .int .i64 mo, .int .i64 dd, .int .i64 h, .int .i64 mi, .int .i64 s, .int .i64 dz] 34)) (.cells #[.int .i64 fr, .int .i64 ev, .int .i64 ct, .int .i64 un, .bool hu, .slice a5 wd.length c5, .slice a6 ex.length c6, .slice a7 ad.length c7] 49)) (by simp) (Nat.lt_succ_self _) : RgSt w (((w.alloc (.cells #[.string nm, .int .i64 st, .int .i64 su, .int .i64 b0, .int .i64 b1, .int .i64 b2, .int .i64 b3, .int .i64 e0, .int .i64 e1, .int .i64 e2, .int .i64 e3] 25)).alloc (.cells #[.int .i64 y, .int .i64 mo, .int .i64 dd, .int .i64 h, .int .i64 mi, .int .i64 s, .int .i64 dz] 34)).alloc (.cells #[.int .i64 fr, .int .i64 ev, .int .i64 ct, .int .i64 un, .bool hu, .slice a5 wd.length c5, .slice a6 ex.length c6, .slice a7 ad.length c7] 49)) #[.string nm, .int .i64 st, .int .i64 su, .int .i64 b0, .int .i64 b1, .int .i64 b2, .int .i64 b3, .int .i64 e0, .int .i64 e1, .int .i64 e2, .int .i64 e3] #[.int .i64 y, .int .i64 mo, .int .i64 dd, .int .i64 h, .int .i64 mi, .int .i64 s, .int .i64 dz] #[.int .i64 fr, .int .i64 ev, .int .i64 ct, .int .i64 un, .bool hu, .slice a5 wd.length c5, .slice a6 ex.length c6, .slice a7 ad.length c7] (w.heap.size + 1 + 1 + 1) [] (.slice none 0 0))
  go_enter Try.func63, Try.ntmps63
  go_upto_region 1 with fail
  generalize ((w.alloc (.cells #[.string nm, .int .i64 st, .int .i64 su, .int .i64 b0, .int .i64 b1, .int .i64 b2, .int .i64 b3, .int .i64 e0, .int .i64 e1, .int .i64 e2, .int .i64 e3] 25)).alloc (.cells #[.int .i64 y, .int .i64 mo, .int .i64 dd, .int .i64 h, .int .i64 mi, .int .i64 s, .int .i64 dz] 34)).alloc (.cells #[.int .i64 fr, .int .i64 ev, .int .i64 ct, .int .i64 un, .bool hu, .slice a5 wd.length c5, .slice a6 ex.length c6, .slice a7 ad.length c7] 49) = w0 at *
  have cz := S.out.z.cell; have cd := S.out.d.cell; have cr := S.out.u.cell
  go_upto_region 4 with (go_at_call 48; ((with_reducible refine (HN.out _).mono ?_); rintro e w1 ⟨rfl, hb⟩; have T := Lib.hid (S.out.bel hb); clear S cz cd cr; clear hb; have S := T; clear T; have cz := S.out.z.cell; have cd := S.out.d.cell; have cr := S.out.u.cell))
  go_loopw [8, 9] (fun s8 s9 wr => ∃ (m : Nat) (n : Int) (acc : List Int) (A : Option Addr) (c : Nat), Hid (n = fi + (m : Int)) ∧ fi ≤ n ∧ n ≤ fi + 1501 ∧ s9 = .int .i64 n ∧ s8 = .slice A acc.length c ∧ Hid (Run ⟨nm, st, su, ⟨b0, b1, b2, b3⟩, ⟨e0, e1, e2, e3⟩⟩ ⟨y, mo, dd, h, mi, s, dz⟩ ⟨fr, ev, ct, un, hu, wd, ex, ad⟩ (dayL ⟨y, mo, dd, h, mi, s, dz⟩ ⟨fr, ev, ct, un, hu, wd, ex, ad⟩ m) acc) ∧ Hid (acc.length ≤ m) ∧ Hid (RgSt w wr #[.string nm, .int .i64 st, .int .i64 su, .int .i64 b0, .int .i64 b1, .int .i64 b2, .int .i64 b3, .int .i64 e0, .int .i64 e1, .int .i64 e2, .int .i64 e3] #[.int .i64 y, .int .i64 mo, .int .i64 dd, .int .i64 h, .int .i64 mi, .int .i64 s, .int .i64 dz] #[.int .i64 fr, .int .i64 ev, .int .i64 ct, .int .i64 un, .bool hu, .slice a5 wd.length c5, .slice a6 ex.length c6, .slice a7 ad.length c7] (w.heap.size + 1 + 1 + 1) acc (.slice A acc.length c))) (fun _ s9 _ => (fi + 1501 - intOf s9).toNat)
  case atStart => exact ⟨0, fi, [], none, 0, Lib.hid (by simp), by omega, by omega, rfl, rfl, Lib.hid Run.nil, Lib.hid (Nat.le_refl _), S⟩
  case round =>
    clear S cz cd cr
    obtain ⟨m, n, acc, A, c, hm, hn0, hn1, rfl, rfl, HRUN, HLEN, S⟩ := hrel
    have cz := S.out.z.cell; have cd := S.out.d.cell; have cr := S.out.u.cell
    by_cases hlt : n ≤ fi + 1500
    · have hO := fun W A => HO.out W n A hn0 hlt
      have hT := fun W => HT.out W n hn0 hlt
      have hI := fun W => HI.out W n hn0 hlt
      rw [DN.out] at hI
      have hY := fun hh => dayL_yes (d := ⟨y, mo, dd, h, mi, s, dz⟩) (r := ⟨fr, ev, ct, un, hu, wd, ex, ad⟩) (m := m) (n := n) (by rw [HFI.out]; exact hm.out) hh
      have hNo := fun hh => dayL_no (d := ⟨y, mo, dd, h, mi, s, dz⟩) (r := ⟨fr, ev, ct, un, hu, wd, ex, ad⟩) (m := m) (n := n) (by rw [HFI.out]; exact hm.out) hh
      generalize onD ⟨y, mo, dd, h, mi, s, dz⟩ ⟨fr, ev, ct, un, hu, wd, ex, ad⟩ n = on at *
      have HON := Lib.hid hO
      have HTN := Lib.hid hT
      have HIN := Lib.hid hI
      have HYES := Lib.hid hY
      have HNO := Lib.hid hNo
      clear hO hT hI hY hNo
      rcases tf on with hon | hon
      · subst hon
        have HRUN2 : Hid (Run ⟨nm, st, su, ⟨b0, b1, b2, b3⟩, ⟨e0, e1, e2, e3⟩⟩ ⟨y, mo, dd, h, mi, s, dz⟩ ⟨fr, ev, ct, un, hu, wd, ex, ad⟩ (dayL ⟨y, mo, dd, h, mi, s, dz⟩ ⟨fr, ev, ct, un, hu, wd, ex, ad⟩ (m + 1)) acc) := Lib.hid (by rw [HNO.out rfl]; exact HRUN.out)
        go_wp2_with (go_at_call 77; ((with_reducible refine (HON.out _ (HRA.out.bel S.out.b)).mono ?_); rintro e w1 ⟨rfl, hb⟩; have T := Lib.hid (S.out.bel hb); clear S cz cd cr; clear hb; have S := T; clear T; have cz := S.out.z.cell; have cd := S.out.d.cell; have cr := S.out.u.cell))
        exact ⟨⟨m + 1, n + 1, acc, A, c, Lib.hid (by have := hm.out; push_cast; omega), by omega, by omega, rfl, rfl, HRUN2, Lib.hid (by have := HLEN.out; omega), S⟩, by simp [intOf]; omega⟩
      · subst hon
        have hYes := HYES.out rfl
        have HYES2 := Lib.hid hYes
        clear hYes HYES HNO
        go_upto_region 7 with (go_at_call 77; ((with_reducible refine (HON.out _ (HRA.out.bel S.out.b)).mono ?_); rintro e w1 ⟨rfl, hb⟩; have T := Lib.hid (S.out.bel hb); clear S cz cd cr; clear hb; have S := T; clear T; have cz := S.out.z.cell; have cd := S.out.d.cell; have cr := S.out.u.cell))
        obtain ⟨nh, nmi, ns, hT0⟩ := HTN.out w1
        have HT0 := Lib.hid hT0
        clear hT0 HTN
        go_upto_region 8 with (go_at_call 43; ((with_reducible refine (HT0.out).mono ?_); rintro e w2 ⟨rfl, hb⟩; have T := Lib.hid (S.out.bel hb); clear S cz cd cr; clear hb; have S := T; clear T; have cz := S.out.z.cell; have cd := S.out.d.cell; have cr := S.out.u.cell))
        have T := Lib.hid (S.out.al (.cells #[.int .i64 (ymdY n), .int .i64 (ymdM n), .int .i64 (ymdD n), .int .i64 nh, .int .i64 nmi, .int .i64 ns, .int .i64 0] 34))
        have K := Lib.hid (Bk.new w2 34 #[.int .i64 (ymdY n), .int .i64 (ymdM n), .int .i64 (ymdD n), .int .i64 nh, .int .i64 nmi, .int .i64 ns, .int .i64 0])
        have hne := Lib.hid (fun g he => (S.out.own.lt g he).2)
        have n1 : w.heap.size + 1 + 1 < w2.heap.size := S.out.u.lt
        have n2 : (w.heap.size + 1 + 1 + 1) ≤ w2.heap.size := S.out.hB
        clear S cz cd cr
        have S := T
        clear T
        generalize w2.heap.size = gd at *
        generalize w2.alloc (.cells #[.int .i64 (ymdY n), .int .i64 (ymdM n), .int .i64 (ymdD n), .int .i64 nh, .int .i64 nmi, .int .i64 ns, .int .i64 0] 34) = w3 at *
        clear w1 w2 HT0
        have cz := S.out.z.cell; have cd := S.out.d.cell; have cr := S.out.u.cell
        have ck := K.out.cell
        have fk := K.out.frozen
        go_upto_region 11 with fail
        have T := Lib.hid (((S.out.set (p := ⟨gd, 3, none⟩) (.int .i64 h) n2 (fun g he => by have := hne.out g he; simp; omega)).set (p := ⟨gd, 4, none⟩) (.int .i64 mi) n2 (fun g he => by have := hne.out g he; simp; omega)).set (p := ⟨gd, 5, none⟩) (.int .i64 s) n2 (fun g he => by have := hne.out g he; simp; omega))
        have K2 := Lib.hid (((K.out.put 3 (.int .i64 h)).put 4 (.int .i64 mi)).put' (cs' := #[.int .i64 (ymdY n), .int .i64 (ymdM n), .int .i64 (ymdD n), .int .i64 h, .int .i64 mi, .int .i64 s, .int .i64 0]) 5 (.int .i64 s) rfl)
        clear S cz cd cr
        clear K ck fk
        have S := T
        have K := K2
        clear T K2
        generalize ((w3.setCell ⟨gd, 3, none⟩ (.int .i64 h)).setCell ⟨gd, 4, none⟩ (.int .i64 mi)).setCell ⟨gd, 5, none⟩ (.int .i64 s) = w4 at *
        clear w3
        have cz := S.out.z.cell; have cd := S.out.d.cell; have cr := S.out.u.cell
        have ck := K.out.cell
        generalize hal : allL ⟨nm, st, su, ⟨b0, b1, b2, b3⟩, ⟨e0, e1, e2, e3⟩⟩ (dateN n ⟨y, mo, dd, h, mi, s, dz⟩) = al at *
        have HAL := Lib.hid hal
        clear hal
        go_upto_region 12 with (go_at_call 22; ((with_reducible refine (HIN.out _).mono ?_); rintro e w1 ⟨A1, k1, rfl, hR1, hF1, hb⟩; have HR1 := Lib.hid hR1; clear hR1 hF1; have T := Lib.hid (S.out.bel hb); clear S cz cd cr; clear hb; have S := T; clear T; have cz := S.out.z.cell; have cd := S.out.d.cell; have cr := S.out.u.cell))
        clear K ck HIN
        cases al with
        | nil =>
          have HRUN2 : Hid (Run ⟨nm, st, su, ⟨b0, b1, b2, b3⟩, ⟨e0, e1, e2, e3⟩⟩ ⟨y, mo, dd, h, mi, s, dz⟩ ⟨fr, ev, ct, un, hu, wd, ex, ad⟩ (dayL ⟨y, mo, dd, h, mi, s, dz⟩ ⟨fr, ev, ct, un, hu, wd, ex, ad⟩ (m + 1)) acc) := Lib.hid (by rw [HYES2.out]; exact Run.skip HRUN.out HAL.out)
          go_wp2
          exact ⟨⟨m + 1, n + 1, acc, A, c, Lib.hid (by have := hm.out; push_cast; omega), by omega, by omega, rfl, rfl, HRUN2, Lib.hid (by have := HLEN.out; omega), S⟩, by simp [intOf]; omega⟩
        | cons t al =>
          have hacc : acc.length ≤ 1500 := by have := hm.out; have := HLEN.out; omega
          have HACC := Lib.hid hacc
          clear hacc
          obtain ⟨ad1, rfl, hre⟩ := rd_all HR1.out (k := 0) (by simp)
          have hr0 : ∀ W, Below w1.heap.size w1 W → W.cell? ad1 = some (.int .i64 t) := fun W hb => by
            have := hre W hb 0 (by simp)
            rwa [show ad1.add 0 = ad1 by simp [Addr.add]] at this
          have HR0 := Lib.hid hr0
          clear hre hr0 HR1
          simp only [List.length_cons]
          go_upto_region 13 with fail
          have sr := S.out.u.s
          have st1 : ∀ s : Bel w1, s.w.cell? ad1 = some (.int .i64 t) := fun s => HR0.out _ s.below
          rcases tf hu with hh | hh
          · subst hh
            have hnu : ¬ (false = true ∧ un < t) := by simp
            refine wp_region_bel (by kernel_rfl) (by kernel_rfl) ?_
            repeat (go_big_quiet_step (fail))
            refine wpQuiet_nil ?_
            rintro _ ⟨s0, rfl⟩
            have T := Lib.hid (S.out.bel s0.below)
            have HQ0 := Lib.hid (fun W hb => HR0.out W (below_go s0.below hb))
            clear S cz cd cr
            clear HR0 sr st1
            have S := T
            have HR0 := HQ0
            clear T HQ0
            generalize s0.w = w2 at *
            clear s0
            have cz := S.out.z.cell; have cd := S.out.d.cell; have cr := S.out.u.cell
            have HNU := Lib.hid hnu
            clear hnu
            have ct0 := HR0.out w2 (Below.refl _ _)
            have hl1 : ((acc ++ [t]).length : Int) = (acc.length : Int) + 1 := by simp
            have HL1 := Lib.hid hl1
            clear hl1
            by_cases hc0 : 0 < ct
            · by_cases hc1 : (acc.length : Int) + 1 = ct
              · have hl := HE.out (acc ++ [t]) (m + 1) (by rw [HYES2.out]; exact Run.count HRUN.out HAL.out HNU.out (by rw [HL1.out]; exact hc1)) (by have := hm.out; omega)
                have HL2 := Lib.hid hl
                have g4 : ((acc.length : Int) + 1 == ct) = true := by simpa using hc1
                clear hl hc1
                go_wp2_with (at_builtin; refine wpList_app1 rfl _ _ 35 rfl (w.heap.size + 1 + 1 + 1) 3 i0 (.int .i64 0) 8 Try.underlying35 HI0.out HZ0.out HZ1.out HZ2.out rfl iv A c acc t _ rfl S.out.own rfl rfl (by have := HACC.out; unfold maxLen; omega) (by have := HACC.out; omega) S.out.hB ?_; intro A2 c2 w3 hown hg; have T := Lib.hid (S.out.app hg hown); clear S cz cd cr; clear hown hg; have S := T; clear T; have cz := S.out.z.cell; have cd := S.out.d.cell; have cr := S.out.u.cell)
                go_ret
                rw [HL2.out]
                exact ⟨A2, c2, by simp, by have := S.out.own; simpa using own_mono this (by omega), S.out.b⟩
              · have g4 : ((acc.length : Int) + 1 == ct) = false := by simpa using hc1
                have HRUN2 : Hid (Run ⟨nm, st, su, ⟨b0, b1, b2, b3⟩, ⟨e0, e1, e2, e3⟩⟩ ⟨y, mo, dd, h, mi, s, dz⟩ ⟨fr, ev, ct, un, false, wd, ex, ad⟩ (dayL ⟨y, mo, dd, h, mi, s, dz⟩ ⟨fr, ev, ct, un, false, wd, ex, ad⟩ (m + 1)) (acc ++ [t])) := Lib.hid (by rw [HYES2.out]; exact Run.app HRUN.out HAL.out HNU.out (by rw [HL1.out]; exact hc1))
                clear hc1
                go_wp2_with (at_builtin; refine wpList_app1 rfl _ _ 35 rfl (w.heap.size + 1 + 1 + 1) 3 i0 (.int .i64 0) 8 Try.underlying35 HI0.out HZ0.out HZ1.out HZ2.out rfl iv A c acc t _ rfl S.out.own rfl rfl (by have := HACC.out; unfold maxLen; omega) (by have := HACC.out; omega) S.out.hB ?_; intro A2 c2 w3 hown hg; have T := Lib.hid (S.out.app hg hown); clear S cz cd cr; clear hown hg; have S := T; clear T; have cz := S.out.z.cell; have cd := S.out.d.cell; have cr := S.out.u.cell)
                exact ⟨⟨m + 1, n + 1, acc ++ [t], A2, c2, Lib.hid (by have := hm.out; push_cast; omega), by omega, by omega, rfl, by simp, HRUN2, Lib.hid (by have := HLEN.out; simp; omega), by first | exact S | (have := S; simpa using this)⟩, by simp [intOf]; omega⟩
            · have HRUN2 : Hid (Run ⟨nm, st, su, ⟨b0, b1, b2, b3⟩, ⟨e0, e1, e2, e3⟩⟩ ⟨y, mo, dd, h, mi, s, dz⟩ ⟨fr, ev, ct, un, false, wd, ex, ad⟩ (dayL ⟨y, mo, dd, h, mi, s, dz⟩ ⟨fr, ev, ct, un, false, wd, ex, ad⟩ (m + 1)) (acc ++ [t])) := Lib.hid (by rw [HYES2.out]; exact Run.app HRUN.out HAL.out HNU.out (by rw [HL1.out]; dsimp only; omega))
              go_wp2_with (at_builtin; refine wpList_app1 rfl _ _ 35 rfl (w.heap.size + 1 + 1 + 1) 3 i0 (.int .i64 0) 8 Try.underlying35 HI0.out HZ0.out HZ1.out HZ2.out rfl iv A c acc t _ rfl S.out.own rfl rfl (by have := HACC.out; unfold maxLen; omega) (by have := HACC.out; omega) S.out.hB ?_; intro A2 c2 w3 hown hg; have T := Lib.hid (S.out.app hg hown); clear S cz cd cr; clear hown hg; have S := T; clear T; have cz := S.out.z.cell; have cd := S.out.d.cell; have cr := S.out.u.cell)
              exact ⟨⟨m + 1, n + 1, acc ++ [t], A2, c2, Lib.hid (by have := hm.out; push_cast; omega), by omega, by omega, rfl, by simp, HRUN2, Lib.hid (by have := HLEN.out; simp; omega), by first | exact S | (have := S; simpa using this)⟩, by simp [intOf]; omega⟩
          · subst hh
            by_cases hut : un < t
            · have g1 : decide (un < t) = true := by simpa using hut
              have hl := HE.out acc (m + 1) (by rw [HYES2.out]; exact Run.until HRUN.out HAL.out ⟨rfl, hut⟩) (by have := hm.out; omega)
              have HL2 := Lib.hid hl
              clear hl hut
              refine wp_region_bel (by kernel_rfl) (by kernel_rfl) ?_
              repeat (go_big_quiet_step (fail))
              refine wpQuiet_nil ?_
              rintro _ ⟨s0, rfl⟩
              have T := Lib.hid (S.out.bel s0.below)
              have HQ0 := Lib.hid (fun W hb => HR0.out W (below_go s0.below hb))
              clear S cz cd cr
              clear HR0 sr st1
              have S := T
              have HR0 := HQ0
              clear T HQ0
              generalize s0.w = w2 at *
              clear s0
              have cz := S.out.z.cell; have cd := S.out.d.cell; have cr := S.out.u.cell
              go_wp2
              go_ret
              rw [HL2.out]
              exact ⟨A, c, rfl, own_mono S.out.own (by omega), S.out.b⟩
            · have g1 : decide (un < t) = false := by simpa using hut
              have hnu : ¬ (true = true ∧ un < t) := fun hh => hut hh.2
              clear hut
              refine wp_region_bel (by kernel_rfl) (by kernel_rfl) ?_
              repeat (go_big_quiet_step (fail))
              refine wpQuiet_nil ?_
              rintro _ ⟨s0, rfl⟩
              have T := Lib.hid (S.out.bel s0.below)
              have HQ0 := Lib.hid (fun W hb => HR0.out W (below_go s0.below hb))
              clear S cz cd cr
              clear HR0 sr st1
              have S := T
              have HR0 := HQ0
              clear T HQ0
              generalize s0.w = w2 at *
              clear s0
              have cz := S.out.z.cell; have cd := S.out.d.cell; have cr := S.out.u.cell
              have HNU := Lib.hid hnu
              clear hnu
              have ct0 := HR0.out w2 (Below.refl _ _)
              have hl1 : ((acc ++ [t]).length : Int) = (acc.length : Int) + 1 := by simp
              have HL1 := Lib.hid hl1
              clear hl1
              by_cases hc0 : 0 < ct
              · by_cases hc1 : (acc.length : Int) + 1 = ct
                · have hl := HE.out (acc ++ [t]) (m + 1) (by rw [HYES2.out]; exact Run.count HRUN.out HAL.out HNU.out (by rw [HL1.out]; exact hc1)) (by have := hm.out; omega)
                  have HL2 := Lib.hid hl
                  have g4 : ((acc.length : Int) + 1 == ct) = true := by simpa using hc1
                  clear hl hc1
                  go_wp2_with (at_builtin; refine wpList_app1 rfl _ _ 35 rfl (w.heap.size + 1 + 1 + 1) 3 i0 (.int .i64 0) 8 Try.underlying35 HI0.out HZ0.out HZ1.out HZ2.out rfl iv A c acc t _ rfl S.out.own rfl rfl (by have := HACC.out; unfold maxLen; omega) (by have := HACC.out; omega) S.out.hB ?_; intro A2 c2 w3 hown hg; have T := Lib.hid (S.out.app hg hown); clear S cz cd cr; clear hown hg; have S := T; clear T; have cz := S.out.z.cell; have cd := S.out.d.cell; have cr := S.out.u.cell)
                  go_ret
                  rw [HL2.out]
                  exact ⟨A2, c2, by simp, by have := S.out.own; simpa using own_mono this (by omega), S.out.b⟩
                · have g4 : ((acc.length : Int) + 1 == ct) = false := by simpa using hc1
                  have HRUN2 : Hid (Run ⟨nm, st, su, ⟨b0, b1, b2, b3⟩, ⟨e0, e1, e2, e3⟩⟩ ⟨y, mo, dd, h, mi, s, dz⟩ ⟨fr, ev, ct, un, true, wd, ex, ad⟩ (dayL ⟨y, mo, dd, h, mi, s, dz⟩ ⟨fr, ev, ct, un, true, wd, ex, ad⟩ (m + 1)) (acc ++ [t])) := Lib.hid (by rw [HYES2.out]; exact Run.app HRUN.out HAL.out HNU.out (by rw [HL1.out]; exact hc1))
                  clear hc1
                  go_wp2_with (at_builtin; refine wpList_app1 rfl _ _ 35 rfl (w.heap.size + 1 + 1 + 1) 3 i0 (.int .i64 0) 8 Try.underlying35 HI0.out HZ0.out HZ1.out HZ2.out rfl iv A c acc t _ rfl S.out.own rfl rfl (by have := HACC.out; unfold maxLen; omega) (by have := HACC.out; omega) S.out.hB ?_; intro A2 c2 w3 hown hg; have T := Lib.hid (S.out.app hg hown); clear S cz cd cr; clear hown hg; have S := T; clear T; have cz := S.out.z.cell; have cd := S.out.d.cell; have cr := S.out.u.cell)
                  exact ⟨⟨m + 1, n + 1, acc ++ [t], A2, c2, Lib.hid (by have := hm.out; push_cast; omega), by omega, by omega, rfl, by simp, HRUN2, Lib.hid (by have := HLEN.out; simp; omega), by first | exact S | (have := S; simpa using this)⟩, by simp [intOf]; omega⟩
              · have HRUN2 : Hid (Run ⟨nm, st, su, ⟨b0, b1, b2, b3⟩, ⟨e0, e1, e2, e3⟩⟩ ⟨y, mo, dd, h, mi, s, dz⟩ ⟨fr, ev, ct, un, true, wd, ex, ad⟩ (dayL ⟨y, mo, dd, h, mi, s, dz⟩ ⟨fr, ev, ct, un, true, wd, ex, ad⟩ (m + 1)) (acc ++ [t])) := Lib.hid (by rw [HYES2.out]; exact Run.app HRUN.out HAL.out HNU.out (by rw [HL1.out]; dsimp only; omega))
                go_wp2_with (at_builtin; refine wpList_app1 rfl _ _ 35 rfl (w.heap.size + 1 + 1 + 1) 3 i0 (.int .i64 0) 8 Try.underlying35 HI0.out HZ0.out HZ1.out HZ2.out rfl iv A c acc t _ rfl S.out.own rfl rfl (by have := HACC.out; unfold maxLen; omega) (by have := HACC.out; omega) S.out.hB ?_; intro A2 c2 w3 hown hg; have T := Lib.hid (S.out.app hg hown); clear S cz cd cr; clear hown hg; have S := T; clear T; have cz := S.out.z.cell; have cd := S.out.d.cell; have cr := S.out.u.cell)
                exact ⟨⟨m + 1, n + 1, acc ++ [t], A2, c2, Lib.hid (by have := hm.out; push_cast; omega), by omega, by omega, rfl, by simp, HRUN2, Lib.hid (by have := HLEN.out; simp; omega), by first | exact S | (have := S; simpa using this)⟩, by simp [intOf]; omega⟩
    · have hn2 : n = fi + 1501 := by omega
      have hm2 : m = 1501 := by have := hm.out; omega
      have hfin := HRUN.out
      rw [hm2] at hfin
      have hL := HL.out
      rw [HFIN.out _ hfin] at hL
      have HL2 := Lib.hid hL
      clear hfin hL hn2 hm2
      go_wp2
      go_ret
      rw [HL2.out]
      exact ⟨A, c, rfl, own_mono S.out.own (by omega), S.out.b⟩
end Go.Proofs.Ytnjplichhkmmhaa.CalW
