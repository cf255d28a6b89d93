import Derived.Test.YtjgohmfmalcjoaaDoorTrW31
import Derived.Test.YtjgohmfmalcjoaaDoorMf
import Derived.Test.YtjgohmfmalcjoaaDoorMe
import Derived.Deep.CutBlock
import Derived.Deep.AppendLies
import Derived.Deep.RegionHeld3
import Derived.Deep.RegionWith
/- Walk: the reference's decoding of quoted text. -/
namespace Go.Proofs.YtjgohmfmalcjoaaDoor.TrW
open Go.RowKit Go.Proofs.YtjgohmfmalcjoaaDoor.Base Go.Proofs.YtjgohmfmalcjoaaDoor.Tr
set_option linter.unusedVariables false
set_option linter.unusedSimpArgs false
set_option maxRecDepth 20000 in
set_option maxHeartbeats 8000000 in
theorem rlooseq_calls (A : Option Addr) (l : List UInt8) (c : Nat) (w : World) (h : Rd w bv A l) (hl : l.length ≤ 100000) (hc : l.length ≤ c) (hc63 : c ≤ 9223372036854775807) :
    Calls Tryd.prog 39 #[.slice A l.length c] w (GivesB w (looseL l)) := by
  have hln := line_end l
  generalize hv : looseL l = res
  have HLN := Lib.hid hln
  have HR := Lib.hid h
  have H0 := Lib.hid (show [] ++ looseL (l.drop 0) = res by rw [List.drop_zero, hv]; rfl)
  obtain ⟨i0, hi0, hz0, hz1, hz2⟩ := info_parts info8
  have HI0 := Lib.hid hi0
  have HZ0 := Lib.hid hz0
  have HZ1 := Lib.hid hz1
  have HZ2 := Lib.hid hz2
  clear hi0 hz0 hz1 hz2 h hln hv
  go_enter Tryd.func39, Tryd.ntmps39
  go_upto_region 3 with fail
  go_loopw [3, 4] (fun s3 s4 wr => ∃ (k : Nat) (out : List UInt8) (A2 : Option Addr) (c2 : Nat), s3 = .slice A2 out.length c2 ∧ s4 = .int .i64 k ∧ k ≤ l.length + 1 ∧ Hid (out ++ looseL (l.drop k) = res) ∧ Hid (out.length ≤ k) ∧ Hid (Ow bv 5 w wr out A2 c2)) (fun _ s4 _ => l.length + 1 - (intOf s4).toNat)
  case atStart => exact ⟨0, [], none, 0, rfl, rfl, by omega, H0, Lib.hid (by simp), Lib.hid (Ow.nil w)⟩
  case round =>
    obtain ⟨k, out, A2, c2, rfl, rfl, hk, HF, HO, O⟩ := hrel
    by_cases hlt : k < l.length
    · have i1 : (0 : Int) ≤ (k : Int) := by omega
      have i2 : (k : Int) < (l.length : Int) := by omega
      obtain ⟨E, hE1, hE2, hno, hfound⟩ := HLN.out k hlt
      obtain ⟨cr, hcr⟩ : ∃ cr : Bool, cr = (decide (E < l.length) && decide (k < E) && decide ((l.getD (E - 1) 0).toNat = 13)) := ⟨_, rfl⟩
      obtain ⟨S, hS⟩ : ∃ S, S = if cr = true then E - 1 else E := ⟨_, rfl⟩
      obtain ⟨hS1, hS2, hstep⟩ := line_step l k E S cr hlt hE1 hE2 hfound hcr hS
      have hf := HF.out
      rw [hstep] at hf
      have hch : (∃ hE : E < l.length, l[E].toNat = 10) ∨ E = l.length := by
        rcases hfound with ⟨h1, h2, _⟩ | ⟨h1, _⟩
        · exact .inl ⟨h1, h2⟩
        · exact .inr h1
      have hvv : (E = l.length ∧ cr = false) ∨ (E < l.length ∧ E = k ∧ cr = false) ∨ (∃ q, ∃ hq : q < l.length, E < l.length ∧ E = q + 1 ∧ k < E ∧ l[q].toNat ≠ 13 ∧ cr = false) ∨ (∃ q, ∃ hq : q < l.length, E < l.length ∧ E = q + 1 ∧ k < E ∧ l[q].toNat = 13 ∧ cr = true) := by
        rcases Nat.lt_or_ge E l.length with h1 | h1
        · rcases Nat.lt_or_ge k E with h2 | h2
          · have e : l.getD (E - 1) 0 = l[E - 1] := by rw [List.getD, List.getElem?_eq_getElem (by omega)]; rfl
            rw [e] at hcr
            by_cases h3 : l[E - 1].toNat = 13
            · exact .inr (.inr (.inr ⟨E - 1, by omega, h1, by omega, h2, h3, by rw [hcr]; simp [h1, h2, h3]⟩))
            · exact .inr (.inr (.inl ⟨E - 1, by omega, h1, by omega, h2, h3, by rw [hcr]; simp [h3]⟩))
          · exact .inr (.inl ⟨h1, by omega, by rw [hcr]; simp; omega⟩)
        · exact .inl ⟨by omega, by rw [hcr]; simp; omega⟩
      obtain ⟨ad, hA, hre⟩ := rd_all HR.out hlt
      subst hA
      have HNO := Lib.hid hno
      have HCH := Lib.hid hch
      have HVV := Lib.hid hvv
      have HRE := Lib.hid hre
      have HF2 := Lib.hid hf
      have HS := Lib.hid hS
      clear hno hfound hch hvv hre hf hstep hcr hS HF HLN
      go_upto_block 2 with fail
      go_cut [5] (fun s5 wx => s5 = .int .i64 E ∧ wr = wx)
      case first =>
        as_aux_lemma =>
          go_wp2_with fail
          go_loop [5] (fun s5 => ∃ e : Nat, s5 = .int .i64 e ∧ k ≤ e ∧ e ≤ E) (fun s5 => E - (intOf s5).toNat)
          case atStart => exact ⟨k, rfl, Nat.le_refl _, hE1⟩
          case round =>
            obtain ⟨e, rfl, he1, he2⟩ := hrel
            have j1 : (0 : Int) ≤ (e : Int) := by omega
            by_cases hlt2 : e < E
            · have j2 : (e : Int) < (l.length : Int) := by omega
              have c0 := HRE.out _ O.out.b e (by omega)
              have hne := HNO.out e (by omega) he1 hlt2
              generalize l[e] = x at *
              have q : ((x.toNat : Int) != 10) = true := by simp; omega
              go_wp2
              go_round
              case rel => exact ⟨e + 1, by go_num, by omega, by omega⟩
              case measure => simp [intOf]; omega
            · obtain rfl : e = E := by omega
              rcases HCH.out with ⟨hE, h10⟩ | hE
              · have j2 : (e : Int) < (l.length : Int) := by omega
                have c0 := HRE.out _ O.out.b e hE
                generalize l[e] = x at *
                have q : ((x.toNat : Int) != 10) = false := by simp; omega
                clear h10
                go_wp2_with fail
                go_meet
                exact ⟨rfl, rfl⟩
              · have j2 : (l.length : Int) ≤ (e : Int) := by omega
                clear hE
                go_wp2_with fail
                go_meet
                exact ⟨rfl, rfl⟩
      case rest =>
        obtain ⟨rfl, rfl⟩ := hcut
        have e1 : (0 : Int) ≤ (E : Int) := by omega
        have e2 : (E : Int) ≤ (l.length : Int) := by omega
        go_upto_region 8 with fail
        go_cut [45] (fun s45 wx => s45 = .bool cr ∧ wr = wx)
        case first =>
          as_aux_lemma =>
            rcases HVV.out with ⟨h1, hc⟩ | ⟨h1, h2, hc⟩ | ⟨q, hq, h1, h2, h3, h4, hc⟩ | ⟨q, hq, h1, h2, h3, h4, hc⟩
            · subst hc
              have g1 : (l.length : Int) ≤ (E : Int) := by omega
              clear h1
              go_wp2_with fail
              go_meet
              exact ⟨rfl, rfl⟩
            · subst hc
              have g1 : (E : Int) < (l.length : Int) := by omega
              have g2 : (E : Int) ≤ (k : Int) := by omega
              clear h1 h2
              go_wp2_with fail
              go_meet
              exact ⟨rfl, rfl⟩
            all_goals
              subst hc
              have g1 : (E : Int) < (l.length : Int) := by omega
              have g2 : (k : Int) < (E : Int) := by omega
              have g3 : (E : Int) - 1 = (q : Int) := by omega
              have g4 : (0 : Int) ≤ (q : Int) := by omega
              have g5 : (q : Int) < (l.length : Int) := by omega
              have c0 := HRE.out _ O.out.b q hq
              generalize l[q] = x at *
              first
                | have q13 : ((x.toNat : Int) == 13) = true := by simp; omega
                | have q13 : ((x.toNat : Int) == 13) = false := by simp; omega
              clear h1 h2 h3 h4
              go_wp2_with fail
              go_meet
              exact ⟨rfl, rfl⟩
        case rest =>
          obtain ⟨rfl, rfl⟩ := hcut
          go_upto_if 45 with fail
          go_cut [6] (fun s6 wx => s6 = .int .i64 S ∧ wr = wx)
          case first =>
            as_aux_lemma =>
              have hc1 : cr = true → 1 ≤ E := fun h => by
                rcases HVV.out with ⟨h1, hc⟩ | ⟨h1, h2, hc⟩ | ⟨q, hq, h1, h2, h3, h4, hc⟩ | ⟨q, hq, h1, h2, h3, h4, hc⟩
                · rw [h] at hc; cases hc
                · rw [h] at hc; cases hc
                · omega
                · omega
              rcases tf cr with hc | hc
              all_goals
                subst hc
                have hs := HS.out
                simp only [Bool.false_eq_true, if_false, if_true] at hs
                have HS2 := Lib.hid hs
                have HC1 := Lib.hid hc1
                clear hs hc1
                go_wp2_with fail
                go_meet
                exact ⟨congrArg (Value.int .i64) (by have h1 := HS2.out; have h2 := HC1.out; first | omega | (have h2 := h2 trivial; omega) | (have h2 := h2 rfl; omega)), rfl⟩
          case rest =>
            obtain ⟨rfl, rfl⟩ := hcut
            have s1 : (0 : Int) ≤ (S : Int) := by omega
            go_upto_block 4 with fail
            go_cut [7] (fun s7 wx => (∃ t : Nat, s7 = .int .i64 t ∧ k ≤ t ∧ t ≤ S ∧ Hid (Lib.trimRightS (seg l k S) [32, 9] = Lib.trimRightS (seg l k t) [32, 9] ∧ (t = k ∨ ∃ h : t - 1 < l.length, k < t ∧ blankC l[t - 1] = false))) ∧ wr = wx)
            case first =>
              as_aux_lemma =>
                go_wp2_with fail
                go_loop [7] (fun s7 => ∃ t : Nat, s7 = .int .i64 t ∧ k ≤ t ∧ t ≤ S ∧ Hid (Lib.trimRightS (seg l k S) [32, 9] = Lib.trimRightS (seg l k t) [32, 9])) (fun s7 => (intOf s7).toNat)
                case atStart => exact ⟨S, rfl, hS1, Nat.le_refl _, Lib.hid rfl⟩
                case round =>
                  obtain ⟨t, rfl, ht1, ht2, HT⟩ := hrel
                  by_cases hkt : k < t
                  · obtain ⟨q, hq⟩ : ∃ q, t = q + 1 := ⟨t - 1, by omega⟩
                    have g1 : (k : Int) < (t : Int) := by omega
                    have g3 : (t : Int) - 1 = (q : Int) := by omega
                    have g4 : (0 : Int) ≤ (q : Int) := by omega
                    have g5 : (q : Int) < (l.length : Int) := by omega
                    have hql : q < l.length := by omega
                    have c0 := HRE.out _ O.out.b q hql
                    have hbl := fun W => rblank_calls l[q] W
                    by_cases hb : blankC l[q] = true
                    · have hst := trim_blank (l := l) (k := k) (t := q) (by omega) hql hb
                      have ht := HT.out
                      rw [hq, hst] at ht
                      rw [hb] at hbl
                      have HBL := Lib.hid hbl
                      have HT2 := Lib.hid ht
                      have HQ := Lib.hid hq
                      generalize l[q] = x at *
                      clear hst ht hbl hb hq HT
                      go_wp2_with (go_at_call 64; ((with_reducible refine (HBL.out _).mono ?_); rintro en w' ⟨rfl, rfl⟩))
                      go_round
                      case rel => exact ⟨q, rfl, by have := HQ.out; omega, by have := HQ.out; omega, HT2⟩
                      case measure => have := HQ.out; simp [intOf]; omega
                    · have hb2 : blankC l[q] = false := by simpa using hb
                      rw [hb2] at hbl
                      have HBL := Lib.hid hbl
                      have HT2 := Lib.hid (show Lib.trimRightS (seg l k S) [32, 9] = Lib.trimRightS (seg l k t) [32, 9] ∧ (t = k ∨ ∃ h : t - 1 < l.length, k < t ∧ blankC l[t - 1] = false) from ⟨HT.out, .inr ⟨by omega, hkt, by simpa [show t - 1 = q by omega] using hb2⟩⟩)
                      generalize l[q] = x at *
                      clear hb hb2 hbl hq HT
                      go_wp2_with (go_at_call 64; ((with_reducible refine (HBL.out _).mono ?_); rintro en w' ⟨rfl, rfl⟩))
                      go_meet
                      exact ⟨⟨t, rfl, ht1, ht2, HT2⟩, rfl⟩
                  · have g1 : (t : Int) ≤ (k : Int) := by omega
                    have HT2 := Lib.hid (show Lib.trimRightS (seg l k S) [32, 9] = Lib.trimRightS (seg l k t) [32, 9] ∧ (t = k ∨ ∃ h : t - 1 < l.length, k < t ∧ blankC l[t - 1] = false) from ⟨HT.out, .inl (by omega)⟩)
                    clear HT
                    go_wp2_with fail
                    go_meet
                    exact ⟨⟨t, rfl, ht1, ht2, HT2⟩, rfl⟩
            case rest =>
              obtain ⟨⟨t, rfl, ht1, ht2, HT⟩, rfl⟩ := hcut
              obtain ⟨hls, hlf⟩ := line_trim (l := l) (k := k) (S := S) (t := t) ht1 (by omega) HT.out.1 HT.out.2
              have hfl := lineF_len (seg l k S)
              have hf := HF2.out
              have hsl := seg_len (l := l) (k := k) (t := S) (by omega)
              generalize lineF (seg l k S) = v at *
              generalize lineS (seg l k S) = sf at *
              obtain ⟨L, hL⟩ : ∃ L, L = if sf = true then t - 1 else t := ⟨_, rfl⟩
              rw [← hL] at hlf
              have t0 : (0 : Int) ≤ (t : Int) := by omega
              have HLS := Lib.hid hls
              have HLF := Lib.hid hlf
              have HL := Lib.hid hL
              have HFL := Lib.hid hfl
              have HSL := Lib.hid hsl
              have HF3 := Lib.hid hf
              clear hls hlf hL hfl hsl hf HF2 HT
              go_upto_region 13 with fail
              go_cut [8] (fun s8 wx => s8 = .bool sf ∧ wr = wx)
              case first =>
                as_aux_lemma =>
                  have hs := HLS.out
                  by_cases hkt : k < t
                  · obtain ⟨q, hq⟩ : ∃ q, t = q + 1 := ⟨t - 1, by omega⟩
                    have g1 : (k : Int) < (t : Int) := by omega
                    have g3 : (t : Int) - 1 = (q : Int) := by omega
                    have g4 : (0 : Int) ≤ (q : Int) := by omega
                    have g5 : (q : Int) < (l.length : Int) := by omega
                    have hql : q < l.length := by omega
                    have c0 := HRE.out _ O.out.b q hql
                    have e : l.getD (t - 1) 0 = l[q] := by rw [show t - 1 = q by omega, List.getD, List.getElem?_eq_getElem hql]; rfl
                    rw [e] at hs
                    generalize l[q] = x at *
                    by_cases h61 : x.toNat = 61
                    · have q1 : ((x.toNat : Int) == 61) = true := by simp; omega
                      have hs2 : sf = true := by rw [hs]; simp [hkt, h61]
                      subst hs2
                      clear hs e hq h61
                      go_wp2_with fail
                      go_meet
                      exact ⟨rfl, rfl⟩
                    · have q1 : ((x.toNat : Int) == 61) = false := by simp; omega
                      have hs2 : sf = false := by rw [hs]; simp [h61]
                      subst hs2
                      clear hs e hq h61
                      go_wp2_with fail
                      go_meet
                      exact ⟨rfl, rfl⟩
                  · have g1 : (t : Int) ≤ (k : Int) := by omega
                    have hs2 : sf = false := by rw [hs]; simp [hkt]
                    subst hs2
                    clear hs
                    go_wp2_with fail
                    go_meet
                    exact ⟨rfl, rfl⟩
              case rest =>
                obtain ⟨rfl, rfl⟩ := hcut
                have hsk : sf = true → k < t := fun h => by
                  have := HLS.out
                  rw [h] at this
                  simp only [Bool.true_eq, Bool.and_eq_true, decide_eq_true_eq] at this
                  exact this.1
                have hLk : k ≤ L ∧ L ≤ t := by
                  have := HL.out
                  cases sf with
                  | true => rw [if_pos rfl] at this; have := hsk rfl; omega
                  | false => rw [if_neg (by simp)] at this; omega
                obtain ⟨hL1, hL2⟩ := hLk
                have HSK := Lib.hid hsk
                clear hsk
                go_upto_if 73 with fail
                go_cut [7] (fun s7 wx => s7 = .int .i64 L ∧ wr = wx)
                case first =>
                  as_aux_lemma =>
                    rcases tf sf with hc | hc
                    all_goals
                      subst hc
                      have hs := HL.out
                      simp only [Bool.false_eq_true, if_false, if_true] at hs
                      have HS2 := Lib.hid hs
                      clear hs
                      go_wp2_with fail
                      go_meet
                      exact ⟨congrArg (Value.int .i64) (by have h1 := HS2.out; first | omega | (have h2 := HSK.out trivial; omega) | (have h2 := HSK.out rfl; omega)), rfl⟩
                case rest =>
                  obtain ⟨rfl, rfl⟩ := hcut
                  go_upto_block 6 with fail
                  go_cut [3] (fun s3 wx => ∃ (A5 : Option Addr) (c5 : Nat), s3 = .slice A5 (out ++ v).length c5 ∧ Hid (Ow bv 5 w wx (out ++ v) A5 c5))
                  case first =>
                    as_aux_lemma =>
                      go_wp2_with fail
                      go_loopw [3, 9] (fun s3 s9 wx => ∃ (i : Nat) (o2 : List UInt8) (A5 : Option Addr) (c5 : Nat), s3 = .slice A5 o2.length c5 ∧ s9 = .int .i64 i ∧ k ≤ i ∧ i ≤ L ∧ Hid (o2 ++ unqL (seg l i L) = out ++ v) ∧ Hid (o2.length ≤ i) ∧ Hid (Ow bv 5 w wx o2 A5 c5)) (fun _ s9 _ => L - (intOf s9).toNat)
                      case atStart => exact ⟨k, out, A2, c2, rfl, rfl, Nat.le_refl _, hL1, Lib.hid (by rw [HLF.out]), HO, O⟩
                      case round =>
                        clear O HO
                        obtain ⟨i, o2, A5, c5, rfl, rfl, hi1, hi2, HU, HOL, O⟩ := hrel
                        have j0 : (0 : Int) ≤ (i : Int) := by omega
                        have hLl : L ≤ l.length := by omega
                        by_cases hlt2 : i < L
                        · have j1 : (i : Int) < (L : Int) := by omega
                          have j2 : (i : Int) < (l.length : Int) := by omega
                          have hil : i < l.length := by omega
                          have hesc : ∀ (h1 : i + 1 < l.length) (h2 : i + 2 < l.length), i + 2 < L → l[i].toNat = 61 → 0 ≤ hexV l[i + 1] → 0 ≤ hexV l[i + 2] → unqL (seg l i L) = UInt8.ofNat (16 * hexV l[i + 1] + hexV l[i + 2]).toNat :: unqL (seg l (i + 3) L) := fun _ _ h a b c => unq_esc hLl h a b c
                          have hone : (∀ (h1 : i + 1 < l.length) (h2 : i + 2 < l.length), i + 2 < L → ¬ (l[i].toNat = 61 ∧ 0 ≤ hexV l[i + 1] ∧ 0 ≤ hexV l[i + 2])) → unqL (seg l i L) = l[i] :: unqL (seg l (i + 1) L) := fun hn => unq_one hLl hlt2 (fun h => hn (by omega) (by omega) h)
                          have hr0 : ∀ W, Below w.heap.size w W → W.cell? (ad.add i) = some (bv l[i]) := fun W hb => HRE.out W hb i hil
                          have HR0 := Lib.hid hr0
                          generalize l[i] = x at *
                          by_cases hq : x.toNat = 61 ∧ i + 2 < L
                          · obtain ⟨h61, hlt3⟩ := hq
                            have q1 : ((x.toNat : Int) == 61) = true := by simp; omega
                            have i3 : (i : Int) + 2 < (L : Int) := by omega
                            have i3' : (i : Int) + 2 < (l.length : Int) := by omega
                            have i4 : (i : Int) + 1 < (l.length : Int) := by omega
                            have hr1 : ∀ W, Below w.heap.size w W → W.cell? ⟨ad.block, ad.off + (i + 1), none⟩ = some (bv l[i + 1]) := fun W hb => by rw [← add_succ]; exact HRE.out W hb (i + 1) (by omega)
                            have hr2 : ∀ W, Below w.heap.size w W → W.cell? ⟨ad.block, ad.off + (i + 2), none⟩ = some (bv l[i + 2]) := fun W hb => by rw [← add_succ ad (i + 1)]; exact HRE.out W hb (i + 2) (by omega)
                            have HR1 := Lib.hid hr1
                            have HR2 := Lib.hid hr2
                            have hbd1 := hexV_bd l[i + 1]
                            have hbd2 := hexV_bd l[i + 2]
                            have hx1 := fun W => rhex_calls l[i + 1] W
                            have hx2 := fun W => rhex_calls l[i + 2] W
                            have k1 : i + 1 < l.length := by omega
                            have k2 : i + 2 < l.length := by omega
                            have hesc2 := hesc k1 k2 hlt3 h61
                            have hone2 : ¬ (x.toNat = 61 ∧ 0 ≤ hexV l[i + 1] ∧ 0 ≤ hexV l[i + 2]) → unqL (seg l i L) = x :: unqL (seg l (i + 1) L) := fun hn => hone (fun _ _ _ => hn)
                            clear hesc hone
                            generalize l[i + 1] = y1 at *
                            generalize l[i + 2] = y2 at *
                            generalize hexV y1 = v1 at *
                            generalize hexV y2 = v2 at *
                            have HX1 := Lib.hid hx1
                            have HX2 := Lib.hid hx2
                            clear hr0 hr1 hr2 hx1 hx2
                            have c0 := HR0.out _ O.out.b
                            have c1 := HR1.out _ O.out.b
                            have c2' := HR2.out _ O.out.b
                            by_cases hv : 0 ≤ v1 ∧ 0 ≤ v2
                            · obtain ⟨g1, g2⟩ := hv
                              have hu := HU.out
                              rw [hesc2 g1 g2] at hu
                              have hnb : ((UInt8.ofNat (16 * v1 + v2).toNat).toNat : Int) = 16 * v1 + v2 := by simp; omega
                              have hwr : IntKind.u8.wrap (16 * v1 + v2) = ((UInt8.ofNat (16 * v1 + v2).toNat).toNat : Int) := by rw [IntKind.wrap_u8, hnb]; omega
                              generalize UInt8.ofNat (16 * v1 + v2).toNat = y at *
                              have HWR := Lib.hid hwr
                              have HU2 := Lib.hid hu
                              have HNB := Lib.hid hnb
                              clear hu hnb hwr HU hesc2 hone2 h61
                              go_upto_region 20 with (first | (go_at_call 65; ((with_reducible refine (HX1.out _).mono ?_); rintro e wr2 ⟨rfl, hb2⟩; have T := Lib.hid (O.out.bel hb2); clear O hb2 c0 c1 c2'; have O := T; clear T; have c0 := HR0.out _ O.out.b; have c1 := HR1.out _ O.out.b; have c2' := HR2.out _ O.out.b)) | (go_at_call 65; ((with_reducible refine (HX2.out _).mono ?_); rintro e wr2 ⟨rfl, hb2⟩; have T := Lib.hid (O.out.bel hb2); clear O hb2 c0 c1 c2'; have O := T; clear T; have c0 := HR0.out _ O.out.b; have c1 := HR1.out _ O.out.b; have c2' := HR2.out _ O.out.b)))
                              go_cut [3] (fun s3 wx => ∃ (A6 : Option Addr) (c6 : Nat), s3 = .slice A6 (o2 ++ [y]).length c6 ∧ Hid (Ow bv 5 w wx (o2 ++ [y]) A6 c6))
                              case first =>
                                clear c0 c1 c2'
                                have hw1 : IntKind.i64.wrap ((i : Int) + 1) = (i : Int) + 1 := i64_id (by omega)
                                have hw2 : IntKind.i64.wrap ((i : Int) + 2) = (i : Int) + 2 := i64_id (by omega)
                                have hw3 : IntKind.i64.wrap (16 * v1) = 16 * v1 := i64_id (by omega)
                                have hw4 : IntKind.i64.wrap (16 * v1 + v2) = 16 * v1 + v2 := i64_id (by omega)
                                have ht1' : ((i : Int) + 1).toNat = i + 1 := by omega
                                have ht2' : ((i : Int) + 2).toNat = i + 2 := by omega
                                have ht3 : (0 : Int) ≤ (i : Int) + 1 := by omega
                                have ht4 : (0 : Int) ≤ (i : Int) + 2 := by omega
                                have ho := HOL.out
                                go_region_held3 (fun w' => w'.cell? ⟨ad.block, ad.off + (i + 1), none⟩ = some (bv y1) ∧ w'.cell? ⟨ad.block, ad.off + (i + 2), none⟩ = some (bv y2)) (first | exact ⟨HR1.out _ hb9.out, HR2.out _ hb9.out⟩ | exact ⟨HR1.out _ (by with_reducible repeat (first | exact O.out.b | refine below_drew1 ?_ | refine below_al ?_ _)), HR2.out _ (by with_reducible repeat (first | exact O.out.b | refine below_drew1 ?_ | refine below_al ?_ _))⟩) ((first | (go_at_call 65; ((with_reducible refine (HX1.out _).mono ?_); rintro e wr3 ⟨rfl, hb3⟩; have T : Hid (Ow bv 5 w wr3 o2 A5 c5) := (by first | exact Lib.hid (O.out.bel hb3) | exact Lib.hid (O.out.dr.bel hb3)); clear O hb3; have O := T; clear T)) | (go_at_call 65; ((with_reducible refine (HX2.out _).mono ?_); rintro e wr3 ⟨rfl, hb3⟩; have T : Hid (Ow bv 5 w wr3 o2 A5 c5) := (by first | exact Lib.hid (O.out.bel hb3) | exact Lib.hid (O.out.dr.bel hb3)); clear O hb3; have O := T; clear T)) | (refine step_append_lies _ (by rfl) _ _ 22 (by rfl) w.heap.size 5 i0 (.int .u8 0) 1 1 Tryd.underlying22 HI0.out HZ0.out HZ1.out HZ2.out rfl (by omega) (.slice A5 o2.length c5) o2.length (o2.map bv) (by rfl) (O.out.al _).own _ 1 1 [.int .u8 (IntKind.u8.wrap (16 * v1 + v2))] (by rfl) rfl (cell_one_new _ _ _) (fun u hu => by simp at hu; subst hu; rfl) (by omega) (by unfold maxLen; omega) (by omega) (O.out.al _).b.size _ rfl ?_; intro g cap w9 hown hgrow hat hlt9; have hb9 := Lib.hid (below_grown (O.out.al _).b hgrow (O.out.al _).own (Nat.le_refl _)))))
                                all_goals
                                  go_wp2_with fail
                                  go_meet
                                  rw [HWR.out] at hown
                                  have hown2 : w9.ownsRow w.heap.size 5 1 (.slice (some ⟨g, 0, none⟩) (o2 ++ [y]).length cap) (o2 ++ [y]).length ((o2 ++ [y]).map bv) := by
                                    rw [List.length_append, List.map_append]
                                    unfold bv at *
                                    simp only [List.map_cons, List.map_nil, List.length_singleton]
                                    exact hown
                                  exact ⟨_, cap, by rw [List.length_append]; rfl, Lib.hid ⟨hown2, hb9.out⟩⟩
                              case rest =>
                                obtain ⟨A6, c6, rfl, O6⟩ := hcut
                                clear O c0 c1 c2'
                                go_wp2
                                exact ⟨⟨i + 3, _, A6, c6, rfl, by go_num, by omega, by omega, Lib.hid (by rw [List.append_assoc]; exact HU2.out), Lib.hid (by have := HOL.out; simp; omega), O6⟩, by simp [intOf]; omega⟩
                            · have hu := HU.out
                              rw [hone2 (fun h => hv h.2)] at hu
                              have HU2 := Lib.hid hu
                              have hvv : v1 < 0 ∨ (0 ≤ v1 ∧ v2 < 0) := by omega
                              clear hu HU hesc2 hone2 h61 hv
                              rcases hvv with g1 | ⟨g1, g2⟩
                              all_goals
                                go_wp2_with (first | (go_at_call 65; ((with_reducible refine (HX1.out _).mono ?_); rintro e wr2 ⟨rfl, hb2⟩; have T := Lib.hid (O.out.bel hb2); clear O hb2 c0 c1 c2'; have O := T; clear T; have c0 := HR0.out _ O.out.b; have c1 := HR1.out _ O.out.b; have c2' := HR2.out _ O.out.b)) | (go_at_call 65; ((with_reducible refine (HX2.out _).mono ?_); rintro e wr2 ⟨rfl, hb2⟩; have T := Lib.hid (O.out.bel hb2); clear O hb2 c0 c1 c2'; have O := T; clear T; have c0 := HR0.out _ O.out.b; have c1 := HR1.out _ O.out.b; have c2' := HR2.out _ O.out.b)) | (at_builtin; refine wpList_appG (f := bv) (l := o2) (r := [x]) bv1 (by rfl) _ _ 22 rfl i0 (.int .u8 0) 1 Tryd.underlying22 HI0.out HZ0.out HZ1.out HZ2.out rfl rfl (O.out.al _).own rfl (rd_new (r := [x]) (Bk.new _ _ _) rfl) (by show o2.length + 1 ≤ _; have := HOL.out; unfold maxLen; omega) (by show (o2.length + 1) * 1 ≤ _; have := HOL.out; omega) (O.out.al _).b.size ?_; intro A6 c6 w6 hown hg9 _; have T := Lib.hid ((O.out.al _).app hg9 hown); clear O c0 c1 c2' hown hg9; have O := T; clear T))
                                exact ⟨⟨i + 1, o2 ++ [x], A6, c6, by simp, by go_num, by omega, by omega, Lib.hid (by rw [List.append_assoc]; exact HU2.out), Lib.hid (by have := HOL.out; simp; omega), O⟩, by simp [intOf]; omega⟩
                          · have hu := HU.out
                            rw [hone (fun _ _ h2 h3 => hq ⟨h3.1, h2⟩)] at hu
                            have HU2 := Lib.hid hu
                            have hvv : ((x.toNat : Int) == 61) = false ∨ (((x.toNat : Int) == 61) = true ∧ (L : Int) ≤ (i : Int) + 2) := by
                              by_cases h : x.toNat = 61
                              · right; refine ⟨by simp; omega, ?_⟩
                                have : ¬ (i + 2 < L) := fun h2 => hq ⟨h, h2⟩
                                omega
                              · left; simp; omega
                            have c0 := HR0.out _ O.out.b
                            clear hu HU hesc hone hr0 hq
                            rcases hvv with g1 | ⟨g1, g2⟩
                            all_goals
                              go_wp2_with (at_builtin; refine wpList_appG (f := bv) (l := o2) (r := [x]) bv1 (by rfl) _ _ 22 rfl i0 (.int .u8 0) 1 Tryd.underlying22 HI0.out HZ0.out HZ1.out HZ2.out rfl rfl (O.out.al _).own rfl (rd_new (r := [x]) (Bk.new _ _ _) rfl) (by show o2.length + 1 ≤ _; have := HOL.out; unfold maxLen; omega) (by show (o2.length + 1) * 1 ≤ _; have := HOL.out; omega) (O.out.al _).b.size ?_; intro A6 c6 w6 hown hg9 _; have T := Lib.hid ((O.out.al _).app hg9 hown); clear O c0 hown hg9; have O := T; clear T)
                              exact ⟨⟨i + 1, o2 ++ [x], A6, c6, by simp, by go_num, by omega, by omega, Lib.hid (by rw [List.append_assoc]; exact HU2.out), Lib.hid (by have := HOL.out; simp; omega), O⟩, by simp [intOf]; omega⟩
                        · have hse : i = L := by omega
                          have hu := HU.out
                          rw [hse, seg_self, unqL_nil, List.append_nil] at hu
                          have HU2 := Lib.hid hu
                          have j1 : (L : Int) ≤ (i : Int) := by omega
                          clear hse hu HU
                          go_wp2_with fail
                          go_meet
                          exact ⟨A5, c5, by rw [← HU2.out], by rw [← HU2.out]; exact O⟩
                  case rest =>
                    clear O
                    obtain ⟨A5, c5, rfl, O⟩ := hcut
                    have hf := HF3.out
                    have hvl := HFL.out
                    rw [HSL.out] at hvl
                    rcases Nat.lt_or_ge E l.length with hE | hE
                    · have g1 : (E : Int) < (l.length : Int) := by omega
                      rcases tf sf with hc | hc
                      · subst hc
                        rw [if_pos ⟨hE, rfl⟩, ← List.append_assoc, ← List.append_assoc] at hf
                        have heb := seg_len (l := l) (k := S) (t := E + 1) (by omega)
                        have hre2 : Rd w bv (some (ad.add S)) (seg l S (E + 1)) := (HR.out.drop S).take _
                        have HF4 := Lib.hid hf
                        generalize seg l S (E + 1) = eb at *
                        have HEB := Lib.hid heb
                        have HRE2 := Lib.hid hre2
                        have g2 : (S : Int) ≤ (E : Int) + 1 := by omega
                        have g3 : (E : Int) + 1 ≤ (c : Int) := by omega
                        have g4 : (S : Int) ≤ (c : Int) := by omega
                        have g5 : E + 1 - S = eb.length := by omega
                        have gne : ¬ c = S := by omega
                        clear hf heb hre2
                        go_wp2_with (at_builtin; refine wpList_appG (f := bv) (l := out ++ v) (r := eb) bv1 (by rfl) _ _ 22 rfl i0 (.int .u8 0) 1 Tryd.underlying22 HI0.out HZ0.out HZ1.out HZ2.out rfl rfl O.out.own rfl (HRE2.out.bel O.out.b) (by have := HO.out; have := HEB.out; rw [List.length_append]; unfold maxLen; omega) (by have := HO.out; have := HEB.out; rw [List.length_append]; omega) O.out.b.size ?_; intro A6 c6 w6 hown hg9 _; have T := Lib.hid (O.out.app hg9 hown); clear O hown hg9; have O := T; clear T)
                        exact ⟨⟨E + 1, (out ++ v) ++ eb, A6, c6, by simp, by go_num, by omega, HF4, Lib.hid (by have := HO.out; have := HEB.out; rw [List.length_append, List.length_append]; omega), O⟩, by simp [intOf]; omega⟩
                      · subst hc
                        rw [if_neg (by simp), List.nil_append, ← List.append_assoc] at hf
                        have HF4 := Lib.hid hf
                        clear hf
                        go_wp2
                        exact ⟨⟨E + 1, out ++ v, A5, c5, by simp, by go_num, by omega, HF4, Lib.hid (by have := HO.out; rw [List.length_append]; omega), O⟩, by simp [intOf]; omega⟩
                    · have g1 : (l.length : Int) ≤ (E : Int) := by omega
                      rw [if_neg (by omega), List.nil_append, ← List.append_assoc] at hf
                      have HF4 := Lib.hid hf
                      clear hf
                      go_wp2
                      exact ⟨⟨E + 1, out ++ v, A5, c5, by simp, by go_num, by omega, HF4, Lib.hid (by have := HO.out; rw [List.length_append]; omega), O⟩, by simp [intOf]; omega⟩
    · have hf := HF.out
      rw [List.drop_eq_nil_of_le (by omega)] at hf
      have HF2 : Hid (out = res) := Lib.hid (by rw [← hf]; show _ = _ ++ []; simp)
      clear hf HF
      go_wp2
      go_ret
      exact ⟨A2, c2, by rw [← HF2.out]; rfl, by rw [← HF2.out]; exact O.out.rd, by rw [← HF2.out]; exact Fr.own O.out.own (Nat.le_refl _), O.out.b⟩
end Go.Proofs.YtjgohmfmalcjoaaDoor.TrW
