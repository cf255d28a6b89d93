import Derived.Test.YtnjplichhkmmhaaMm
import Derived.Test.YtnjplichhkmmhaaMh
import Derived.Lib.SlicesCompact
import Derived.Shelf.Small.Bits
import Derived.Shelf.Small.Wraps
import Derived.Shelf.Strconv.Itoa0
import Derived.Shelf.Sort.Plain
import Derived.Shelf.Slices.Turned
import Derived.Ground.Names2Prog
import Derived.Shelf.Slices.CompactI
import Derived.Shelf.Slices.SearchI
import Derived.Shelf.Slices.Cells
import Derived.Shelf.Slices.In.SortNone
import Derived.Ground.SlgnProg
import Derived.Shelf.SlicesE.Compact
import Derived.Ground.SlgfProg
import Derived.Shelf.SlicesE.IndexFunc
import Derived.Shelf.SlicesE.DeleteFunc
import Derived.Test.YtnjplichhkmmhaaProg
import Derived.Test.YtnjplichhkmmhaaRecW17
import Derived.Sort.OwnSortedInts
/- Plain laws: increasing lists; the program's way to the instants of a range, and the reference's. No Go. -/
namespace Go.Proofs.Ytnjplichhkmmhaa.Cal
open Go.Proofs.Ytnjplichhkmmhaa.Base
set_option linter.unusedVariables false
abbrev Inc (l : List Int) : Prop := l.Pairwise (· < ·)
theorem inc_eq : ∀ {l l' : List Int}, Inc l → Inc l' → (∀ x, x ∈ l ↔ x ∈ l') → l = l'
  | [], [], _, _, _ => rfl
  | [], y :: l', _, _, h => by have := (h y).2 (by simp); simp at this
  | x :: l, [], _, _, h => by have := (h x).1 (by simp); simp at this
  | x :: l, y :: l', h1, h2, h => by
    have a1 := List.pairwise_cons.1 h1
    have a2 := List.pairwise_cons.1 h2
    have hxy : x = y := by
      have e1 : x ∈ y :: l' := (h x).1 (by simp)
      have e2 : y ∈ x :: l := (h y).2 (by simp)
      rcases List.mem_cons.1 e1 with e | e
      · exact e
      · rcases List.mem_cons.1 e2 with e' | e'
        · exact e'.symm
        · have := a2.1 x e
          have := a1.1 y e'
          omega
    subst hxy
    congr 1
    refine inc_eq a1.2 a2.2 (fun u => ⟨fun hu => ?_, fun hu => ?_⟩)
    · have := (h u).1 (by simp [hu])
      rcases List.mem_cons.1 this with e | e
      · have := a1.1 u hu; omega
      · exact e
    · have := (h u).2 (by simp [hu])
      rcases List.mem_cons.1 this with e | e
      · have := a2.1 u hu; omega
      · exact e
/-- insertion into an increasing list. -/
def ins (n : Int) : List Int → List Int
  | [] => [n]
  | x :: l => if n < x then n :: x :: l else x :: ins n l
theorem mem_ins {n u : Int} : ∀ {l : List Int}, u ∈ ins n l ↔ u = n ∨ u ∈ l
  | [] => by simp [ins]
  | x :: l => by
    unfold ins
    split
    · simp
    · simp only [List.mem_cons, mem_ins (l := l)]
      constructor
      · rintro (h | h | h) <;> simp [h]
      · rintro (h | h | h) <;> simp [h]
theorem ins_inc {n : Int} : ∀ {l : List Int}, Inc l → n ∉ l → Inc (ins n l)
  | [], _, _ => by simp [ins, Inc]
  | x :: l, h, hn => by
    have a := List.pairwise_cons.1 h
    have hx : n ≠ x := fun e => hn (by simp [e])
    unfold ins
    split
    · rename_i hlt
      refine List.pairwise_cons.2 ⟨fun u hu => ?_, h⟩
      rcases List.mem_cons.1 hu with e | e
      · omega
      · have := a.1 u e; omega
    · refine List.pairwise_cons.2 ⟨fun u hu => ?_, ins_inc a.2 (fun e => hn (by simp [e]))⟩
      rcases mem_ins.1 hu with e | e
      · omega
      · exact a.1 u e
theorem stepI_true (n : Int) : ∀ (l acc : List Int), l.foldl (stepI n) (acc, true) = (acc ++ l, true)
  | [], acc => by simp
  | x :: l, acc => by
    rw [List.foldl_cons, show stepI n (acc, true) x = (acc ++ [x], true) by simp [stepI], stepI_true n l]
    simp
theorem stepI_ins (n : Int) : ∀ (l acc : List Int), (if (l.foldl (stepI n) (acc, false)).2 = true then (l.foldl (stepI n) (acc, false)).1 else (l.foldl (stepI n) (acc, false)).1 ++ [n]) = acc ++ ins n l
  | [], acc => by simp [ins]
  | x :: l, acc => by
    rw [List.foldl_cons]
    by_cases h : n < x
    · rw [show stepI n (acc, false) x = (acc ++ [n] ++ [x], true) by simp [stepI, h], stepI_true]
      simp [ins, h]
    · rw [show stepI n (acc, false) x = (acc ++ [x], false) by simp [stepI, h], stepI_ins n l]
      simp [ins, h]
theorem insL_spec {l : List Int} {n : Int} (h : Inc l) : Inc (insL l n) ∧ ∀ u, u ∈ insL l n ↔ u = n ∨ u ∈ l := by
  unfold insL
  split
  · rename_i hc
    have hc : n ∈ l := by simpa using hc
    exact ⟨h, fun u => ⟨fun hu => .inr hu, fun hu => hu.elim (fun e => e ▸ hc) id⟩⟩
  · rename_i hc
    have hc : n ∉ l := by simpa using hc
    have e : insR l n = ins n l := by
      have := stepI_ins n l []
      unfold insR insTo
      rw [List.take_length]
      simpa using this
    rw [e]
    exact ⟨ins_inc h hc, fun u => mem_ins⟩
/-- the instants of a later day are later. -/
theorem allL_mem {z : Zone} {d : Date} {t : Int} (h : t ∈ allL z d) : ∃ o, t = secZ d o ∧ (o = z.st ∨ o = z.su) ∧ cur z t d.y = o := by
  have key : ∀ n, t ∈ allTo z d n → ∃ o, t = secZ d o ∧ (o = z.st ∨ o = z.su) ∧ cur z t d.y = o := by
    intro n
    induction n with
    | zero => intro h; simp [allTo] at h
    | succ n ih =>
      intro h
      unfold allTo at h
      split at h
      · rename_i hc
        rcases List.mem_append.1 h with h | h
        · exact ih h
        · have : t = secZ d (offAt z n) := by simpa using h
          subst this
          refine ⟨_, rfl, ?_, hc.1⟩
          unfold offAt
          split <;> simp
      · exact ih h
  exact key 2 h
theorem allL_lt {z : Zone} {d : Date} {n m t t' : Int} (hk : z.fault = (0, 0)) (hn : n < m) (h : t ∈ allL z (dateN n d)) (h' : t' ∈ allL z (dateN m d)) : t < t' := by
  obtain ⟨o, e, ho, hc⟩ := allL_mem h
  obtain ⟨o', e', ho', hc'⟩ := allL_mem h'
  have s : ∀ k o, secZ (dateN k d) o = k * 86400 + d.h * 3600 + (d.mi - o) * 60 + d.s := fun k o => by
    have := (dnum_ymd k).1
    unfold secZ secs dateN
    dsimp only
    rw [this]
  rw [s] at e e'
  cases hz : z.b.zero
  · have := Zone.sum_of hk hz
    have := this.lt
    have := (Zone.sum_of hk hz).le
    rcases ho with rfl | rfl <;> rcases ho' with rfl | rfl <;> omega
  · rw [cur_zero hz] at hc hc'
    omega
theorem regF_inc {z : Zone} {d : Date} {r : Rule} (hk : z.fault = (0, 0)) : ∀ (ds acc : List Int), Inc ds → Inc acc → (∀ a ∈ acc, ∀ n ∈ ds, ∀ t ∈ allL z (dateN n d), a < t) → Inc (regF z d r acc ds)
  | [], acc, _, h, _ => h
  | n :: ds, acc, hd, ha, hx => by
    have hd' := List.pairwise_cons.1 hd
    unfold regF
    split
    · exact regF_inc hk ds acc hd'.2 ha (fun a h1 m h2 => hx a h1 m (by simp [h2]))
    · rename_i t l he
      have hin : t ∈ allL z (dateN n d) := by rw [he]; simp
      have hat : Inc (acc ++ [t]) := List.pairwise_append.2 ⟨ha, by simp, fun a h1 b h2 => by
        have : b = t := by simpa using h2
        subst this
        exact hx a h1 n (by simp) b hin⟩
      split
      · exact ha
      split
      · exact hat
      · refine regF_inc hk ds (acc ++ [t]) hd'.2 hat (fun a h1 m h2 u h3 => ?_)
        rcases List.mem_append.1 h1 with h1 | h1
        · exact hx a h1 m (by simp [h2]) u h3
        · have : a = t := by simpa using h1
          subst this
          exact allL_lt hk (hd'.1 m h2) hin h3
theorem dayL_inc (d : Date) (r : Rule) : ∀ m, Inc (dayL d r m) ∧ ∀ x ∈ dayL d r m, x < firstD d + m
  | 0 => by simp [dayL, Inc]
  | m + 1 => by
    obtain ⟨h1, h2⟩ := dayL_inc d r m
    unfold dayL
    split
    · refine ⟨List.pairwise_append.2 ⟨h1, by simp, fun a ha b hb => ?_⟩, fun x hx => ?_⟩
      · have : b = firstD d + m := by simpa using hb
        have := h2 a ha
        omega
      · rcases List.mem_append.1 hx with hx | hx
        · have := h2 x hx; omega
        · have : x = firstD d + m := by simpa using hx
          omega
    · exact ⟨h1, fun x hx => by have := h2 x hx; omega⟩
theorem regL_inc {z : Zone} {d : Date} {r : Rule} (hk : z.fault = (0, 0)) : Inc (regL z d r) :=
  regF_inc hk _ [] (dayL_inc d r 1501).1 (by simp [Inc]) (by simp)
theorem betL_spec {z : Zone} {d : Date} {r : Rule} {a b : Int} (hk : z.fault = (0, 0)) : Inc (betL z d r a b) ∧ ∀ u, u ∈ betL z d r a b ↔ inR u a b = true ∧ (u ∈ regL z d r ∧ u ∉ r.ex ∨ u ∈ r.ad) := by
  have key : ∀ (ad o : List Int), Inc o → Inc (ad.foldl (betAdd a b) o) ∧ ∀ u, u ∈ ad.foldl (betAdd a b) o ↔ u ∈ o ∨ (inR u a b = true ∧ u ∈ ad) := by
    intro ad
    induction ad with
    | nil => intro o h; exact ⟨h, fun u => by simp⟩
    | cons t ad ih =>
      intro o h
      rw [List.foldl_cons]
      by_cases hr : inR t a b = true
      · have e : betAdd a b o t = insL o t := if_pos hr
        rw [e]
        obtain ⟨i1, i2⟩ := insL_spec (n := t) h
        obtain ⟨j1, j2⟩ := ih _ i1
        refine ⟨j1, fun u => ?_⟩
        rw [j2, i2]
        constructor
        · rintro ((rfl | h) | ⟨h, h'⟩)
          · exact .inr ⟨hr, by simp⟩
          · exact .inl h
          · exact .inr ⟨h, by simp [h']⟩
        · rintro (h | ⟨h, h'⟩)
          · exact .inl (.inr h)
          · rcases List.mem_cons.1 h' with rfl | h'
            · exact .inl (.inl rfl)
            · exact .inr ⟨h, h'⟩
      · have e : betAdd a b o t = o := if_neg hr
        rw [e]
        obtain ⟨j1, j2⟩ := ih _ h
        refine ⟨j1, fun u => ?_⟩
        rw [j2]
        constructor
        · rintro (h | ⟨h, h'⟩)
          · exact .inl h
          · exact .inr ⟨h, by simp [h']⟩
        · rintro (h | ⟨h, h'⟩)
          · exact .inl h
          · rcases List.mem_cons.1 h' with rfl | h'
            · exact absurd h hr
            · exact .inr ⟨h, h'⟩
  obtain ⟨k1, k2⟩ := key r.ad ((regL z d r).filter (betKeep r a b)) (List.Pairwise.filter _ (regL_inc hk))
  refine ⟨k1, fun u => ?_⟩
  unfold betL
  rw [k2, List.mem_filter]
  unfold betKeep
  simp only [Bool.and_eq_true, Bool.not_eq_true', List.contains_eq_mem, decide_eq_false_iff_not]
  constructor
  · rintro (⟨h1, h2, h3⟩ | ⟨h1, h2⟩)
    · exact ⟨h2, .inl ⟨h1, h3⟩⟩
    · exact ⟨h1, .inr h2⟩
  · rintro ⟨h1, ⟨h2, h3⟩ | h2⟩
    · exact .inl ⟨h2, h1, h3⟩
    · exact .inr ⟨h1, h2⟩
theorem compact_spec {zs : List Int} (hs : zs.Pairwise (· ≤ ·)) : Inc (Lib.compact zs) ∧ ∀ u, u ∈ Lib.compact zs ↔ u ∈ zs := by
  have hd : ∀ i j, i < j → j < zs.length → zs.toArray[i]! ≤ zs.toArray[j]! := fun i j hij hj => by
    have := List.pairwise_iff_getElem.1 hs i j (by omega) hj hij
    rw [getElem!_pos zs.toArray i (by simp; omega), getElem!_pos zs.toArray j (by simpa using hj)]
    simpa using this
  have key : ∀ m, m ≤ zs.length → Inc (Lib.compactUpTo zs.toArray m) ∧ ∀ u, u ∈ Lib.compactUpTo zs.toArray m ↔ ∃ i, i < m ∧ zs.toArray[i]! = u := by
    intro m
    induction m with
    | zero => intro _; simp [Lib.compactUpTo, Inc]
    | succ m ih =>
      intro hm
      obtain ⟨i1, i2⟩ := ih (by omega)
      rw [Lib.compactUpTo_succ]
      split
      · rename_i hkp
        refine ⟨List.pairwise_append.2 ⟨i1, by simp, fun x hx y hy => ?_⟩, fun u => ?_⟩
        · have hy : y = zs.toArray[m]! := by simpa using hy
          obtain ⟨i, hi, rfl⟩ := (i2 x).1 hx
          have hne : zs.toArray[m]! ≠ zs.toArray[m - 1]! := fun e => by rw [Lib.keeps_neg (by omega) e] at hkp; cases hkp
          have h1 := hd (m - 1) m (by omega) (by omega)
          have h2 : zs.toArray[i]! ≤ zs.toArray[m - 1]! := by
            by_cases e : i = m - 1
            · rw [e]; exact Int.le_refl _
            · exact hd i (m - 1) (by omega) (by omega)
          omega
        · rw [List.mem_append, i2]
          constructor
          · rintro (⟨i, h1, h2⟩ | h)
            · exact ⟨i, by omega, h2⟩
            · exact ⟨m, by omega, (List.mem_singleton.1 h).symm⟩
          · rintro ⟨i, h1, h2⟩
            by_cases e : i = m
            · subst e; exact .inr (by simp [h2])
            · exact .inl ⟨i, by omega, h2⟩
      · rename_i hkp
        have hm0 : m ≠ 0 := fun e => by subst e; exact hkp (Lib.keeps_lt_one _ 0 (by omega))
        have he : zs.toArray[m]! = zs.toArray[m - 1]! := Decidable.byContradiction fun e => hkp (Lib.keeps_pos e)
        refine ⟨by simpa using i1, fun u => ?_⟩
        rw [List.append_nil, i2]
        constructor
        · rintro ⟨i, h1, h2⟩
          exact ⟨i, by omega, h2⟩
        · rintro ⟨i, h1, h2⟩
          by_cases e : i = m
          · subst e; exact ⟨i - 1, by omega, he ▸ h2⟩
          · exact ⟨i, by omega, h2⟩
  obtain ⟨k1, k2⟩ := key zs.length (Nat.le_refl _)
  refine ⟨k1, fun u => ?_⟩
  unfold Lib.compact
  rw [k2, List.mem_iff_getElem]
  constructor
  · rintro ⟨i, h1, h2⟩
    rw [getElem!_pos zs.toArray i (by simpa using h1)] at h2
    exact ⟨i, h1, by simpa using h2⟩
  · rintro ⟨i, h1, h2⟩
    refine ⟨i, h1, ?_⟩
    rw [getElem!_pos zs.toArray i (by simpa using h1)]
    simpa using h2
/-- the program's way: the regular ones without the exceptions, and those that are added; sorted; each once; those of the range. -/
def rawL (z : Zone) (d : Date) (r : Rule) : List Int := (regL z d r).filter (fun t => !r.ex.contains t) ++ r.ad
def srtL (z : Zone) (d : Date) (r : Rule) : List Int := (rawL z d r).mergeSort fun x y => decide (x ≤ y)
theorem betP_eq {z : Zone} {d : Date} {r : Rule} {a b : Int} (hk : z.fault = (0, 0)) : (Lib.compact (srtL z d r)).filter (fun t => !(decide (t < a) || decide (b < t))) = betL z d r a b := by
  have hs : (srtL z d r).Pairwise (· ≤ ·) := by
    have := List.pairwise_mergeSort (le := fun x y : Int => decide (x ≤ y)) (fun a b c h1 h2 => by simp only [decide_eq_true_eq] at *; omega) (fun a b => by simp only [Bool.or_eq_true, decide_eq_true_eq]; omega) (rawL z d r)
    exact this.imp (fun h => by simpa using h)
  obtain ⟨c1, c2⟩ := compact_spec hs
  obtain ⟨b1, b2⟩ := betL_spec (z := z) (d := d) (r := r) (a := a) (b := b) hk
  refine inc_eq (List.Pairwise.filter _ c1) b1 (fun u => ?_)
  rw [b2, List.mem_filter, c2]
  unfold srtL
  rw [(List.mergeSort_perm _ _).mem_iff]
  unfold rawL
  rw [List.mem_append, List.mem_filter]
  have hr : (!(decide (u < a) || decide (b < u))) = true ↔ inR u a b = true := by
    unfold inR
    simp only [Bool.not_eq_true', Bool.or_eq_false_iff, decide_eq_false_iff_not, Bool.and_eq_true, decide_eq_true_eq]
    omega
  rw [hr]
  simp only [Bool.not_eq_true', List.contains_eq_mem, decide_eq_false_iff_not]
  exact And.comm
end Go.Proofs.Ytnjplichhkmmhaa.Cal
/- The shelf's contracts at this seat's dump, as the kit's lay-plain.mjs wrote them (numbers of seat Ytnjplichhkmmhaa). -/
namespace Go.Proofs
open Go.Shelf
def Try.lays128_ren : Go.Shelf.Ren := ⟨fun | 128 => 95 | n => n, fun | 51 => 102 | 3 => 3 | 4 => 4 | 46 => 87 | 5 => 5 | 9 => 9 | n => n, fun | n => n⟩
theorem Try.lays128 : Go.Proofs.Lays.n128 Try.prog Try.lays128_ren := {
  mixed := by kernel_rfl
  f128 := Try.func95.trans (congrArg some (by kernel_rfl))
  t3 := Try.underlying3
  a3 := Try.isAgg3
  z3 := Try.sizeOf3
  v3 := Try.zeroValue3
  t4 := Try.underlying4
  a4 := Try.isAgg4
  z4 := Try.sizeOf4
  v4 := Try.zeroValue4
  t5 := Try.underlying5
  a5 := Try.isAgg5
  z5 := Try.sizeOf5
  v5 := Try.zeroValue5
  t9 := Try.underlying9
  a9 := Try.isAgg9
  z9 := Try.sizeOf9
  v9 := Try.zeroValue9
  t46 := Try.underlying87
  a46 := Try.isAgg87
  z46 := Try.sizeOf87
  v46 := Try.zeroValue87
  t51 := Try.underlying102
  a51 := Try.isAgg102
  z51 := Try.sizeOf102
  v51 := Try.zeroValue102 }
/-- bits.Len32: "Len32 returns the minimum number of bits required to represent x; the result is 0 for x == 0.": IT RETURNS 'Lib.bitLen x'; the world is as it was. ('h0', 'h1': x is a uint32.) (LAID: no walk: one application.) -/
theorem Try.bits_Len32 (x : Int) (w : World) (h0 : 0 ≤ x) (h1 : x ≤ 4294967295) :
    Calls Try.prog 95 #[.int .u32 x] w fun e w' => e = .returned (.int .i64 (Lib.bitLen x.toNat)) ∧ w' = w := Any.bits_Len32 Try.lays128 x w h0 h1
def Try.lays125_ren : Go.Shelf.Ren := ⟨fun | 125 => 76 | 128 => 95 | 129 => 96 | n => n, fun | 46 => 87 | 3 => 3 | 51 => 102 | 53 => 104 | 4 => 4 | 5 => 5 | 9 => 9 | n => n, fun | n => n⟩
theorem Try.lays125 : Go.Proofs.Lays.n125 Try.prog Try.lays125_ren := {
  mixed := by kernel_rfl
  f125 := Try.func76.trans (congrArg some (by kernel_rfl))
  f128 := Try.func95.trans (congrArg some (by kernel_rfl))
  f129 := Try.func96.trans (congrArg some (by kernel_rfl))
  t3 := Try.underlying3
  a3 := Try.isAgg3
  z3 := Try.sizeOf3
  v3 := Try.zeroValue3
  t4 := Try.underlying4
  a4 := Try.isAgg4
  z4 := Try.sizeOf4
  v4 := Try.zeroValue4
  t5 := Try.underlying5
  a5 := Try.isAgg5
  z5 := Try.sizeOf5
  v5 := Try.zeroValue5
  t9 := Try.underlying9
  a9 := Try.isAgg9
  z9 := Try.sizeOf9
  v9 := Try.zeroValue9
  t46 := Try.underlying87
  a46 := Try.isAgg87
  z46 := Try.sizeOf87
  v46 := Try.zeroValue87
  t51 := Try.underlying102
  a51 := Try.isAgg102
  z51 := Try.sizeOf102
  v51 := Try.zeroValue102
  t53 := Try.underlying104
  a53 := Try.isAgg104
  z53 := Try.sizeOf104
  v53 := Try.zeroValue104 }
/-- bits.Len: "Len returns the minimum number of bits required to represent x; the result is 0 for x == 0.": IT RETURNS 'Lib.bitLen x'; the world is as it was. (A uint has 64 bits in the model.) ITS CALLEE bits.Len64 IS MET BY ITS OWN CONTRACT OFF THE SHELF (lay that first). (LAID: no walk: one application.) -/
theorem Try.bits_Len (x : Int) (w : World) (h0 : 0 ≤ x) (h1 : x ≤ 18446744073709551615) :
    Calls Try.prog 76 #[.int .u64 x] w fun e w' => e = .returned (.int .i64 (Lib.bitLen x.toNat)) ∧ w' = w := Any.bits_Len Try.lays125 x w h0 h1
def Try.lays215_ren : Go.Shelf.Ren := ⟨fun | 215 => 103 | n => n, fun | 3 => 3 | 4 => 4 | n => n, fun | n => n⟩
theorem Try.lays215 : Go.Proofs.Lays.n215 Try.prog Try.lays215_ren := {
  mixed := by kernel_rfl
  f215 := Try.func103.trans (congrArg some (by kernel_rfl))
  t3 := Try.underlying3
  a3 := Try.isAgg3
  z3 := Try.sizeOf3
  v3 := Try.zeroValue3
  t4 := Try.underlying4
  a4 := Try.isAgg4
  z4 := Try.sizeOf4
  v4 := Try.zeroValue4 }
open Go.RowKit in
/-- cmp.isNaN at int: 'x != x': false. (LAID: no walk: one application.) -/
theorem Try.cmp_isNaN_int (x : Int) (w : World) :
    Calls Try.prog 103 #[.int .i64 x] w fun e w' => e = .returned (.bool false) ∧ w' = w := Any.cmp_isNaN_int Try.lays215 x w
def Try.lays129_ren : Go.Shelf.Ren := ⟨fun | 129 => 96 | n => n, fun | 53 => 104 | 3 => 3 | 4 => 4 | 46 => 87 | 5 => 5 | 9 => 9 | n => n, fun | n => n⟩
theorem Try.lays129 : Go.Proofs.Lays.n129 Try.prog Try.lays129_ren := {
  mixed := by kernel_rfl
  f129 := Try.func96.trans (congrArg some (by kernel_rfl))
  t3 := Try.underlying3
  a3 := Try.isAgg3
  z3 := Try.sizeOf3
  v3 := Try.zeroValue3
  t4 := Try.underlying4
  a4 := Try.isAgg4
  z4 := Try.sizeOf4
  v4 := Try.zeroValue4
  t5 := Try.underlying5
  a5 := Try.isAgg5
  z5 := Try.sizeOf5
  v5 := Try.zeroValue5
  t9 := Try.underlying9
  a9 := Try.isAgg9
  z9 := Try.sizeOf9
  v9 := Try.zeroValue9
  t46 := Try.underlying87
  a46 := Try.isAgg87
  z46 := Try.sizeOf87
  v46 := Try.zeroValue87
  t53 := Try.underlying104
  a53 := Try.isAgg104
  z53 := Try.sizeOf104
  v53 := Try.zeroValue104 }
/-- bits.Len64: "Len64 returns the minimum number of bits required to represent x; the result is 0 for x == 0.": IT RETURNS 'Lib.bitLen x'; the world is as it was. ('h0', 'h1': x is a uint64.) (LAID: no walk: one application.) -/
theorem Try.bits_Len64 (x : Int) (w : World) (h0 : 0 ≤ x) (h1 : x ≤ 18446744073709551615) :
    Calls Try.prog 96 #[.int .u64 x] w fun e w' => e = .returned (.int .i64 (Lib.bitLen x.toNat)) ∧ w' = w := Any.bits_Len64 Try.lays129 x w h0 h1
def Try.lays189_ren : Go.Shelf.Ren := ⟨fun | 189 => 60 | 125 => 76 | 257 => 75 | 128 => 95 | 129 => 96 | 294 => 86 | 295 => 87 | 296 => 88 | 297 => 89 | 298 => 90 | 299 => 91 | 216 => 92 | 300 => 93 | 301 => 94 | 328 => 98 | 329 => 99 | 330 => 100 | 331 => 101 | 332 => 102 | 215 => 103 | 343 => 104 | n => n, fun | 28 => 35 | 3 => 3 | 46 => 87 | 0 => 0 | 51 => 102 | 53 => 104 | 4 => 4 | 183 => 94 | 182 => 93 | 131 => 99 | 5 => 5 | 9 => 9 | 218 => 105 | 222 => 109 | 228 => 111 | 229 => 112 | n => n, fun | n => n⟩
theorem Try.lays189 : Go.Proofs.Lays.n189 Try.prog Try.lays189_ren := {
  mixed := by kernel_rfl
  f125 := Try.func76.trans (congrArg some (by kernel_rfl))
  f128 := Try.func95.trans (congrArg some (by kernel_rfl))
  f129 := Try.func96.trans (congrArg some (by kernel_rfl))
  f189 := Try.func60.trans (congrArg some (by kernel_rfl))
  f215 := Try.func103.trans (congrArg some (by kernel_rfl))
  f216 := Try.func92.trans (congrArg some (by kernel_rfl))
  f257 := Try.func75.trans (congrArg some (by kernel_rfl))
  f294 := Try.func86.trans (congrArg some (by kernel_rfl))
  f295 := Try.func87.trans (congrArg some (by kernel_rfl))
  f296 := Try.func88.trans (congrArg some (by kernel_rfl))
  f297 := Try.func89.trans (congrArg some (by kernel_rfl))
  f298 := Try.func90.trans (congrArg some (by kernel_rfl))
  f299 := Try.func91.trans (congrArg some (by kernel_rfl))
  f300 := Try.func93.trans (congrArg some (by kernel_rfl))
  f301 := Try.func94.trans (congrArg some (by kernel_rfl))
  f328 := Try.func98.trans (congrArg some (by kernel_rfl))
  f329 := Try.func99.trans (congrArg some (by kernel_rfl))
  f330 := Try.func100.trans (congrArg some (by kernel_rfl))
  f331 := Try.func101.trans (congrArg some (by kernel_rfl))
  f332 := Try.func102.trans (congrArg some (by kernel_rfl))
  f343 := Try.func104.trans (congrArg some (by kernel_rfl))
  t0 := Try.underlying0
  a0 := Try.isAgg0
  z0 := Try.sizeOf0
  v0 := Try.zeroValue0
  t3 := Try.underlying3
  a3 := Try.isAgg3
  z3 := Try.sizeOf3
  v3 := Try.zeroValue3
  t4 := Try.underlying4
  a4 := Try.isAgg4
  z4 := Try.sizeOf4
  v4 := Try.zeroValue4
  t5 := Try.underlying5
  a5 := Try.isAgg5
  z5 := Try.sizeOf5
  v5 := Try.zeroValue5
  t9 := Try.underlying9
  a9 := Try.isAgg9
  z9 := Try.sizeOf9
  v9 := Try.zeroValue9
  t28 := Try.underlying35
  a28 := Try.isAgg35
  z28 := Try.sizeOf35
  v28 := Try.zeroValue35
  t46 := Try.underlying87
  a46 := Try.isAgg87
  z46 := Try.sizeOf87
  v46 := Try.zeroValue87
  t51 := Try.underlying102
  a51 := Try.isAgg102
  z51 := Try.sizeOf102
  v51 := Try.zeroValue102
  t53 := Try.underlying104
  a53 := Try.isAgg104
  z53 := Try.sizeOf104
  v53 := Try.zeroValue104
  t131 := Try.underlying99
  a131 := Try.isAgg99
  z131 := Try.sizeOf99
  v131 := Try.zeroValue99
  t182 := Try.underlying93
  a182 := Try.isAgg93
  z182 := Try.sizeOf93
  v182 := Try.zeroValue93
  t183 := Try.underlying94
  a183 := Try.isAgg94
  z183 := Try.sizeOf94
  v183 := Try.zeroValue94
  t218 := Try.underlying105
  a218 := Try.isAgg105
  z218 := Try.sizeOf105
  v218 := Try.zeroValue105
  t222 := Try.underlying109
  a222 := Try.isAgg109
  z222 := Try.sizeOf109
  v222 := Try.zeroValue109
  t228 := Try.underlying111
  a228 := Try.isAgg111
  z228 := Try.sizeOf111
  v228 := Try.zeroValue111
  t229 := Try.underlying112
  a229 := Try.isAgg112
  z229 := Try.sizeOf112
  v229 := Try.zeroValue112 }
open Go.Sort Go.RowKit in
theorem Try.slices_Sort_int (blk off cap : Nat) (zs : List Int) (w : World) (hH : Holds (Value.int .i64) w blk off zs.toArray) (hblk : blk < w.heap.size) (hsz : zs.length < 4611686018427387904) :
    Calls Try.prog 60 #[.slice (some ⟨blk, off, none⟩) zs.length cap] w fun e w' =>
      e = .returned (.tuple #[]) ∧ ∃ n os, w' = grow (putRow (Value.int .i64) (Sort.ahead w n) blk off (zs.mergeSort fun x y => decide (x ≤ y)).toArray) os := Any.slices_Sort_int Try.lays189 blk off cap zs w hH hblk hsz
def Try.lays108_ren : Go.Shelf.Ren := ⟨fun | 108 => 74 | n => n, fun | 28 => 35 | 3 => 3 | 0 => 0 | 4 => 4 | n => n, fun | n => n⟩
theorem Try.lays108 : Go.Proofs.Lays.n108 Try.prog Try.lays108_ren := {
  mixed := by kernel_rfl
  f108 := Try.func74.trans (congrArg some (by kernel_rfl))
  t0 := Try.underlying0
  a0 := Try.isAgg0
  z0 := Try.sizeOf0
  v0 := Try.zeroValue0
  t3 := Try.underlying3
  a3 := Try.isAgg3
  z3 := Try.sizeOf3
  v3 := Try.zeroValue3
  t4 := Try.underlying4
  a4 := Try.isAgg4
  z4 := Try.sizeOf4
  v4 := Try.zeroValue4
  t28 := Try.underlying35
  a28 := Try.isAgg35
  z28 := Try.sizeOf35
  v28 := Try.zeroValue35 }
open Go.Lib in
/-- slices.Index at []int: "Index returns the index of the first occurrence of v in s, or -1 if not present.": IT RETURNS 'Lib.idxOf (the elements) v'; the world is as it was. 'zs': what the cells behind the slice's address hold (its spare capacity too, if you have it); 'zs.take n': its elements. (LAID: no walk: one application.) -/
theorem Try.slices_Index_int (b off n c : Nat) (zs : List Int) (x : Int) (w : World) (hz : n ≤ zs.length) (hbig : n ≤ 9223372036854775807) (hc : ∀ j, j < zs.length → w.cell? ⟨b, off + j, none⟩ = some (.int .i64 (zs.getD j 0))) :
    Calls Try.prog 74 #[.slice (some ⟨b, off, none⟩) n c, .int .i64 x] w fun e w' => e = .returned (.int .i64 (Lib.idxOf (zs.take n) x)) ∧ w' = w := Any.slices_Index_int Try.lays108 b off n c zs x w hz hbig hc
open Go.Lib in
/-- The same at a slice of length 0, a nil one too: no cell is known, none is asked for. (LAID: no walk: one application.) -/
theorem Try.slices_Index_int_empty (a : Option Addr) (c : Nat) (x : Int) (w : World) :
    Calls Try.prog 74 #[.slice a 0 c, .int .i64 x] w fun e w' => e = .returned (.int .i64 (Lib.idxOf [] x)) ∧ w' = w := Any.slices_Index_int_empty Try.lays108 a c x w
def Try.lays107_ren : Go.Shelf.Ren := ⟨fun | 107 => 59 | 108 => 74 | n => n, fun | 28 => 35 | 3 => 3 | 4 => 4 | 0 => 0 | n => n, fun | n => n⟩
theorem Try.lays107 : Go.Proofs.Lays.n107 Try.prog Try.lays107_ren := {
  mixed := by kernel_rfl
  f107 := Try.func59.trans (congrArg some (by kernel_rfl))
  f108 := Try.func74.trans (congrArg some (by kernel_rfl))
  t0 := Try.underlying0
  a0 := Try.isAgg0
  z0 := Try.sizeOf0
  v0 := Try.zeroValue0
  t3 := Try.underlying3
  a3 := Try.isAgg3
  z3 := Try.sizeOf3
  v3 := Try.zeroValue3
  t4 := Try.underlying4
  a4 := Try.isAgg4
  z4 := Try.sizeOf4
  v4 := Try.zeroValue4
  t28 := Try.underlying35
  a28 := Try.isAgg35
  z28 := Try.sizeOf35
  v28 := Try.zeroValue35 }
open Go.Lib in
/-- slices.Contains at []int: "Contains reports whether v is present in s.": IT RETURNS 'elements.contains v'; the world is as it was. ITS CALLEE slices.Index IS MET BY ITS OWN CONTRACT OFF THE SHELF (lay that first): no loop is walked here. (LAID: no walk: one application.) -/
theorem Try.slices_Contains_int (b off n c : Nat) (zs : List Int) (x : Int) (w : World) (hz : n ≤ zs.length) (hbig : n ≤ 9223372036854775807) (hc : ∀ j, j < zs.length → w.cell? ⟨b, off + j, none⟩ = some (.int .i64 (zs.getD j 0))) :
    Calls Try.prog 59 #[.slice (some ⟨b, off, none⟩) n c, .int .i64 x] w fun e w' => e = .returned (.bool ((zs.take n).contains x)) ∧ w' = w := Any.slices_Contains_int Try.lays107 b off n c zs x w hz hbig hc
open Go.Lib in
/-- The same at a slice of length 0, a nil one too. (LAID: no walk: one application.) -/
theorem Try.slices_Contains_int_empty (a : Option Addr) (c : Nat) (x : Int) (w : World) :
    Calls Try.prog 59 #[.slice a 0 c, .int .i64 x] w fun e w' => e = .returned (.bool false) ∧ w' = w := Any.slices_Contains_int_empty Try.lays107 a c x w
def Try.laysNm220_ren : Go.Shelf.Ren := ⟨fun | 20 => 61 | n => n, fun | 22 => 35 | 3 => 3 | 4 => 4 | 0 => 0 | n => n, fun | n => n⟩
theorem Try.laysNm220 : Go.Proofs.Lays2.n20 Try.prog Try.laysNm220_ren := {
  mixed := by kernel_rfl
  f20 := Try.func61.trans (congrArg some (by kernel_rfl))
  t0 := Try.underlying0
  a0 := Try.isAgg0
  z0 := Try.sizeOf0
  v0 := Try.zeroValue0
  t3 := Try.underlying3
  a3 := Try.isAgg3
  z3 := Try.sizeOf3
  v3 := Try.zeroValue3
  t4 := Try.underlying4
  a4 := Try.isAgg4
  z4 := Try.sizeOf4
  v4 := Try.zeroValue4
  t22 := Try.underlying35
  a22 := Try.isAgg35
  z22 := Try.sizeOf35
  v22 := Try.zeroValue35
  i3 := by kernel_rfl }
open Go.RowKit Go.Lib Go.Sort in
/-- slices.Compact at []int, over an array: the library's two loops are walked. (LAID: no walk: one application.) -/
theorem Try.slices_Compact_int_arr (blk off cap : Nat) (d : Array Int) (w : World) (hH : Holds encI w blk off d) (hsz : d.size ≤ 9223372036854775807) (hcap : d.size ≤ cap) :
    Calls Try.prog 61 #[.slice (some ⟨blk, off, none⟩) d.size cap] w fun e w' => e = .returned (.slice (some ⟨blk, off, none⟩) (compactUpTo d d.size).length cap) ∧ ∃ q, w' = putRow encI (Sort.ahead w q) blk off (compactUpTo d d.size ++ List.replicate (d.size - (compactUpTo d d.size).length) 0).toArray := Any.slices_Compact_int_arr Try.laysNm220 blk off cap d w hH hsz hcap
open Go.RowKit Go.Lib Go.Sort in
/-- slices.Compact at []int: "Compact replaces consecutive runs of equal elements with a single copy. This is like the uniq command found on Unix. Compact modifies the contents of the slice s and returns the modified slice, which may have a smaller length. Compact zeroes the elements between the new length and the original length. The result preserves the nilness of s.": IT RETURNS THE SLICE CUT TO 'Lib.compact zs'; ITS CELLS HOLD 'Lib.compact zs', THEN ZERO VALUES up to the old length; all else is as it was, but for the count of draws. IN THE WORDS OF slices.Sort's CONTRACT ('Holds', 'putRow'): so the everyday 'slices.Sort(xs); xs = slices.Compact(xs)' goes from the one contract to the other. It asks 'zs.length ≤ cap' (every slice's: the reslicing 's[:k]' looks at it). Length 0, nil: '.._empty'. (LAID: no walk: one application.) -/
theorem Try.slices_Compact_int (blk off cap : Nat) (zs : List Int) (w : World) (hH : Holds (Value.int .i64) w blk off zs.toArray) (hsz : zs.length ≤ 9223372036854775807) (hcap : zs.length ≤ cap) :
    Calls Try.prog 61 #[.slice (some ⟨blk, off, none⟩) zs.length cap] w fun e w' => e = .returned (.slice (some ⟨blk, off, none⟩) (Lib.compact zs).length cap) ∧ ∃ q, w' = putRow (Value.int .i64) (Sort.ahead w q) blk off (Lib.compact zs ++ List.replicate (zs.length - (Lib.compact zs).length) 0).toArray := Any.slices_Compact_int Try.laysNm220 blk off cap zs w hH hsz hcap
open Go.RowKit Go.Lib Go.Sort in
/-- The same at a slice of length 0, a nil one too: it comes back as it is. (LAID: no walk: one application.) -/
theorem Try.slices_Compact_int_empty (a : Option Addr) (cap : Nat) (w : World) :
    Calls Try.prog 61 #[.slice a 0 cap] w fun e w' => e = .returned (.slice a 0 cap) ∧ w' = w := Any.slices_Compact_int_empty Try.laysNm220 a cap w
def Try.laysNm237_ren : Go.Shelf.Ren := ⟨fun | 37 => 103 | n => n, fun | 3 => 3 | 4 => 4 | n => n, fun | n => n⟩
theorem Try.laysNm237 : Go.Proofs.Lays2.n37 Try.prog Try.laysNm237_ren := {
  mixed := by kernel_rfl
  f37 := Try.func103.trans (congrArg some (by kernel_rfl))
  t3 := Try.underlying3
  a3 := Try.isAgg3
  z3 := Try.sizeOf3
  v3 := Try.zeroValue3
  t4 := Try.underlying4
  a4 := Try.isAgg4
  z4 := Try.sizeOf4
  v4 := Try.zeroValue4 }
open Go.RowKit Go.Lib in
/-- cmp.isNaN[int]: 'x != x': false. (LAID: no walk: one application.) -/
theorem Try.cmp_isNaN_int2 (x : Int) (w : World) :
    Calls Try.prog 103 #[.int .i64 x] w fun e w' => e = .returned (.bool false) ∧ w' = w := Any.cmp_isNaN_int2 Try.laysNm237 x w
def Try.laysNm231_ren : Go.Shelf.Ren := ⟨fun | 31 => 92 | 37 => 103 | n => n, fun | 3 => 3 | 4 => 4 | n => n, fun | n => n⟩
theorem Try.laysNm231 : Go.Proofs.Lays2.n31 Try.prog Try.laysNm231_ren := {
  mixed := by kernel_rfl
  f31 := Try.func92.trans (congrArg some (by kernel_rfl))
  f37 := Try.func103.trans (congrArg some (by kernel_rfl))
  t3 := Try.underlying3
  a3 := Try.isAgg3
  z3 := Try.sizeOf3
  v3 := Try.zeroValue3
  t4 := Try.underlying4
  a4 := Try.isAgg4
  z4 := Try.sizeOf4
  v4 := Try.zeroValue4 }
open Go.RowKit Go.Lib in
/-- cmp.Less[int]: "Less reports whether x is less than y.": 'x < y'; the world is as it was. (LAID: no walk: one application.) -/
theorem Try.cmp_Less_int2 (x y : Int) (w : World) :
    Calls Try.prog 92 #[.int .i64 x, .int .i64 y] w fun e w' => e = .returned (.bool (decide (x < y))) ∧ w' = w := Any.cmp_Less_int2 Try.laysNm231 x y w
open Go.RowKit Go.Lib Go.Sort in
/-- slices.Compact at []int, of an argument: the slice cut to 'Lib.compact (elements)'; the n cells hold that, then zeros. (LAID: no walk: one application.) -/
theorem Try.slices_Compact_int_cells (b off n c : Nat) (zs : List Int) (w : World) (hz : n ≤ zs.length) (hbig : n ≤ 9223372036854775807) (hcap : n ≤ c) (hc : ∀ j, j < zs.length → w.cell? ⟨b, off + j, none⟩ = some (.int .i64 (zs.getD j 0))) (hf : ∀ j, j < n → w.frozen? ⟨b, off + j, none⟩ = false) :
    Calls Try.prog 61 #[.slice (some ⟨b, off, none⟩) n c] w fun e w' => e = .returned (.slice (some ⟨b, off, none⟩) (Lib.compact (zs.take n)).length c) ∧ ∃ q, w' = (w.drewN q).setCells b off ((Lib.compact (zs.take n) ++ List.replicate (n - (Lib.compact (zs.take n)).length) 0).map (Value.int .i64)) := Any.slices_Compact_int_cells Try.laysNm220 b off n c zs w hz hbig hcap hc hf
open Go.RowKit Go.Sort in
/-- .. and plain. (LAID: no walk: one application.) -/
theorem Try.slices_Sort_int_none (p : Option Addr) (cap : Nat) (w : World) :
    Calls Try.prog 60 #[.slice p 0 cap] w fun e w' => e = .returned (.tuple #[]) ∧ w' = w := Any.slices_Sort_int_none Try.lays189 p cap w
def Try.laysSlE43_f61_ren : Go.Shelf.Ren := ⟨fun | 43 => 61 | n => n, fun | 22 => 35 | 23 => 3 | 3 => 3 | 4 => 4 | 0 => 0 | n => n, fun | n => n⟩
theorem Try.laysSlE43_f61 : Go.Proofs.SlLaysE.n43 Try.prog Try.laysSlE43_f61_ren := {
  mixed := by kernel_rfl
  f43 := ⟨Try.f61.name, by decide, Try.func61.trans (congrArg some (by kernel_rfl))⟩
  t0 := Try.underlying0
  a0 := Try.isAgg0
  z0 := Try.sizeOf0
  v0 := Try.zeroValue0
  t3 := Try.underlying3
  a3 := Try.isAgg3
  z3 := Try.sizeOf3
  v3 := Try.zeroValue3
  t4 := Try.underlying4
  a4 := Try.isAgg4
  z4 := Try.sizeOf4
  v4 := Try.zeroValue4
  t22 := Try.underlying35
  a22 := Try.isAgg35
  z22 := Try.sizeOf35
  v22 := Try.zeroValue35
  a23 := Try.isAgg3
  z23 := Try.sizeOf3 }
open Go.RowKit Go.Lib Go.Sort in
/-- slices.Compact: "Compact replaces consecutive runs of equal elements with a single copy. .. Compact zeroes the elements between the new length and the original length.": IT RETURNS THE SLICE CUT TO 'compactUpTo d d.size'; ITS CELLS HOLD THAT, THEN ZERO VALUES up to the old length; the library's two loops are walked. (LAID AT THE INSTANCE 'slices.Compact[[]int,int]': no walk: one application.) -/
theorem Try.slices_Compact {α : Type} [Inhabited α] [DecidableEq α] (enc : α → Value) (hO : OneCell enc) (heq : EqlAt Try.prog 3 enc (fun x y => decide (x = y))) (hne : NeqAt Try.prog 3 enc (fun x y => decide (x = y))) (zr : α) (v23 : ∀ w, (zeroValue 3).run Try.prog w = .ok (enc zr) w) (blk off cap : Nat) (d : Array α) (w : World) (hH : Holds enc w blk off d) (hsz : d.size ≤ 9223372036854775807) (hcap : d.size ≤ cap) :
    Calls Try.prog 61 #[.slice (some ⟨blk, off, none⟩) d.size cap] w fun e w' => e = .returned (.slice (some ⟨blk, off, none⟩) (compactUpTo d d.size).length cap) ∧ ∃ q, w' = putRow enc (Sort.ahead w q) blk off (compactUpTo d d.size ++ List.replicate (d.size - (compactUpTo d d.size).length) zr).toArray := AnyE.slices_Compact Try.laysSlE43_f61 enc hO heq hne zr v23 blk off cap d w hH hsz hcap
def Try.laysSlH6_f71_ren : Go.Shelf.Ren := ⟨fun | 6 => 71 | n => n, fun | 22 => 35 | 23 => 3 | 25 => 73 | 3 => 3 | 0 => 0 | 4 => 4 | n => n, fun | n => n⟩
theorem Try.laysSlH6_f71 : Go.Proofs.SlLaysH.n6 Try.prog Try.laysSlH6_f71_ren := {
  mixed := by kernel_rfl
  f6 := ⟨Try.f71.name, by decide, Try.func71.trans (congrArg some (by kernel_rfl))⟩
  t0 := Try.underlying0
  a0 := Try.isAgg0
  z0 := Try.sizeOf0
  v0 := Try.zeroValue0
  t3 := Try.underlying3
  a3 := Try.isAgg3
  z3 := Try.sizeOf3
  v3 := Try.zeroValue3
  t4 := Try.underlying4
  a4 := Try.isAgg4
  z4 := Try.sizeOf4
  v4 := Try.zeroValue4
  t22 := Try.underlying35
  a22 := Try.isAgg35
  z22 := Try.sizeOf35
  v22 := Try.zeroValue35
  a23 := Try.isAgg3
  z23 := Try.sizeOf3
  t25 := Try.underlying73
  a25 := Try.isAgg73
  z25 := Try.sizeOf73
  v25 := Try.zeroValue73 }
open Go.RowKit Go.Lib in
/-- slices.IndexFunc: "IndexFunc returns the first index i satisfying f(s[i]), or -1 if none do." (LAID AT THE INSTANCE 'slices.IndexFunc[[]int,int]': no walk: one application.) -/
theorem Try.slices_IndexFunc {α : Type} [Inhabited α] (enc : α → Value) (p : α → Bool) (g : Nat) (lb : Array Value) (eg : ∀ args w, (callFunc g args).run Try.prog w = .ok (.enter g args) w) (b off n c : Nat) (zs : List α) (w : World) (hp : PredAt Try.prog g lb enc p w) (hz : n ≤ zs.length) (hbig : n ≤ 9223372036854775807) (hc : ∀ j, j < zs.length → w.cell? ⟨b, off + j, none⟩ = some (enc zs[j]!)) :
    Calls Try.prog 71 #[.slice (some ⟨b, off, none⟩) n c, .func (.func g) #[] lb] w fun e w' => e = .returned (.int .i64 (Lib.idxBy (fun _ y => p y) (zs.take n) default)) ∧ ∃ q, w' = w.drewN q := AnyE.slices_IndexFunc Try.laysSlH6_f71 enc p g lb eg b off n c zs w hp hz hbig hc
open Go.RowKit Go.Lib in
/-- The same at a slice of length 0, a nil one too: the predicate is not called: nothing is asked of it. (LAID AT THE INSTANCE 'slices.IndexFunc[[]int,int]': no walk: one application.) -/
theorem Try.slices_IndexFunc_empty {α : Type} [Inhabited α] (a : Option Addr) (c : Nat) (fv : Value) (w : World) :
    Calls Try.prog 71 #[.slice a 0 c, fv] w fun e w' => e = .returned (.int .i64 (-1)) ∧ w' = w := AnyE.slices_IndexFunc_empty Try.laysSlH6_f71 a c fv w
def Try.laysSlH10_f56_ren : Go.Shelf.Ren := ⟨fun | 10 => 56 | 6 => 71 | n => n, fun | 22 => 35 | 23 => 3 | 25 => 73 | 3 => 3 | 4 => 4 | 0 => 0 | n => n, fun | n => n⟩
theorem Try.laysSlH10_f56 : Go.Proofs.SlLaysH.n10 Try.prog Try.laysSlH10_f56_ren := {
  mixed := by kernel_rfl
  f6 := ⟨Try.f71.name, by decide, Try.func71.trans (congrArg some (by kernel_rfl))⟩
  f10 := ⟨Try.f56.name, by decide, Try.func56.trans (congrArg some (by kernel_rfl))⟩
  t0 := Try.underlying0
  a0 := Try.isAgg0
  z0 := Try.sizeOf0
  v0 := Try.zeroValue0
  t3 := Try.underlying3
  a3 := Try.isAgg3
  z3 := Try.sizeOf3
  v3 := Try.zeroValue3
  t4 := Try.underlying4
  a4 := Try.isAgg4
  z4 := Try.sizeOf4
  v4 := Try.zeroValue4
  t22 := Try.underlying35
  a22 := Try.isAgg35
  z22 := Try.sizeOf35
  v22 := Try.zeroValue35
  a23 := Try.isAgg3
  z23 := Try.sizeOf3
  t25 := Try.underlying73
  a25 := Try.isAgg73
  z25 := Try.sizeOf73
  v25 := Try.zeroValue73 }
open Go.RowKit Go.Lib Go.Sort in
theorem Try.slices_DeleteFunc {α : Type} [Inhabited α] (enc : α → Value) (hO : OneCell enc) (p : α → Bool) (g : Nat) (lb : Array Value) (eg : ∀ args w, (callFunc g args).run Try.prog w = .ok (.enter g args) w) (zr : α) (v23 : ∀ w, (zeroValue 3).run Try.prog w = .ok (enc zr) w) (blk off cap : Nat) (d : Array α) (w : World) (hp : PredAt Try.prog g lb enc p w) (hpo : PredOver Try.prog g lb enc p blk off d.size w) (hH : Holds enc w blk off d) (hsz : d.size ≤ 9223372036854775807) (hcap : d.size ≤ cap) :
    Calls Try.prog 56 #[.slice (some ⟨blk, off, none⟩) d.size cap, .func (.func g) #[] lb] w fun e w' => e = .returned (.slice (some ⟨blk, off, none⟩) (d.toList.filter fun x => !p x).length cap) ∧ ∃ q, w' = putRow enc (Sort.ahead w q) blk off ((d.toList.filter fun x => !p x) ++ List.replicate (d.size - (d.toList.filter fun x => !p x).length) zr).toArray := AnyE.slices_DeleteFunc Try.laysSlH10_f56 enc hO p g lb eg zr v23 blk off cap d w hp hpo hH hsz hcap
end Go.Proofs
/- slices.Sort, slices.Compact and slices.DeleteFunc on a list that the call owns. -/
namespace Go.Proofs.Ytnjplichhkmmhaa.CalW
open Go.RowKit Go.Shelf Go.Sort Go.Proofs.Ytnjplichhkmmhaa.Base Go.Proofs.Ytnjplichhkmmhaa.Cal
set_option linter.unusedVariables false
set_option linter.unusedSimpArgs false
/-- the call hands back a list that it owns; what lies below B lies as it lay. -/
def GivesB (B : Nat) (w : World) (l : List Int) (e : Ending) (w' : World) : Prop := ∃ A c, e = .returned (.slice A l.length c) ∧ w'.ownsRow B 3 1 (.slice A l.length c) l.length (l.map iv) ∧ Below B w w'
section
variable {w : World} {B : Nat} {l : List Int} {A : Option Addr} {c : Nat}
theorem own_parts (h : w.ownsRow B 3 1 (.slice A l.length c) l.length (l.map iv)) : (A = none ∧ c = 0 ∧ l = []) ∨ ∃ g cur, A = some ⟨g, 0, none⟩ ∧ B ≤ g ∧ w.heap[g]? = some (.cells cur 3 (0, 0)) ∧ l.length ≤ c ∧ c ≤ maxLen ∧ cur.size = c * 1 ∧ cur.toList.take l.length = l.map (Value.int .i64) := by
  rcases h.2 with ⟨e, h0⟩ | ⟨g, cap, cur, e, h1, h2, h3, h4, h5, h6⟩
  · simp only [Value.slice.injEq] at e
    exact .inl ⟨e.1, e.2.2, List.eq_nil_of_length_eq_zero h0⟩
  · simp only [Value.slice.injEq] at e
    obtain ⟨rfl, -, rfl⟩ := e
    refine .inr ⟨g, cur, rfl, h1, h2, h3, h4, h5, ?_⟩
    rw [Nat.mul_one] at h6
    exact h6
theorem own_cut {g cap n k : Nat} {e : TypeId} {xs : List Value} (h : w.ownsRow B e 1 (.slice (some ⟨g, 0, none⟩) n cap) n xs) (hk : k ≤ n) : w.ownsRow B e 1 (.slice (some ⟨g, 0, none⟩) k cap) k (xs.take k) := by
  refine ⟨by have := h.1; simp; omega, ?_⟩
  rcases h.2 with ⟨e, _⟩ | ⟨g', cap', cur, e, h1, h2, h3, h4, h5, h6⟩
  · cases e
  · cases e
    refine .inr ⟨g, cap, cur, rfl, h1, h2, by omega, h4, h5, ?_⟩
    rw [← h6, List.take_take, Nat.mul_one, Nat.mul_one, Nat.min_eq_left hk]
theorem below_row {g n : Nat} {os : Array Obj} (d : Array Int) (hg : B ≤ g) (hB : B ≤ w.heap.size) : Below B w (grow (putRow (Value.int .i64) (Sort.ahead w n) g 0 d) os) :=
  (Below.refl B w).grown (grownBy_sortedI d) hB (fun k e => by cases e; exact hg)
theorem sort_own (h : w.ownsRow B 3 1 (.slice A l.length c) l.length (l.map iv)) (hB : B ≤ w.heap.size) (hl : l.length < 4611686018427387904) :
    Calls Try.prog 60 #[.slice A l.length c] w fun e w' => e = .returned (.tuple #[]) ∧ w'.ownsRow B 3 1 (.slice A l.length c) l.length ((l.mergeSort fun x y => decide (x ≤ y)).map iv) ∧ Below B w w' := by
  rcases own_parts h with ⟨rfl, rfl, rfl⟩ | ⟨g, cur, rfl, h1, h2, h3, h4, h5, h6⟩
  · refine (Try.slices_Sort_int_none none 0 w).mono ?_
    rintro e w' ⟨rfl, rfl⟩
    exact ⟨rfl, by simpa using h, Below.refl _ _⟩
  · refine (Try.slices_Sort_int g 0 c l w (holds_of_blockI h2 h6) (Array.getElem?_eq_some_iff.1 h2).1 hl).mono ?_
    rintro e w' ⟨rfl, n, os, rfl⟩
    exact ⟨rfl, ownsRow_sortedI (by simp) h1 h2 h3 h4 h5, below_row _ h1 hB⟩
theorem compact_own (h : w.ownsRow B 3 1 (.slice A l.length c) l.length (l.map iv)) (hB : B ≤ w.heap.size) (hl : l.length ≤ 9223372036854775807) :
    Calls Try.prog 61 #[.slice A l.length c] w (GivesB B w (Lib.compact l)) := by
  rcases own_parts h with ⟨rfl, rfl, rfl⟩ | ⟨g, cur, rfl, h1, h2, h3, h4, h5, h6⟩
  · refine (Try.slices_Compact_int_empty none 0 w).mono ?_
    rintro e w' ⟨rfl, rfl⟩
    have e : Lib.compact ([] : List Int) = [] := by simp [Lib.compact, Lib.compactUpTo]
    rw [e]
    exact ⟨none, 0, rfl, by simpa using h, Below.refl _ _⟩
  · refine (Try.slices_Compact_int g 0 c l w (holds_of_blockI h2 h6) hl h3).mono ?_
    rintro e w' ⟨rfl, q, rfl⟩
    have hcl : (Lib.compact l).length ≤ l.length := by
      unfold Lib.compact Lib.compactUpTo
      rw [List.length_map]
      exact Nat.le_trans (List.length_filter_le _ _) (by simp)
    have hs := ownsRow_sortedI (w := w) (n := q) (os := #[]) (ts := Lib.compact l ++ List.replicate (l.length - (Lib.compact l).length) 0) (by simp; omega) h1 h2 h3 h4 h5
    rw [grow_empty] at hs
    have hc := own_cut hs hcl
    refine ⟨_, _, rfl, ?_, by have := below_row (w := w) (os := #[]) (n := q) (Lib.compact l ++ List.replicate (l.length - (Lib.compact l).length) 0).toArray h1 hB; rwa [grow_empty] at this⟩
    rwa [← List.map_take, List.take_left] at hc
theorem delete_own (p : Int → Bool) (g0 : Nat) (lb : Array Value) (eg : ∀ args w, (callFunc g0 args).run Try.prog w = .ok (.enter g0 args) w) (hp : ∀ W x, Below B w W → FnGives Try.prog g0 lb #[.int .i64 x] (.bool (p x)) W)
    (h : w.ownsRow B 3 1 (.slice A l.length c) l.length (l.map iv)) (hB : B ≤ w.heap.size) (hl : l.length ≤ 9223372036854775807) :
    Calls Try.prog 56 #[.slice A l.length c, .func (.func g0) #[] lb] w (GivesB B w (l.filter fun x => !p x)) := by
  rcases own_parts h with ⟨rfl, rfl, rfl⟩ | ⟨g, cur, rfl, h1, h2, h3, h4, h5, h6⟩
  · have hI := Try.slices_IndexFunc_empty (α := Int) none 0 (.func (.func g0) #[] lb) w
    have HI := Lib.hid hI
    clear hI
    go_enter Try.func56, Try.ntmps56
    go_wp2_with (go_at_call 71; ((with_reducible refine HI.out.mono ?_); rintro e w1 ⟨rfl, rfl⟩))
    go_ret
    exact ⟨none, 0, rfl, by simpa using h, Below.refl _ _⟩
  · refine (Try.slices_DeleteFunc (Value.int .i64) (fun _ => rfl) p g0 lb eg 0 Try.zeroValue3 g 0 c l.toArray w (fun W x hb => hp W x (hb.mono hB)) (fun n os dk x _ => hp _ x (below_row dk h1 hB)) (holds_of_blockI h2 h6) (by simpa using hl) (by simpa using h3)).mono ?_
    rintro e w' ⟨rfl, q, rfl⟩
    have hs := ownsRow_sortedI (w := w) (n := q) (os := #[]) (ts := (l.filter fun x => !p x) ++ List.replicate (l.length - (l.filter fun x => !p x).length) 0) (by have := List.length_filter_le (fun x => !p x) l; simp; omega) h1 h2 h3 h4 h5
    rw [grow_empty] at hs
    have hc := own_cut hs (List.length_filter_le (fun x => !p x) l)
    refine ⟨_, _, rfl, ?_, by have := below_row (w := w) (os := #[]) (n := q) ((l.filter fun x => !p x) ++ List.replicate (l.length - (l.filter fun x => !p x).length) 0).toArray h1 hB; rwa [grow_empty] at this⟩
    rwa [← List.map_take, List.take_left] at hc
end
end Go.Proofs.Ytnjplichhkmmhaa.CalW
/- For recur.Between: a list appended to a list that the call owns; the two closures. -/
namespace Go.Proofs.Ytnjplichhkmmhaa.CalW
open Go.RowKit Go.Shelf Go.Sort Go.Proofs.Ytnjplichhkmmhaa.Base Go.Proofs.Ytnjplichhkmmhaa.Cal
set_option linter.unusedVariables false
set_option linter.unusedSimpArgs false
section
variable {P : Program} {w : World} {base : Nat} {e : TypeId} {A X : Option Addr} {c cx : Nat} {l r : List Int}
theorem run_append_list (t ty : TypeId) (i : TypeInfo) (z : Value) (ht : P.underlying t = some (.slice e)) (hi : P.info? e = some i) (hz : i.zero = some z) (hsize : i.size = 1) (hby : i.bytes = 8) (hzs : z.cells.size = 1)
    (hown : w.ownsRow base e 1 (.slice A l.length c) l.length (l.map iv)) (hx : Rd w iv X r) (h63 : l.length + r.length ≤ 17592186044000) (hbase : base ≤ w.heap.size) :
    ∃ A' c' w', (Builtin.append_ #[t, t] ty #[.slice A l.length c, .slice X r.length cx]).run P w = .ok (.slice A' (l ++ r).length c') w' ∧ w'.ownsRow base e 1 (.slice A' (l ++ r).length c') (l ++ r).length ((l ++ r).map iv) ∧ w.grownBy w' (Value.slice A l.length c).ownBlock := by
  have some_ : ∀ (ad : Addr), (∀ j u, (r.map iv)[j]? = some u → w.cell? (ad.add j) = some u) → ∃ A' c' w', (Builtin.append_ #[t, t] ty #[.slice A l.length c, .slice (some ad) r.length cx]).run P w = .ok (.slice A' (l ++ r).length c') w' ∧ w'.ownsRow base e 1 (.slice A' (l ++ r).length c') (l ++ r).length ((l ++ r).map iv) ∧ w.grownBy w' (Value.slice A l.length c).ownBlock := fun ad hc => by
    obtain ⟨v', w', h1, h2, h3, _, _⟩ := run_append_own_at (P := P) w base t ty e i z 1 8 ht hi hz hsize hby hzs (by omega) _ l.length _ hown ad r.length cx (r.map iv) (by simp) hc (fun u hu => by obtain ⟨x, _, rfl⟩ := List.mem_map.1 hu; rfl) (by unfold maxLen; omega) (by omega) hbase
    obtain ⟨A', c', rfl⟩ := own_form h2
    refine ⟨A', c', w', by rw [List.length_append]; exact h1, by rw [List.length_append, List.map_append]; exact h2, h3⟩
  by_cases hr : r = []
  · subst hr
    cases X with
    | some ad => exact some_ ad (by simp)
    | none =>
      refine ⟨A, c, w, ?_, by simpa using hown, ⟨rfl, rfl, rfl, Nat.le_refl _, fun _ _ _ => rfl⟩⟩
      have hn : l.length ≤ c := by
        rcases hown.2 with ⟨_, h0⟩ | ⟨g, cap, cur, hv, _, _, h3, _⟩
        · omega
        · cases hv; exact h3
      simp only [List.append_nil, List.length_nil]
      cases A <;> simp [Builtin.append_, run_underlying ht, sizeOf, typeInfo, hi, Builtin.lenOf, Builtin.firstCells, loadCells, loadCellsFrom, hn, storeCells]
  · obtain ⟨ad, rfl, _, hc⟩ := hx (List.length_pos_iff.2 hr)
    refine some_ ad (fun j u hu => ?_)
    rw [List.getElem?_map] at hu
    cases hj : r[j]? with
    | none => rw [hj] at hu; cases hu
    | some x => rw [hj] at hu; cases hu; exact hc j x hj
theorem wpList_appL {ops : Array Oper} {rest : List Oper} {o : Oper} {a : Act} {Q : Exit → Act → World → Prop} (hgd : o.guard = none) (s x : Operand) (t : TypeId)
    (ho : o.op = .call { callee := .builtin .append, args := #[s, x], argTypes := #[t, t] }) (i : TypeInfo) (z : Value) (ht : P.underlying t = some (.slice e)) (hi : P.info? e = some i) (hz : i.zero = some z) (hsize : i.size = 1) (hby : i.bytes = 8) (hzs : z.cells.size = 1)
    (hs : a.eval s = .slice A l.length c) (hown : w.ownsRow base e 1 (.slice A l.length c) l.length (l.map iv)) (hxv : a.eval x = .slice X r.length cx) (hx : Rd w iv X r) (h63 : l.length + r.length ≤ 17592186044000) (hbase : base ≤ w.heap.size)
    (h : ∀ A' c' w', w'.ownsRow base e 1 (.slice A' (l ++ r).length c') (l ++ r).length ((l ++ r).map iv) → w.grownBy w' (Value.slice A l.length c).ownBlock → wpList P ops Q rest (a.put o.dst (.slice A' (l ++ r).length c')) w') :
    wpList P ops Q (o :: rest) a w := by
  refine wpList_plain hgd fun K hK => ?_
  obtain ⟨A', c', w', hr, h2, h3⟩ := run_append_list (P := P) (cx := cx) t o.type i z ht hi hz hsize hby hzs hown hx h63 hbase
  unfold Oper.wp execOp
  simp only [ho, resolve, invoke, builtin, Sem.run_bind, Sem.run_pure, Result.andThen_ok, List.map_toArray, List.map_cons, List.map_nil, hs, hxv, hr]
  exact hK _ _ (h A' c' w' h2 h3)
end
theorem spot_none {w : World} {a : Addr} {v : Value} (h : w.cell? a = some v) : a.spot = none := by
  unfold World.cell? at h
  split at h
  · cases hs : a.spot with
    | none => rfl
    | some k => rw [hs] at h; simp at h
  · cases h
theorem containsR_calls (A : Option Addr) (c : Nat) (l : List Int) (x : Int) (w : World) (h : Rd w iv A l) (hl : l.length ≤ 9223372036854775807) :
    Calls Try.prog 59 #[.slice A l.length c, .int .i64 x] w fun e w' => e = .returned (.bool (l.contains x)) ∧ w = w' := by
  by_cases hn : l = []
  · subst hn
    refine (Try.slices_Contains_int_empty A c x w).mono ?_
    rintro e w' ⟨rfl, rfl⟩
    exact ⟨rfl, rfl⟩
  · obtain ⟨ad, rfl, _, hc⟩ := h (List.length_pos_iff.2 hn)
    have h0 := hc 0 _ (List.getElem?_eq_getElem (List.length_pos_iff.2 hn))
    have hs : ad.spot = none := by
      have := spot_none h0
      simpa [Addr.add] using this
    obtain ⟨b, off, sp⟩ := ad
    simp only at hs
    subst hs
    have hall : ∀ j, j < l.length → w.cell? ⟨b, off + j, none⟩ = some (.int .i64 (l.getD j 0)) := fun j hj => by
      have := hc j _ (List.getElem?_eq_getElem hj)
      have e : (⟨b, off, none⟩ : Addr).add j = ⟨b, off + j, none⟩ := by
        unfold Addr.add
        split
        · rename_i h0; subst h0; rfl
        · rfl
      rw [e] at this
      rw [this]
      simp [List.getElem?_eq_getElem hj]
    refine (Try.slices_Contains_int b off l.length c l x w (Nat.le_refl _) hl hall).mono ?_
    rintro e w' ⟨rfl, rfl⟩
    rw [List.take_length]
    exact ⟨rfl, rfl⟩
theorem gives_exc (r : Rule) (sr : RS) (g : Nat) (x : Int) (W : World) (hB : Bk W g 49 (rcells r sr)) (hR : RuleAt W r sr) : FnGives Try.prog 58 #[.pointer (some ⟨g, 0, none⟩)] #[.int .i64 x] (.bool (r.ex.contains x)) W := by
  have hC := containsR_calls sr.a6 sr.c6 r.ex x W hR.h6 (by have := hR.l6; omega)
  have HC := Lib.hid hC
  have hu49 := Try.underlying49
  have cr := hB.cell
  clear hC
  unfold FnGives
  simp only [List.append_toArray, List.cons_append, List.nil_append]
  go_enter Try.func58, Try.ntmps58
  go_wp2_with (go_at_call 59; ((with_reducible refine (HC.out).mono ?_); rintro e w1 ⟨rfl, rfl⟩))
  go_ret
  exact ⟨by simp [List.contains_eq_mem], 0, rfl⟩
theorem gives_out (g k : Nat) (a b x : Int) (W : World) (h1 : Bk W g 3 #[.int .i64 a]) (h2 : Bk W k 3 #[.int .i64 b]) : FnGives Try.prog 62 #[.pointer (some ⟨g, 0, none⟩), .pointer (some ⟨k, 0, none⟩)] #[.int .i64 x] (.bool (decide (x < a) || decide (b < x))) W := by
  have c1 := h1.cell
  have c2 := h2.cell
  unfold FnGives
  simp only [List.append_toArray, List.cons_append, List.nil_append]
  go_enter Try.func62, Try.ntmps62
  rcases tf (decide (x < a)) with ha | ha
  · rw [ha]
    go_wp2
    go_ret
    exact ⟨rfl, 0, rfl⟩
  · rw [ha]
    rcases tf (decide (b < x)) with hb | hb
    · rw [hb]
      go_wp2
      go_ret
      exact ⟨rfl, 0, rfl⟩
    · rw [hb]
      go_wp2
      go_ret
      exact ⟨rfl, 0, rfl⟩
theorem enters_exc : ∀ args w, (callFunc 58 args).run Try.prog w = .ok (.enter 58 args) w := enters_of Try.func58 (by kernel_rfl) rfl
theorem enters_out : ∀ args w, (callFunc 62 args).run Try.prog w = .ok (.enter 62 args) w := enters_of Try.func62 (by kernel_rfl) rfl
end Go.Proofs.Ytnjplichhkmmhaa.CalW
