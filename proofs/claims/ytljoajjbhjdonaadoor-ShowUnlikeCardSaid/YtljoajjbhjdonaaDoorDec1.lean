/- The plain law: texts are decoded: bytes, texts, classes, names. -/
import Derived.Test.YtljoajjbhjdonaaDoorInj2
import Derived.Test.YtljoajjbhjdonaaDoorBits
namespace Go.Proofs.YtljoajjbhjdonaaDoor
open Go.RowKit
set_option maxRecDepth 100000

theorem u8_all {P : UInt8 → Prop} (h : ∀ n, n < 256 → P n.toUInt8) (c : UInt8) : P c := by
  have := h c.toNat c.toNat_lt
  simpa using this
/-! ### bytes -/
def hexD (c : UInt8) : Nat := if 97 ≤ c.toNat then c.toNat - 87 else c.toNat - 48
def unesc (c : UInt8) : UInt8 := if c = 110 then 10 else if c = 114 then 13 else if c = 116 then 9 else c
def unOne : List UInt8 → Option (UInt8 × List UInt8)
  | [] => none
  | c :: k => if c = 92 then (match k with
      | [] => none
      | d :: k => if d = 120 then (match k with
        | h :: l :: k => some ((16 * hexD h + hexD l).toUInt8, k)
        | _ => none) else some (unesc d, k)) else some (c, k)
def shapeB (p : Int) (c : UInt8) : Bool := match oneL p c with
  | [d] => d == c && d != 92
  | [a, d] => a == 92 && (d != 120 && unesc d == c)
  | [a, b, h, l] => a == 92 && (b == 120 && (16 * hexD h + hexD l).toUInt8 == c)
  | _ => false
theorem shape_all (p : Int) (hp : p = 1 ∨ p = 2) (c : UInt8) : shapeB p c = true := by
  rcases hp with rfl | rfl
  · exact u8_all (P := fun c => shapeB 1 c = true) (by decide +kernel) c
  · exact u8_all (P := fun c => shapeB 2 c = true) (by decide +kernel) c
theorem unOne_one (p : Int) (hp : p = 1 ∨ p = 2) (c : UInt8) (k : List UInt8) : unOne (oneL p c ++ k) = some (c, k) := by
  have h := shape_all p hp c
  unfold shapeB at h
  split at h
  · rename_i d e; simp at h; rw [e]; simp [unOne, h.1]; intro h2; exact absurd (h.1.trans h2) h.2
  · rename_i a d e; simp at h; rw [e]; simp [unOne, h.1, h.2.1, h.2.2]
  · rename_i a b x l e; simp at h; rw [e]; simp [unOne, h.1, h.2.1, h.2.2]
  · cases h
def headB (p : Int) (c : UInt8) : Bool := match oneL p c with
  | d :: _ => if p = 1 then d != 34 else (d != 93 && d != 45)
  | _ => false
theorem head_all (p : Int) (hp : p = 1 ∨ p = 2) (c : UInt8) : headB p c = true := by
  rcases hp with rfl | rfl
  · exact u8_all (P := fun c => headB 1 c = true) (by decide +kernel) c
  · exact u8_all (P := fun c => headB 2 c = true) (by decide +kernel) c
theorem head_one (c : UInt8) : ∃ d l, oneL 1 c = d :: l ∧ d ≠ 34 := by
  have h := head_all 1 (.inl rfl) c
  unfold headB at h
  split at h
  · rename_i d l e; exact ⟨d, l, e, by simpa using h⟩
  · cases h
theorem head_two (c : UInt8) : ∃ d l, oneL 2 c = d :: l ∧ d ≠ 93 ∧ d ≠ 45 := by
  have h := head_all 2 (.inr rfl) c
  unfold headB at h
  split at h
  · rename_i d l e; exact ⟨d, l, e, by simpa using h⟩
  · cases h
/-! ### texts -/
def unText : Nat → List UInt8 → Option (List UInt8 × List UInt8)
  | 0, _ => none
  | _ + 1, [] => none
  | f + 1, c :: k => if c = 34 then some ([], k) else match unOne (c :: k) with
    | none => none
    | some (b, r) => match unText f r with
      | none => none
      | some (l, r) => some (b :: l, r)
theorem unText_all : ∀ (l : List UInt8) (f : Nat) (k : List UInt8), l.length < f → unText f (allL 1 l ++ 34 :: k) = some (l, k)
  | [], f + 1, k, _ => by simp [allL, unText]
  | b :: l, f + 1, k, h => by
    have ih := unText_all l f k (by simpa using h)
    have h1 := unOne_one 1 (.inl rfl) b (allL 1 l ++ 34 :: k)
    obtain ⟨d, m, e, h2⟩ := head_one b
    have e2 : allL 1 (b :: l) ++ 34 :: k = oneL 1 b ++ (allL 1 l ++ 34 :: k) := by simp [allL]
    rw [e2]
    rw [e, List.cons_append] at h1 ⊢
    rw [unText, if_neg h2, h1]
    simp only [ih]
/-! ### classes -/
def expand (r : UInt8 × UInt8) : List UInt8 := (List.range (r.2.toNat + 1 - r.1.toNat)).map fun i => (r.1.toNat + i).toUInt8
def unSet : Nat → List UInt8 → Option (List UInt8 × List UInt8)
  | 0, _ => none
  | _ + 1, [] => none
  | f + 1, c :: k => if c = 93 then some ([], k) else match unOne (c :: k) with
    | none => none
    | some (a, r) => if r.head? = some 45 then (match unOne (r.drop 1) with
        | none => none
        | some (b, r) => match unSet f r with
          | none => none
          | some (l, r) => some (expand (a, b) ++ l, r))
      else match unSet f r with
        | none => none
        | some (l, r) => some (a :: l, r)
theorem unSet_one {a : UInt8} {f : Nat} {k l r : List UInt8} (hk : k.head? ≠ some 45) (h : unSet f k = some (l, r)) : unSet (f + 1) (oneL 2 a ++ k) = some (a :: l, r) := by
  have h1 := unOne_one 2 (.inr rfl) a k
  obtain ⟨d, m, e, h2, _⟩ := head_two a
  rw [e, List.cons_append] at h1 ⊢
  rw [unSet, if_neg h2, h1]
  simp only [if_neg hk, h]
theorem unSet_two {a b : UInt8} {f : Nat} {k l r : List UInt8} (h : unSet f k = some (l, r)) : unSet (f + 1) (oneL 2 a ++ 45 :: (oneL 2 b ++ k)) = some (expand (a, b) ++ l, r) := by
  have h1 := unOne_one 2 (.inr rfl) a (45 :: (oneL 2 b ++ k))
  have h3 := unOne_one 2 (.inr rfl) b k
  obtain ⟨d, m, e, h2, _⟩ := head_two a
  rw [e, List.cons_append] at h1 ⊢
  rw [unSet, if_neg h2, h1]
  simp only [List.head?_cons, if_true, List.drop_succ_cons, List.drop_zero, h3, h]
theorem runs_head (l : List (UInt8 × UInt8)) (k : List UInt8) : (l.flatMap runT ++ 93 :: k).head? ≠ some 45 := by
  cases l with
  | nil => simp
  | cons r l =>
    obtain ⟨d, m, e, _, h2⟩ := head_two r.1
    simp [runT, e, h2]
theorem expand_one (a b : UInt8) (h : b.toNat = a.toNat) : expand (a, b) = [a] := by
  unfold expand
  rw [show b.toNat + 1 - a.toNat = 1 by omega]
  simp
theorem expand_next {a m b : UInt8} (h : m.toNat + 1 = b.toNat) (h2 : a.toNat ≤ m.toNat) : expand (a, b) = expand (a, m) ++ [b] := by
  unfold expand
  simp only
  rw [show b.toNat + 1 - a.toNat = (m.toNat + 1 - a.toNat) + 1 by omega, List.range_succ, List.map_append]
  simp only [List.map_cons, List.map_nil]
  rw [show a.toNat + (m.toNat + 1 - a.toNat) = b.toNat by omega]
  simp
theorem unSet_runs : ∀ (l : List (UInt8 × UInt8)) (k : List UInt8), (∀ r ∈ l, r.1.toNat ≤ r.2.toNat) → ∃ F, ∀ f, F ≤ f → unSet f (l.flatMap runT ++ 93 :: k) = some (l.flatMap expand, k)
  | [], k, _ => ⟨1, fun f hf => by
    obtain ⟨f, rfl⟩ : ∃ g, f = g + 1 := ⟨f - 1, by omega⟩
    simp [unSet]⟩
  | (a, b) :: l, k, h => by
    obtain ⟨F, hF⟩ := unSet_runs l k (fun r hr => h r (by simp [hr]))
    have hh := runs_head l k
    have hab : a.toNat ≤ b.toNat := h (a, b) (by simp)
    refine ⟨F + 2, fun f hf => ?_⟩
    obtain ⟨f, rfl⟩ : ∃ g, f = g + 1 + 1 := ⟨f - 2, by omega⟩
    have h1 := hF (f + 1) (by omega)
    have h0 := hF f (by omega)
    simp only [List.flatMap_cons, List.append_assoc]
    generalize l.flatMap runT ++ 93 :: k = s at *
    unfold runT
    simp only
    by_cases e : b.toNat = a.toNat
    · rw [if_pos e, List.append_nil, expand_one a b e]
      exact unSet_one hh h1
    · rw [if_neg e]
      by_cases e2 : b.toNat = a.toNat + 1
      · rw [if_pos e2, expand_next (m := a) e2.symm (Nat.le_refl _), expand_one a a rfl, List.append_assoc]
        refine unSet_one ?_ (unSet_one hh h0)
        obtain ⟨d, m, e, _, h2⟩ := head_two b
        simp [e, h2]
      · rw [if_neg e2, List.append_assoc, List.cons_append]
        exact unSet_two h1
theorem addRun_expand (o : List (UInt8 × UInt8)) (b : UInt8) (h : ∀ r ∈ o, r.1.toNat ≤ r.2.toNat) : (addRun o b).flatMap expand = o.flatMap expand ++ [b] := by
  unfold addRun
  split
  · rename_i hc
    obtain ⟨o', r, rfl⟩ : ∃ o' r, o = o' ++ [r] := by
      have hne : o ≠ [] := by intro e; rw [e] at hc; simp at hc
      exact ⟨o.dropLast, o.getLast hne, (List.dropLast_concat_getLast hne).symm⟩
    have hr := h r (by simp)
    have h2 := hc.2
    simp only [List.length_append, List.length_cons, List.length_nil, Nat.zero_add, Nat.add_sub_cancel, List.getD_eq_getElem?_getD, List.getElem?_append_right (Nat.le_refl _), Nat.sub_self, List.getElem?_cons_zero, Option.getD_some] at h2 ⊢
    rw [List.set_append_right _ _ (Nat.le_refl _)]
    simp only [Nat.sub_self, List.set_cons_zero, List.flatMap_append, List.flatMap_cons, List.flatMap_nil, List.append_nil]
    rw [expand_next (m := r.2) h2 hr, List.append_assoc]
  · rw [List.flatMap_append]
    simp only [List.flatMap_cons, List.flatMap_nil, List.append_nil]
    rw [expand_one b b rfl]
theorem runs_expand (l : List UInt8) : (runsL l).flatMap expand = l := by
  have : ∀ (l : List UInt8) (o : List (UInt8 × UInt8)), (∀ r ∈ o, r.1.toNat ≤ r.2.toNat) → (l.foldl addRun o).flatMap expand = o.flatMap expand ++ l := by
    intro l
    induction l with
    | nil => intro o h; simp
    | cons b l ih =>
      intro o h
      rw [List.foldl_cons, ih _ (addRun_le o b h), addRun_expand o b h]
      simp
  have h := this l [] (by simp)
  simpa [runsL] using h
theorem unSet_set (x : Node) (k : List UInt8) : ∃ F, ∀ f, F ≤ f → unSet f ((setR x).flatMap runT ++ 93 :: k) = some (preB (clsW x) 4, k) := by
  have h := unSet_runs (setR x) k (runsL_le _)
  unfold setR at h ⊢
  rwa [runs_expand] at h
theorem bit_lt {x j : Nat} (hx : x < 18446744073709551616) (h : x.testBit j = true) : j < 64 := by
  apply Classical.byContradiction
  intro hj
  have h2 : x < 2 ^ j := Nat.lt_of_lt_of_le (show x < 2 ^ 64 by omega) (Nat.pow_le_pow_right (by decide) (by omega))
  rw [Nat.testBit_lt_two_pow h2] at h
  cases h
theorem preB_mem (c : Nat → Nat) (hc : ∀ k, c k < 18446744073709551616) (i j : Nat) (hi : i < 4) (hj : j < 64) : (64 * i + j).toUInt8 ∈ preB c 4 ↔ (c i).testBit j = true := by
  have hm := fun (k j : Nat) => lowL_mem 64 (c k) (Nat.le_refl _) (hc k) j
  unfold preB wordB
  simp only [List.mem_flatMap, List.mem_range, List.mem_map]
  constructor
  · rintro ⟨i', hi', j', hj', e⟩
    have h1 := (hm i' j').1 hj'
    have h2 := bit_lt (hc i') h1
    have e2 := congrArg UInt8.toNat e
    simp at e2
    obtain ⟨rfl, rfl⟩ : i' = i ∧ j' = j := by omega
    exact h1
  · intro h
    exact ⟨i, hi, j, (hm i j).2 h, rfl⟩
theorem preB_inj {c c' : Nat → Nat} (hc : ∀ k, c k < 18446744073709551616) (hc' : ∀ k, c' k < 18446744073709551616) (h : preB c 4 = preB c' 4) (k : Nat) (hk : k < 4) : c k = c' k := by
  apply Nat.eq_of_testBit_eq
  intro j
  by_cases hj : j < 64
  · have h1 := preB_mem c hc k j hk hj
    have h2 := preB_mem c' hc' k j hk hj
    rw [h] at h1
    rw [Bool.eq_iff_iff]
    exact h1.symm.trans h2
  · have h1 : (c k).testBit j = false := Nat.testBit_lt_two_pow (Nat.lt_of_lt_of_le (show c k < 2 ^ 64 from hc k) (Nat.pow_le_pow_right (by decide) (by omega)))
    have h2 : (c' k).testBit j = false := Nat.testBit_lt_two_pow (Nat.lt_of_lt_of_le (show c' k < 2 ^ 64 from hc' k) (Nat.pow_le_pow_right (by decide) (by omega)))
    rw [h1, h2]
/-! ### names -/
def nameC (c : UInt8) : Bool := !oddZ (c.toNat : Int)
/-- No name goes on there. -/
def StopN (k : List UInt8) : Prop := ∀ c l, k = c :: l → nameC c = false ∧ c ≠ 58
theorem take_name {l k : List UInt8} (h : l.all nameC = true) (hk : ∀ c m, k = c :: m → nameC c = false) : (l ++ k).takeWhile nameC = l ∧ (l ++ k).dropWhile nameC = k := by
  have h1 : ∀ a ∈ l, nameC a = true := List.all_eq_true.1 h
  rw [List.takeWhile_append_of_pos h1, List.dropWhile_append_of_pos h1]
  cases k with
  | nil => simp
  | cons c m => simp [hk c m rfl]
def unCall (s : List UInt8) : (List UInt8 × List UInt8) × List UInt8 :=
  if (s.dropWhile nameC).head? = some 58 then ((s.takeWhile nameC, ((s.dropWhile nameC).drop 1).takeWhile nameC), ((s.dropWhile nameC).drop 1).dropWhile nameC) else ((s.takeWhile nameC, []), s.dropWhile nameC)
def levT (x : Node) : List UInt8 := if 0 < x.level then Lib.decDigits x.level.toNat else []
theorem dec_all (n : Nat) (h : n < 100) : (Lib.decDigits n).all nameC = true := by
  have : ∀ n, n < 100 → (if n < 10 then [UInt8.ofNat (48 + n)] else [UInt8.ofNat (48 + n / 10), UInt8.ofNat (48 + n % 10)]).all nameC = true := by decide +kernel
  have h2 := this n h
  by_cases h1 : n < 10
  · rw [Lib.decDigits_one h1]; rwa [if_pos h1] at h2
  · rw [Lib.decDigits_two h1 h]; rwa [if_neg h1] at h2
theorem dec_inj (n m : Nat) (hn : n < 100) (hm : m < 100) (h : Lib.decDigits n = Lib.decDigits m) : n = m := by
  by_cases h1 : n < 10 <;> by_cases h2 : m < 10
  · rw [Lib.decDigits_one h1, Lib.decDigits_one h2] at h
    have := congrArg UInt8.toNat (List.cons.inj h).1
    simp at this; omega
  · rw [Lib.decDigits_one h1, Lib.decDigits_two h2 hm] at h
    have := congrArg List.length h
    simp at this
  · rw [Lib.decDigits_two h1 hn, Lib.decDigits_one h2] at h
    have := congrArg List.length h
    simp at this
  · rw [Lib.decDigits_two h1 hn, Lib.decDigits_two h2 hm] at h
    have e1 := congrArg UInt8.toNat (List.cons.inj h).1
    have e2 := congrArg UInt8.toNat (List.cons.inj (List.cons.inj h).2).1
    simp at e1 e2; omega
theorem dec_ne (n : Nat) (h : n < 100) : Lib.decDigits n ≠ [] := by
  by_cases h1 : n < 10
  · rw [Lib.decDigits_one h1]; simp
  · rw [Lib.decDigits_two h1 h]; simp
theorem lev_inj {x y : Node} (hx : 0 ≤ x.level ∧ x.level ≤ 99) (hy : 0 ≤ y.level ∧ y.level ≤ 99) (h : levT x = levT y) : x.level = y.level := by
  unfold levT at h
  by_cases h1 : 0 < x.level <;> by_cases h2 : 0 < y.level
  · rw [if_pos h1, if_pos h2] at h
    have := dec_inj _ _ (by omega) (by omega) h
    omega
  · rw [if_pos h1, if_neg h2] at h
    exact absurd h (dec_ne _ (by omega))
  · rw [if_neg h1, if_pos h2] at h
    exact absurd h.symm (dec_ne _ (by omega))
  · omega
theorem unCall_call {rs : List Rule} {x : Node} {k : List UInt8} (hn : nameB (rs.getD x.rule.toNat default).name = true) (hl : 0 ≤ x.level ∧ x.level ≤ 99) (hk : StopN k) :
    unCall (callT rs x ++ k) = (((rs.getD x.rule.toNat default).name.data.toList, levT x), k) := by
  have h1 : (rs.getD x.rule.toNat default).name.data.toList.all nameC = true := by
    unfold nameB at hn
    simp only [Bool.and_eq_true] at hn
    exact hn.2.1
  have hk1 : ∀ c m, k = c :: m → nameC c = false := fun c m e => (hk c m e).1
  unfold callT levT unCall
  generalize (rs.getD x.rule.toNat default).name.data.toList = nm at *
  by_cases h0 : 0 < x.level
  · rw [if_pos h0, if_pos h0]
    obtain ⟨e1, e2⟩ := take_name (l := nm) (k := 58 :: (Lib.decDigits x.level.toNat ++ k)) h1 (fun c m e => by cases e; decide)
    obtain ⟨e3, e4⟩ := take_name (l := Lib.decDigits x.level.toNat) (k := k) (dec_all _ (by omega)) hk1
    rw [List.append_assoc, List.cons_append, e1, e2]
    simp only [List.head?_cons, if_true, List.drop_succ_cons, List.drop_zero, e3, e4]
  · rw [if_neg h0, if_neg h0, List.append_nil]
    obtain ⟨e1, e2⟩ := take_name (l := nm) (k := k) h1 hk1
    rw [e1, e2, if_neg]
    cases k with
    | nil => simp
    | cons c m => have := (hk c m rfl).2; simpa using this
end Go.Proofs.YtljoajjbhjdonaaDoor
