/- The plain law of a right grammar's tree: each node's kids stand one behind the other; the texts that show writes, as plain functions, and how long they are at most. -/
import Derived.Test.YtljoajjbhjdonaaDoorShow2
import Derived.Test.YtljoajjbhjdonaaDoorWhole
import Derived.Test.YtljoajjbhjdonaaDoorKids
namespace Go.Proofs.YtljoajjbhjdonaaDoor
open Go.RowKit
set_option maxRecDepth 100000

/-- Kids stand one behind the other, from s on; behind the last: e. -/
def Kd (sz : Nat → Nat) (N : Nat) : Nat → List Int → Nat → Prop
  | s, [], e => s = e
  | s, k :: ks, e => k = (s : Int) ∧ s < N ∧ Kd sz N (s + sz s) ks e
theorem Kd.congr {sz sz' : Nat → Nat} {N : Nat} : ∀ {ks : List Int} {s e : Nat}, (∀ j, s ≤ j → sz j = sz' j) → Kd sz N s ks e → Kd sz' N s ks e
  | [], _, _, _, h => h
  | k :: ks, s, e, hj, ⟨h1, h2, h3⟩ => ⟨h1, h2, by
    rw [← hj s (Nat.le_refl _)]
    exact Kd.congr (fun j hjs => hj j (by omega)) h3⟩
theorem kw_kd (base : Nat) (l : List (Nat × Nat)) : ∀ {ks : List Int} {r h r' h' : Nat}, kw base l ks r h = some (r', h') → Kd (fun j => (l.getD (j - base) (0, 0)).1) (base + l.length) (base + r) ks (base + r')
  | [], r, h, r', h', he => by simp [kw] at he; simp [Kd]; omega
  | k :: ks, r, h, r', h', he => by
    simp only [kw] at he
    split at he
    · rename_i hc
      refine ⟨hc.1, by omega, ?_⟩
      have := kw_kd base l he
      simp only [Nat.add_sub_cancel_left]
      rw [Nat.add_assoc]
      exact this
    · cases he
theorem ofL_kd : ∀ (xs : List Node) (n : Nat) (l : List (Nat × Nat)), ofL n xs = some l → ∀ i, i < xs.length →
    Kd (fun j => (l.getD (j - n) (0, 0)).1) (n + xs.length) (n + i + 1) (xs.getD i default).kids (n + i + (l.getD i (0, 0)).1)
  | [], n, l, h, i, hi => by simp at hi
  | x :: xs, n, l, h, i, hi => by
    simp only [ofL] at h
    split at h
    · cases h
    · rename_i l' hl'
      have hlen := (ofL_ok hl').1
      split at h
      · cases h
      · rename_i r hh hk
        cases h
        have hc : ∀ j, n + 1 ≤ j → (l'.getD (j - (n + 1)) (0, 0)).1 = (((r + 1, hh + 1) :: l').getD (j - n) (0, 0)).1 := fun j hj => by
          obtain ⟨m, rfl⟩ : ∃ m, j = n + 1 + m := ⟨j - (n + 1), by omega⟩
          rw [show n + 1 + m - (n + 1) = m by omega, show n + 1 + m - n = m + 1 by omega, List.getD_cons_succ]
        cases i with
        | zero =>
          have hkd := kw_kd (n + 1) l' hk
          rw [hlen] at hkd
          have h2 := Kd.congr (fun j hj => hc j (by omega)) hkd
          simp only [List.length_cons, List.getD_cons_zero, Nat.add_zero] at h2 ⊢
          rw [show n + (xs.length + 1) = n + 1 + xs.length by omega, show n + (r + 1) = n + 1 + r by omega]
          exact h2
        | succ i =>
          have ih := ofL_kd xs (n + 1) l' hl' i (by simpa using hi)
          have h2 := Kd.congr (fun j hj => hc j (by omega)) ih
          simp only [List.length_cons, List.getD_cons_succ] at h2 ⊢
          rw [show n + (xs.length + 1) = n + 1 + xs.length by omega, show n + (i + 1) = n + 1 + i by omega]
          exact h2
/-- A right grammar's nodes are trees. -/
structure Tree (rs : List Rule) (ns : List Node) (sz : Nat → Nat) : Prop where
  node : ∀ n, n < ns.length → nodeB (ns.getD n default) rs.length = true
  size : ∀ n, n < ns.length → 1 ≤ sz n ∧ n + sz n ≤ ns.length
  kids : ∀ n, n < ns.length → Kd sz ns.length (n + 1) (ns.getD n default).kids (n + sz n)
def szOf (l : List (Nat × Nat)) (n : Nat) : Nat := (l.getD n (0, 0)).1
theorem tree_of {rs : List Rule} {ns : List Node} {l : List (Nat × Nat)} (h : wholeL rs ns = some l) : Tree rs ns (szOf l) ∧ rl rs l rs 0 0 = some ns.length ∧ l.length = ns.length ∧ ns.length ≤ 2048 ∧ rs.length ≤ 32 ∧ rs.length ≠ 0 := by
  unfold wholeL at h
  split at h
  · cases h
  rename_i h0
  split at h
  · cases h
  rename_i h1
  split at h
  · cases h
  rename_i l' hl'
  split at h
  · rename_i hr
    cases h
    obtain ⟨e1, e2⟩ := ofL_ok hl'
    refine ⟨⟨fun n hn => ?_, fun n hn => ?_, fun n hn => ?_⟩, hr, e1, by omega, by omega, by omega⟩
    · have h2 : ns.any (fun x => !nodeB x rs.length) = false := by simpa using h1
      rw [List.any_eq_false] at h2
      have := h2 (ns.getD n default) (by rw [List.getD_eq_getElem?_getD, List.getElem?_eq_getElem hn]; exact List.getElem_mem _)
      simpa using this
    · obtain ⟨a, b, _⟩ := e2 n (by omega)
      exact ⟨a, by unfold szOf; omega⟩
    · have := ofL_kd ns 0 _ hl' n hn
      simp only [Nat.sub_zero, Nat.zero_add] at this
      exact this
  · cases h
/-- A node's text, in a place so tight; f: at most so many nodes are gone down. -/
def ownK (k : Int) : Int := if k = 7 then 0 else if k = 6 then 1 else if k = 11 ∨ k = 12 then 2 else 3
def bodyT (rs : List Rule) (x : Node) (rec : Int → Int → List UInt8) : List UInt8 :=
  if x.kind = 1 then [40, 41] else if x.kind = 2 then [46] else if x.kind = 3 then setT x else if x.kind = 4 then textT x.text else if x.kind = 5 then callT rs x
  else if x.kind = 6 then joinT [32] (fun k => rec k 2) x.kids else if x.kind = 7 then joinT [32, 47, 32] (fun k => rec k 1) x.kids
  else if 11 ≤ x.kind then (signB x.kind).data.toList ++ rec (x.kids.getD 0 0) 2 else rec (x.kids.getD 0 0) 3 ++ (signB x.kind).data.toList
def textN (rs : List Rule) (ns : List Node) : Nat → Int → Int → List UInt8
  | 0, _, _ => []
  | f + 1, n, how =>
    let x := ns.getD n.toNat default
    if ownK x.kind < how then 40 :: (bodyT rs x (textN rs ns f) ++ [41]) else bodyT rs x (textN rs ns f)
/-- What a right node is. -/
theorem nodeB_cases {x : Node} {rs : Int} (h : nodeB x rs = true) :
    ((x.kind = 1 ∨ x.kind = 2) ∧ plainB x = true ∧ x.kids.length = 0) ∨ (x.kind = 3 ∧ ¬ (x.c0 = 0 ∧ x.c1 = 0 ∧ x.c2 = 0 ∧ x.c3 = 0) ∧ plainB { x with c0 := 0, c1 := 0, c2 := 0, c3 := 0 } = true ∧ x.kids.length = 0) ∨
    (x.kind = 4 ∧ (0 < x.text.size ∧ x.text.size ≤ 64) ∧ plainB { x with text := ⟨#[]⟩ } = true ∧ x.kids.length = 0) ∨
    (x.kind = 5 ∧ (0 ≤ x.rule ∧ x.rule < rs ∧ 0 ≤ x.level ∧ x.level ≤ 99) ∧ plainB { x with rule := 0, level := 0 } = true ∧ x.kids.length = 0) ∨
    ((x.kind = 6 ∨ x.kind = 7) ∧ plainB x = true ∧ 2 ≤ x.kids.length ∧ x.kids.length ≤ 64) ∨ ((8 ≤ x.kind ∧ x.kind ≤ 12) ∧ plainB x = true ∧ x.kids.length = 1) := by
  unfold nodeB at h
  split at h
  · rename_i hk; simp at h; exact .inl ⟨hk, h.1, by simp [h.2]⟩
  split at h
  · rename_i hk; simp only [Bool.and_eq_true, decide_eq_true_eq] at h; exact .inr (.inl ⟨hk, h.1, h.2.1, h.2.2⟩)
  split at h
  · rename_i hk; simp only [Bool.and_eq_true, decide_eq_true_eq] at h; exact .inr (.inr (.inl ⟨hk, h.1, h.2.1, h.2.2⟩))
  split at h
  · rename_i hk; simp only [Bool.and_eq_true, decide_eq_true_eq] at h; exact .inr (.inr (.inr (.inl ⟨hk, h.1, h.2.1, h.2.2⟩)))
  split at h
  · rename_i hk; simp only [Bool.and_eq_true, decide_eq_true_eq] at h; exact .inr (.inr (.inr (.inr (.inl ⟨hk, h.1, h.2.1, h.2.2⟩))))
  split at h
  · rename_i hk; simp only [Bool.and_eq_true, decide_eq_true_eq] at h; exact .inr (.inr (.inr (.inr (.inr ⟨hk, h.1, h.2⟩))))
  · cases h
theorem dec_len (i : Nat) (h : i < 100) : (Lib.decDigits i).length ≤ 2 := by
  by_cases h1 : i < 10
  · rw [Lib.decDigits_one h1]; simp
  · rw [Lib.decDigits_two h1 h]; simp
theorem flat_len {sz : Nat → Nat} {N C : Nat} {sep : List UInt8} {f : Int → List UInt8} (hs : sep.length ≤ 3) (hf : ∀ s : Nat, s < N → (f s).length ≤ C * sz s) : ∀ {ks : List Int} {s e : Nat}, Kd sz N s ks e → (ks.flatMap (fun k => sep ++ f k)).length + C * s ≤ C * e + 3 * ks.length
  | [], s, e, h => by simp [Kd] at h; subst h; simp
  | k :: ks, s, e, ⟨h1, h2, h3⟩ => by
    have ih := flat_len hs hf h3
    have hk := hf s h2
    subst h1
    simp only [List.flatMap_cons, List.length_append, List.length_cons] at *
    rw [Nat.mul_add] at ih
    omega
theorem join_len {sz : Nat → Nat} {N C : Nat} {sep : List UInt8} {f : Int → List UInt8} (hs : sep.length ≤ 3) (hf : ∀ s : Nat, s < N → (f s).length ≤ C * sz s) {ks : List Int} {s e : Nat} (h : Kd sz N s ks e) : (joinT sep f ks).length + C * s ≤ C * e + 3 * ks.length := by
  cases ks with
  | nil => simp [Kd] at h; subst h; simp [joinT]
  | cons k ks =>
    have := flat_len hs hf h
    simp only [joinT, List.flatMap_cons, List.length_append] at *
    omega
theorem textN_len {rs : List Rule} {ns : List Node} {sz : Nat → Nat} (hT : Tree rs ns sz) (hW : ∀ x ∈ ns, Wd x) (hN : ∀ r ∈ rs, r.name.size ≤ 32) : ∀ (f n : Nat) (how : Int), n < ns.length → (textN rs ns f n how).length ≤ 2600 * sz n
  | 0, n, how, hn => by simp [textN]
  | f + 1, n, how, hn => by
    have ih := fun (k : Nat) (how : Int) (hk : k < ns.length) => textN_len hT hW hN f k how hk
    have hs := hT.size n hn
    have hk := hT.kids n hn
    have hb := nodeB_cases (hT.node n hn)
    have hmem : ns.getD n default ∈ ns := by rw [List.getD_eq_getElem?_getD, List.getElem?_eq_getElem hn]; exact List.getElem_mem _
    have hw := hW _ hmem
    have hbody : (bodyT rs (ns.getD n default) (textN rs ns f)).length + 2 ≤ 2600 * sz n := by
      generalize ns.getD n default = x at *
      unfold bodyT
      rcases hb with ⟨hk1, _⟩ | ⟨hk1, _⟩ | ⟨hk1, h4, _⟩ | ⟨hk1, h5, _⟩ | ⟨hk1, _, h6⟩ | ⟨hk1, _, h8⟩
      · rcases hk1 with e | e <;> simp [e] <;> omega
      · have := setT_len hw
        simp [hk1]; omega
      · have h1 := allL_len 1 x.text.data.toList
        have h2 : (textT x.text).length = (allL 1 x.text.data.toList).length + 2 := by simp [textT]
        rw [← bsize] at h1
        simp only [hk1, show ¬ ((4 : Int) = 1) by decide, show ¬ ((4 : Int) = 2) by decide, show ¬ ((4 : Int) = 3) by decide, if_false, if_true]
        omega
      · have h1 : (rs.getD x.rule.toNat default).name.size ≤ 32 := by
          rw [List.getD_eq_getElem?_getD, List.getElem?_eq_getElem (by omega)]; exact hN _ (List.getElem_mem _)
        have h2 := dec_len x.level.toNat (by omega)
        have h3 : (callT rs x).length ≤ 35 := by
          unfold callT
          rw [List.length_append, ← bsize]
          split <;> simp only [List.length_cons, List.length_nil] <;> omega
        simp [hk1]; omega
      · rcases hk1 with e | e
        · have := join_len (sep := [32]) (C := 2600) (f := fun k => textN rs ns f k 2) (by simp) (fun s hs => ih s 2 hs) hk
          simp [e]; omega
        · have := join_len (sep := [32, 47, 32]) (C := 2600) (f := fun k => textN rs ns f k 1) (by simp) (fun s hs => ih s 1 hs) hk
          simp [e]; omega
      · obtain ⟨k, hkk⟩ : ∃ k, x.kids = [k] := List.length_eq_one_iff.1 h8
        rw [hkk] at hk ⊢
        obtain ⟨rfl, h1, h2⟩ := hk
        simp [Kd] at h2
        have hsg : (signB x.kind).data.toList.length = 1 := by unfold signB; (repeat' split) <;> rfl
        have e1 := ih (n + 1) 2 h1
        have e2 := ih (n + 1) 3 h1
        have hne : x.kind ≠ 1 ∧ x.kind ≠ 2 ∧ x.kind ≠ 3 ∧ x.kind ≠ 4 ∧ x.kind ≠ 5 ∧ x.kind ≠ 6 ∧ x.kind ≠ 7 := by omega
        simp only [hne, if_false, List.getD_cons_zero]
        split <;> simp only [List.length_append] <;> omega
    have e : ((n : Int)).toNat = n := by simp
    simp only [textN, e]
    split
    · simp only [List.length_cons, List.length_append, List.length_nil]; omega
    · omega
end Go.Proofs.YtljoajjbhjdonaaDoor
