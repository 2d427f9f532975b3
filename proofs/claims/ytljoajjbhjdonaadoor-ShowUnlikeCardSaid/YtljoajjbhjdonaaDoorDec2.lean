/- The plain law: a decoder of nodes' texts, and its rules. -/
import Derived.Test.YtljoajjbhjdonaaDoorDec1
namespace Go.Proofs.YtljoajjbhjdonaaDoor
open Go.RowKit
set_option maxRecDepth 100000

/-- What a node is, but for its place: its kind, its bytes, its level's digits, how many kids it has. -/
structure Lab where
  kind : Int
  tag : List UInt8
  lev : List UInt8
  ar : Nat
inductive Md where
  | alt
  | alts (c : Nat) (acc : List Lab)
  | seq
  | seqs (c : Nat) (acc : List Lab)
  | item
  | prim
def grp (kind : Int) (c : Nat) (acc : List Lab) : List Lab := if c = 1 then acc else ⟨kind, [], [], c⟩ :: acc
/-- Signs behind a part. -/
def post : List Lab → List UInt8 → List Lab × List UInt8
  | acc, [] => (acc, [])
  | acc, c :: k => if c = 42 then post (⟨8, [], [], 1⟩ :: acc) k else if c = 43 then post (⟨9, [], [], 1⟩ :: acc) k else if c = 63 then post (⟨10, [], [], 1⟩ :: acc) k else (acc, c :: k)
def dec : Nat → Md → List UInt8 → Option (List Lab × List UInt8)
  | 0, _, _ => none
  | f + 1, .alt, s => match dec f .seq s with
    | none => none
    | some (l, r) => dec f (.alts 1 l) r
  | f + 1, .alts c acc, s => if s.take 3 = [32, 47, 32] then (match dec f .seq (s.drop 3) with
    | none => none
    | some (l, r) => dec f (.alts (c + 1) (acc ++ l)) r) else some (grp 7 c acc, s)
  | f + 1, .seq, s => match dec f .item s with
    | none => none
    | some (l, r) => dec f (.seqs 1 l) r
  | f + 1, .seqs c acc, s => if s.head? = some 32 ∧ (s.drop 1).head? ≠ some 47 then (match dec f .item (s.drop 1) with
    | none => none
    | some (l, r) => dec f (.seqs (c + 1) (acc ++ l)) r) else some (grp 6 c acc, s)
  | f + 1, .item, s => if s.head? = some 33 then (match dec f .item (s.drop 1) with
      | none => none
      | some (l, r) => some (⟨11, [], [], 1⟩ :: l, r))
    else if s.head? = some 38 then (match dec f .item (s.drop 1) with
      | none => none
      | some (l, r) => some (⟨12, [], [], 1⟩ :: l, r))
    else match dec f .prim s with
      | none => none
      | some (l, r) => some (post l r)
  | f + 1, .prim, s => if s.head? = some 40 then (if (s.drop 1).head? = some 41 then some ([⟨1, [], [], 0⟩], s.drop 2) else match dec f .alt (s.drop 1) with
      | none => none
      | some (l, r) => some (l, r.drop 1))
    else if s.head? = some 46 then some ([⟨2, [], [], 0⟩], s.drop 1)
    else if s.head? = some 91 then (match unSet f (s.drop 1) with
      | none => none
      | some (l, r) => some ([⟨3, l, [], 0⟩], r))
    else if s.head? = some 34 then (match unText f (s.drop 1) with
      | none => none
      | some (l, r) => some ([⟨4, l, [], 0⟩], r))
    else some ([⟨5, (unCall s).1.1, (unCall s).1.2, 0⟩], (unCall s).2)
def Ev (m : Md) (s : List UInt8) (o : List Lab × List UInt8) : Prop := ∃ F, ∀ f, F ≤ f → dec f m s = some o
theorem Ev.same {m : Md} {s : List UInt8} {o o' : List Lab × List UInt8} (h : Ev m s o) (h' : Ev m s o') : o = o' := by
  obtain ⟨F, hF⟩ := h
  obtain ⟨G, hG⟩ := h'
  have h1 := hF (max F G) (Nat.le_max_left _ _)
  have h2 := hG (max F G) (Nat.le_max_right _ _)
  rw [h1] at h2
  exact Option.some.inj h2
theorem Ev.of {m : Md} {s : List UInt8} {o : List Lab × List UInt8} (F : Nat) (h : ∀ f, F ≤ f → dec (f + 1) m s = some o) : Ev m s o :=
  ⟨F + 1, fun f hf => by obtain ⟨g, rfl⟩ : ∃ g, f = g + 1 := ⟨f - 1, by omega⟩; exact h g (by omega)⟩
theorem Ev.alt {s l r} {o} (h1 : Ev .seq s (l, r)) (h2 : Ev (.alts 1 l) r o) : Ev .alt s o := by
  obtain ⟨F, hF⟩ := h1
  obtain ⟨G, hG⟩ := h2
  exact Ev.of (max F G) fun f hf => by
    rw [dec, hF f (by omega)]; exact hG f (by omega)
theorem Ev.alts_end {c acc s} (h : s.take 3 ≠ [32, 47, 32]) : Ev (.alts c acc) s (grp 7 c acc, s) := Ev.of 0 fun f _ => by rw [dec, if_neg h]
theorem Ev.alts_more {c acc s l r} {o} (h1 : Ev .seq s (l, r)) (h2 : Ev (.alts (c + 1) (acc ++ l)) r o) : Ev (.alts c acc) (32 :: 47 :: 32 :: s) o := by
  obtain ⟨F, hF⟩ := h1
  obtain ⟨G, hG⟩ := h2
  exact Ev.of (max F G) fun f hf => by
    rw [dec, if_pos (by rfl)]
    simp only [List.drop_succ_cons, List.drop_zero]
    rw [hF f (by omega)]; exact hG f (by omega)
theorem Ev.seq {s l r} {o} (h1 : Ev .item s (l, r)) (h2 : Ev (.seqs 1 l) r o) : Ev .seq s o := by
  obtain ⟨F, hF⟩ := h1
  obtain ⟨G, hG⟩ := h2
  exact Ev.of (max F G) fun f hf => by
    rw [dec, hF f (by omega)]; exact hG f (by omega)
theorem Ev.seqs_end {c acc s} (h : ¬ (s.head? = some 32 ∧ (s.drop 1).head? ≠ some 47)) : Ev (.seqs c acc) s (grp 6 c acc, s) := Ev.of 0 fun f _ => by rw [dec, if_neg h]
theorem Ev.seqs_more {c acc s l r} {o} (h : s.head? ≠ some 47) (h1 : Ev .item s (l, r)) (h2 : Ev (.seqs (c + 1) (acc ++ l)) r o) : Ev (.seqs c acc) (32 :: s) o := by
  obtain ⟨F, hF⟩ := h1
  obtain ⟨G, hG⟩ := h2
  exact Ev.of (max F G) fun f hf => by
    rw [dec, if_pos ⟨by rfl, by simpa using h⟩]
    simp only [List.drop_succ_cons, List.drop_zero]
    rw [hF f (by omega)]; exact hG f (by omega)
theorem Ev.not {s l r} (h1 : Ev .item s (l, r)) : Ev .item (33 :: s) (⟨11, [], [], 1⟩ :: l, r) := by
  obtain ⟨F, hF⟩ := h1
  exact Ev.of F fun f hf => by
    rw [dec, if_pos (by rfl)]
    simp only [List.drop_succ_cons, List.drop_zero]
    rw [hF f (by omega)]
theorem Ev.and {s l r} (h1 : Ev .item s (l, r)) : Ev .item (38 :: s) (⟨12, [], [], 1⟩ :: l, r) := by
  obtain ⟨F, hF⟩ := h1
  exact Ev.of F fun f hf => by
    rw [dec, if_neg (by simp), if_pos (by rfl)]
    simp only [List.drop_succ_cons, List.drop_zero]
    rw [hF f (by omega)]
theorem Ev.item {s l r} (h0 : s.head? ≠ some 33) (h2 : s.head? ≠ some 38) (h1 : Ev .prim s (l, r)) : Ev .item s (post l r) := by
  obtain ⟨F, hF⟩ := h1
  exact Ev.of F fun f hf => by
    rw [dec, if_neg h0, if_neg h2, hF f (by omega)]
theorem Ev.empty {r} : Ev .prim (40 :: 41 :: r) ([⟨1, [], [], 0⟩], r) := Ev.of 0 fun f _ => by
  rw [dec, if_pos (by rfl), if_pos (by rfl)]; rfl
theorem Ev.paren {s l r} (h0 : s.head? ≠ some 41) (h1 : Ev .alt s (l, 41 :: r)) : Ev .prim (40 :: s) (l, r) := by
  obtain ⟨F, hF⟩ := h1
  exact Ev.of F fun f hf => by
    rw [dec, if_pos (by rfl)]
    simp only [List.drop_succ_cons, List.drop_zero]
    rw [if_neg h0, hF f (by omega)]
    rfl
theorem Ev.any {r} : Ev .prim (46 :: r) ([⟨2, [], [], 0⟩], r) := Ev.of 0 fun f _ => by
  rw [dec, if_neg (by simp), if_pos (by rfl)]; rfl
theorem Ev.set {x : Node} {r} : Ev .prim (setT x ++ r) ([⟨3, preB (clsW x) 4, [], 0⟩], r) := by
  obtain ⟨F, hF⟩ := unSet_set x r
  refine Ev.of F fun f hf => ?_
  have e : setT x ++ r = 91 :: ((setR x).flatMap runT ++ 93 :: r) := by simp [setT]
  rw [e, dec, if_neg (by simp), if_neg (by simp), if_pos (by rfl)]
  simp only [List.drop_succ_cons, List.drop_zero]
  rw [hF f hf]
theorem Ev.text {t : ByteArray} {r} : Ev .prim (textT t ++ r) ([⟨4, t.data.toList, [], 0⟩], r) := by
  refine Ev.of (t.data.toList.length + 1) fun f hf => ?_
  have e : textT t ++ r = 34 :: (allL 1 t.data.toList ++ 34 :: r) := by simp [textT]
  rw [e, dec, if_neg (by simp), if_neg (by simp), if_neg (by simp), if_pos (by rfl)]
  simp only [List.drop_succ_cons, List.drop_zero]
  rw [unText_all _ _ _ (by omega)]
theorem Ev.call {s} (h : ∀ c l, s = c :: l → letterZ (c.toNat : Int) = true) : Ev .prim s ([⟨5, (unCall s).1.1, (unCall s).1.2, 0⟩], (unCall s).2) := by
  have h2 : ∀ d : UInt8, letterZ (d.toNat : Int) = false → s.head? ≠ some d := fun d hd e => by
    cases s with
    | nil => simp at e
    | cons c l => simp only [List.head?_cons, Option.some.injEq] at e; rw [← e, h c l rfl] at hd; cases hd
  exact Ev.of 0 fun f _ => by
    rw [dec, if_neg (h2 40 (by decide)), if_neg (h2 46 (by decide)), if_neg (h2 91 (by decide)), if_neg (h2 34 (by decide))]
end Go.Proofs.YtljoajjbhjdonaaDoor
