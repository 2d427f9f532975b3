/- Package gram: Same: whether two grammars are one, part by part: just whether their rules and nodes are equal. No condition but on sizes. -/
import Derived.Test.YtljoajjbhjdonaaDoorGram1
import Derived.Test.YtljoajjbhjdonaaDoorShelf
import Derived.Deep.LoopGhost
import Derived.Deep.Light
namespace Go.Proofs.YtljoajjbhjdonaaDoor
open Go.RowKit
set_option maxRecDepth 100000

noncomputable def eqB {α : Type} (a b : α) : Bool := @decide (a = b) (Classical.propDecidable _)
theorem eqB_true {α : Type} {a b : α} (h : a = b) : eqB a b = true := by unfold eqB; simp [h]
theorem eqB_false {α : Type} {a b : α} (h : ¬ a = b) : eqB a b = false := by unfold eqB; simp [h]
theorem eqB_iff {α : Type} {a b : α} : eqB a b = true ↔ a = b := by unfold eqB; simp
theorem list_getD_ext {α : Type} [Inhabited α] {l m : List α} (h : l.length = m.length) (h2 : ∀ i, i < l.length → l.getD i default = m.getD i default) : l = m := by
  apply List.ext_getElem h
  intro i h3 h4
  have := h2 i h3
  simpa [List.getD, h3, h4] using this
theorem beq_size {a b : Nat} : (((a : Nat) : Int) != (b : Int)) = !decide (a = b) := by
  rw [Bool.eq_iff_iff]; simp; omega

theorem Equal_ints_len (a a2 : Option Addr) (n c m d : Nat) (w : World) (_hn : n ≤ 140737488355328) (_hm : m ≤ 140737488355328) (h : ¬ n = m) :
    Calls Tryd.prog 22 #[.slice a n c, .slice a2 m d] w fun e w' => e = .returned (.bool false) ∧ Below w.heap.size w w' := by
  have hz : (((n : Nat) : Int) != (m : Int)) = true := by rw [bne_iff_ne]; omega
  go_enter Tryd.func22, Tryd.ntmps22
  go_wp2
  go_ret
  exact ⟨rfl, Below.refl _ _⟩
theorem Equal_rules_len (a a2 : Option Addr) (n c m d : Nat) (w : World) (_hn : n ≤ 140737488355328) (_hm : m ≤ 140737488355328) (h : ¬ n = m) :
    Calls Tryd.prog 15 #[.slice a n c, .slice a2 m d] w fun e w' => e = .returned (.bool false) ∧ Below w.heap.size w w' := by
  have hz : (((n : Nat) : Int) != (m : Int)) = true := by rw [bne_iff_ne]; omega
  go_enter Tryd.func15, Tryd.ntmps15
  go_wp2
  go_ret
  exact ⟨rfl, Below.refl _ _⟩
/-- slices.Equal of numbers. -/
theorem Equal_ints (xs ys : List Int) (v u : Value) (w : World) (hv : IntsAt w v xs) (hu : IntsAt w u ys) :
    Calls Tryd.prog 22 #[v, u] w fun e w' => e = .returned (.bool (eqB xs ys)) ∧ Below w.heap.size w w' := by
  have hx := hv.le
  have hy := hu.le
  rcases hv.cases with ⟨h0, a, c, rfl⟩ | ⟨h0, b, o, c, rfl, _, _, hc⟩
  · obtain ⟨a2, c2, rfl, _⟩ := hu
    refine (Tryd.slices_Equal_int_empty a a2 c ys.length c2 w (by omega)).mono ?_
    rintro e w' ⟨rfl, rfl⟩
    refine ⟨ret_bool ?_, Below.refl _ _⟩
    have hx0 : xs = [] := List.eq_nil_of_length_eq_zero h0
    by_cases hy0 : ys.length = 0
    · rw [eqB_true (by rw [hx0, List.eq_nil_of_length_eq_zero hy0])]; simpa using List.eq_nil_of_length_eq_zero hy0
    · rw [eqB_false (fun e => hy0 (by rw [← e]; exact h0))]; simpa using hy0
  · rcases hu.cases with ⟨k0, a2, c2, rfl⟩ | ⟨k0, b2, o2, c2, rfl, _, _, kc⟩
    · refine (Equal_ints_len _ _ _ _ _ _ w hx (by omega : (0 : Nat) ≤ 140737488355328) (by omega)).mono ?_
      rintro e w' ⟨rfl, hb⟩
      exact ⟨ret_bool (eqB_false (fun e => by rw [e] at h0; omega)).symm, hb⟩
    · refine (Tryd.slices_Equal_int b o xs.length c b2 o2 ys.length c2 xs ys w (Nat.le_refl _) (Nat.le_refl _) (by omega) (by omega) (fun j hj => by have := hc j hj; simpa using this) (fun j hj => by have := kc j hj; simpa using this)).mono ?_
      rintro e w' ⟨rfl, q, rfl⟩
      refine ⟨ret_bool ?_, below_drewN (Below.refl _ _) q⟩
      rw [List.take_length, List.take_length, Bool.eq_iff_iff, eqB_iff, beq_iff_eq]
theorem bytes_toList {a b : ByteArray} : a.toList = b.toList ↔ a = b := by
  rw [ByteArray.toList_eq, ByteArray.toList_eq, ByteArray.ext_iff, Array.toList_inj]
theorem rule_ext {x y : Rule} : x = y ↔ x.name = y.name ∧ x.body = y.body := by
  cases x; cases y; simp
theorem neq_rule (x y : Rule) (w : World) : (binOp .neq 35 (.agg #[.string x.name, .int .i64 x.body]) (.agg #[.string y.name, .int .i64 y.body])).run Tryd.prog w = .ok (.bool (!eqB x y)) w := by
  by_cases h1 : x.name = y.name
  · by_cases h2 : x.body = y.body
    · rw [eqB_true (rule_ext.2 ⟨h1, h2⟩)]; simp [go_sem, h1, h2]
    · rw [eqB_false (fun e => h2 (rule_ext.1 e).2)]; simp [go_sem, h1, h2]
  · rw [eqB_false (fun e => h1 (rule_ext.1 e).1)]
    have : ¬ x.name.toList = y.name.toList := fun h => h1 (bytes_toList.1 h)
    simp [go_sem, this]
/-- slices.Equal of rules. -/
theorem Equal_rules (xs ys : List Rule) (v u : Value) (w : World) (hv : RulesAt w v xs) (hu : RulesAt w u ys) :
    Calls Tryd.prog 15 #[v, u] w fun e w' => e = .returned (.bool (eqB xs ys)) ∧ Below w.heap.size w w' := by
  have hx := hv.le
  have hy := hu.le
  obtain ⟨a, c, rfl, _, _, hc⟩ := hv
  obtain ⟨a2, c2, rfl, _, _, kc⟩ := hu
  by_cases hl : xs.length = ys.length
  · generalize hn : xs.length = n at *
    have Hn := Lib.hid hn
    have Hl := Lib.hid hl
    clear hn
    subst hl
    go_enter Tryd.func15, Tryd.ntmps15
    go_wp2
    go_loopg [5, 13] ys.length (fun g s5 s13 wr => ∃ i : Nat, g = ys.length - i ∧ i ≤ ys.length ∧ s13 = .int .i64 i ∧ Aside (∀ j, j < i → xs.getD j default = ys.getD j default) ∧ Below w.heap.size w wr)
    case atStart => exact ⟨0, by omega, by omega, rfl, fun j hj => by omega, Below.refl _ _⟩
    case round =>
      obtain ⟨i, rfl, hi, rfl, A, hb⟩ := hrel
      by_cases hil : i < ys.length
      · obtain ⟨b1, o1, rfl, hR1⟩ := hc i hil
        obtain ⟨b2, o2, rfl, hR2⟩ := kc i hil
        generalize hx1 : xs.getD i default = x at hR1
        generalize hx2 : ys.getD i default = y at hR2
        obtain ⟨p0, p1⟩ := RuleAt.below hb hR1
        obtain ⟨q0, q1⟩ := RuleAt.below hb hR2
        have H1 := Lib.hid hx1
        have H2 := Lib.hid hx2
        have hiz : (i : Int) < (ys.length : Int) := by omega
        have hne := neq_rule x y
        clear hx1 hx2 hR1 hR2
        go_wp2
        go_region
        all_goals go_wp2
        · go_ret
          have hp : (!eqB x y) = true := by assumption
          refine ⟨ret_bool (eqB_false fun e => ?_).symm, hb.drew⟩
          have h3 : x = y := by rw [← H1.out, ← H2.out, e]
          rw [eqB_true h3] at hp; simp at hp
        · go_roundg (ys.length - (i + 1))
          case measure => go_light; omega
          case rel =>
            have hp : (!eqB x y) = false := by assumption
            go_light
            refine ⟨i + 1, rfl, by omega, by go_num, fun j hj => ?_, hb.drew⟩
            by_cases e : j = i
            · subst e; rw [H1.out, H2.out]; exact eqB_iff.1 (by simpa using hp)
            · exact A.out j (by omega)
      · go_wp2
        go_ret
        refine ⟨ret_bool (eqB_true ?_).symm, hb⟩
        exact list_getD_ext (Hn.out) (fun j hj => A.out j (by have := Hn.out; omega))
  · refine (Equal_rules_len _ _ _ _ _ _ w hx hy hl).mono ?_
    rintro e w' ⟨rfl, hb⟩
    exact ⟨ret_bool (eqB_false (fun e => hl (by rw [e]))).symm, hb⟩
theorem node_ext {x y : Node} : x = y ↔ x.kind = y.kind ∧ (x.c0 = y.c0 ∧ x.c1 = y.c1 ∧ x.c2 = y.c2 ∧ x.c3 = y.c3) ∧ x.text = y.text ∧ x.rule = y.rule ∧ x.level = y.level ∧ x.kids = y.kids := by
  cases x; cases y; simp [and_assoc]
theorem sameNode_calls (x y : Node) (v u : Value) (w : World) (hv : IntsAt w v x.kids) (hu : IntsAt w u y.kids) :
    Calls Tryd.prog 17 #[nodeV x v, nodeV y u] w fun e w' => e = .returned (.bool (eqB x y)) ∧ Below w.heap.size w w' := by
  have hce := cls_eq x.c0 x.c1 x.c2 x.c3 y.c0 y.c1 y.c2 y.c3
  have hv2 : ∀ o o', IntsAt ((w.alloc o).alloc o') v x.kids := fun o o' => IntsAt.below (below_box2 w o o') hv
  have hu2 : ∀ o o', IntsAt ((w.alloc o).alloc o') u y.kids := fun o o' => IntsAt.below (below_box2 w o o') hu
  obtain ⟨a, c, rfl, ha⟩ := id hv
  obtain ⟨a2, c2, rfl, ha2⟩ := id hu
  clear ha ha2
  have hC := fun o o' => Equal_ints x.kids y.kids _ _ _ (hv2 o o') (hu2 o o')
  clear hv hu hv2 hu2
  go_enter Tryd.func17, Tryd.ntmps17
  go_wp2_with (go_at_call 22; refine (hC _ _).mono ?_; rintro e w1 ⟨rfl, hb1⟩)
  all_goals
    go_ret
    refine ⟨ret_bool ?_, (by first | exact below_chain (below_box2 _ _ _) hb1 | exact below_box2 _ _ _)⟩
    clear hC hce
    try clear hb1
    have hxy : eqB x y = true ↔ _ := eqB_iff.trans node_ext
    rw [← bytes_toList] at hxy
    rw [Bool.eq_iff_iff, hxy]
    clear hxy
    simp_all [eqB_iff]

set_option maxHeartbeats 2000000 in
/-- slices.EqualFunc over nodes by sameNode. -/
theorem EqualFunc_nodes (xs ys : List Node) (v u : Value) (w : World) (hv : NodesAt w v xs) (hu : NodesAt w u ys) :
    Calls Tryd.prog 21 #[v, u, .func (.func 17) #[] #[]] w fun e w' => e = .returned (.bool (eqB xs ys)) ∧ Below w.heap.size w w' := by
  have hnot : ∀ (x : Bool) (w : World), (Op.unary .not (.bool x)).run Tryd.prog w = .ok (.bool (!x)) w := fun _ _ => rfl
  have hx := hv.le
  have hy := hu.le
  obtain ⟨a, c, rfl, _, _, hc⟩ := hv
  obtain ⟨a2, c2, rfl, _, _, kc⟩ := hu
  by_cases hl : xs.length = ys.length
  · generalize hn : xs.length = n at *
    have Hn := Lib.hid hn
    clear hn
    subst hl
    go_enter Tryd.func21, Tryd.ntmps21
    go_wp2
    go_loopg [7, 8, 9, 17] ys.length (fun g s7 s8 s9 s17 wr => ∃ i : Nat, g = ys.length - i ∧ i ≤ ys.length ∧ s17 = .int .i64 i ∧ Aside (∀ j, j < i → xs.getD j default = ys.getD j default) ∧ Below w.heap.size w wr)
    case atStart => exact ⟨0, by omega, by omega, rfl, fun j hj => by omega, Below.refl _ _⟩
    case round =>
      obtain ⟨i, rfl, hi, rfl, A, hb⟩ := hrel
      by_cases hil : i < ys.length
      · obtain ⟨b1, o1, rfl, hR1⟩ := hc i hil
        obtain ⟨b2, o2, rfl, hR2⟩ := kc i hil
        generalize hx1 : xs.getD i default = x at hR1
        generalize hx2 : ys.getD i default = y at hR2
        obtain ⟨p0, p1, p2, p3, p4, p5, p6, p7, kv, p8, hkv⟩ := NodeAt.below hb hR1
        obtain ⟨q0, q1, q2, q3, q4, q5, q6, q7, ku, q8, hku⟩ := NodeAt.below hb hR2
        have H1 := Lib.hid hx1
        have H2 := Lib.hid hx2
        have hiz : (i : Int) < (ys.length : Int) := by omega
        have hk1 : ∀ o o', IntsAt ((wr.alloc o).alloc o') kv x.kids := fun o o' => IntsAt.below (below_box2 wr o o') hkv
        have hk2 : ∀ o o', IntsAt ((wr.alloc o).alloc o') ku y.kids := fun o o' => IntsAt.below (below_box2 wr o o') hku
        obtain ⟨ka, kn, rfl, kz⟩ := id hkv
        obtain ⟨ka2, kn2, rfl, kz2⟩ := id hku
        have hlt1 := World.block_lt_of_cell? _ _ p0
        have hlt2 := World.block_lt_of_cell? _ _ q0
        have hC := fun o o' => sameNode_calls x y _ _ _ (hk1 o o') (hk2 o o')
        clear hx1 hx2 hR1 hR2 kz kz2 hkv hku hk1 hk2
        go_wp2_with (go_at_call 17; refine (hC _ _).mono ?_; rintro e w1 ⟨rfl, hb1⟩)
        · go_ret
          have hp : (!eqB x y) = true := by assumption
          refine ⟨ret_bool (eqB_false fun e => ?_).symm, below_chain (below_chain hb (below_box2 _ _ _)) hb1⟩
          have h3 : x = y := by rw [← H1.out, ← H2.out, e]
          rw [eqB_true h3] at hp; simp at hp
        · go_roundg (ys.length - (i + 1))
          case measure => go_light; omega
          case rel =>
            have hp : (!eqB x y) = false := by assumption
            go_light
            refine ⟨i + 1, rfl, by omega, by go_num, fun j hj => ?_, below_chain (below_chain hb (below_box2 _ _ _)) hb1⟩
            by_cases e : j = i
            · subst e; rw [H1.out, H2.out]; exact eqB_iff.1 (by simpa using hp)
            · exact A.out j (by omega)
      · go_wp2
        go_ret
        refine ⟨ret_bool (eqB_true ?_).symm, hb⟩
        exact list_getD_ext (Hn.out) (fun j hj => A.out j (by have := Hn.out; omega))
  · have hz : (((xs.length : Nat) : Int) != (ys.length : Int)) = true := by rw [bne_iff_ne]; omega
    have Hl := Lib.hid hl
    clear hl
    go_enter Tryd.func21, Tryd.ntmps21
    go_wp2
    go_ret
    exact ⟨ret_bool (eqB_false (fun e => Hl.out (by rw [e]))).symm, Below.refl _ _⟩
theorem alike_calls (xs ys : List Node) (v u : Value) (w : World) (hv : NodesAt w v xs) (hu : NodesAt w u ys) :
    Calls Tryd.prog 16 #[v, u, .func (.func 17) #[] #[]] w fun e w' => e = .returned (.bool (eqB xs ys)) ∧ Below w.heap.size w w' := by
  go_enter Tryd.func16, Tryd.ntmps16
  go_wp2_with (go_at_call 21; refine (EqualFunc_nodes xs ys v u _ hv hu).mono ?_; rintro e w1 ⟨rfl, hb1⟩)
  go_ret
  exact ⟨rfl, hb1⟩
/-- gram.Same. -/
theorem Same_calls (rs rs' : List Rule) (ns ns' : List Node) (rv nv rv' nv' : Value) (w : World) (hr : RulesAt w rv rs) (hn : NodesAt w nv ns) (hr' : RulesAt w rv' rs') (hn' : NodesAt w nv' ns') :
    Calls Tryd.prog 7 #[.agg #[rv, nv], .agg #[rv', nv']] w fun e w' => e = .returned (.bool (eqB rs rs' && eqB ns ns')) ∧ Below w.heap.size w w' := by
  have hC := fun o o' => Equal_rules rs rs' rv rv' _ (RulesAt.below (below_box2 w o o') hr) (RulesAt.below (below_box2 w o o') hr')
  have hD := fun o o' W hW => alike_calls ns ns' nv nv' W (NodesAt.below hW (NodesAt.below (below_box2 w o o') hn)) (NodesAt.below hW (NodesAt.below (below_box2 w o o') hn'))
  obtain ⟨a, c, rfl, ha⟩ := hr
  obtain ⟨a2, c2, rfl, ha2⟩ := hn
  obtain ⟨a3, c3, rfl, ha3⟩ := hr'
  obtain ⟨a4, c4, rfl, ha4⟩ := hn'
  clear ha ha2 ha3 ha4
  go_enter Tryd.func7, Tryd.ntmps7
  go_wp2_with (first | (go_at_call 15; refine (hC _ _).mono ?_; rintro e w1 ⟨rfl, hb1⟩; obtain ⟨hc1, hf1⟩ := bcell hb1) | (go_at_call 16; refine (hD _ _ _ hb1).mono ?_; rintro e w2 ⟨rfl, hb2⟩))
  · go_ret
    have h : eqB rs rs' = true := by assumption
    exact ⟨ret_bool (by rw [h]; rfl), below_chain (below_chain (below_box2 _ _ _) hb1) hb2⟩
  · go_ret
    have h : ¬ eqB rs rs' = true := by assumption
    have h' : eqB rs rs' = false := by simpa using h
    exact ⟨ret_bool (by rw [h']; rfl), below_chain (below_box2 _ _ _) hb1⟩
end Go.Proofs.YtljoajjbhjdonaaDoor
