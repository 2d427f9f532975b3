/- slices.IndexFunc and ContainsFunc over rules and nodes, as package gram calls them; gram.Rule: the place of the rule of a name. No condition but on sizes. -/
import Derived.Test.YtljoajjbhjdonaaDoorGram2
import Derived.Deep.LoopGhost
import Derived.Deep.Light
namespace Go.Proofs.YtljoajjbhjdonaaDoor
open Go.RowKit
set_option maxRecDepth 100000

theorem findIdx_at {α : Type} [Inhabited α] {p : α → Bool} {l : List α} {i : Nat} (hi : i < l.length) (h : ∀ j, j < i → p (l.getD j default) = false) (hp : p (l.getD i default) = true) : l.findIdx p = i ∧ l.any p = true := by
  have e : ∀ j (hj : j < l.length), l.getD j default = l[j] := fun j hj => by simp [List.getD, hj]
  have h1 : l.findIdx p = i := by
    refine (List.findIdx_eq hi).2 ⟨by rw [← e i hi]; exact hp, fun j hj => ?_⟩
    rw [← e j (by omega)]; exact h j hj
  exact ⟨h1, List.any_eq_true.2 ⟨l[i], List.getElem_mem hi, by rw [← e i hi]; exact hp⟩⟩
theorem any_not {α : Type} [Inhabited α] {p : α → Bool} {l : List α} (h : ∀ j, j < l.length → p (l.getD j default) = false) : l.any p = false := by
  rw [List.any_eq_false]
  intro x hx
  obtain ⟨j, hj, rfl⟩ := List.getElem_of_mem hx
  have := h j hj
  simpa [List.getD, hj] using this
def idxZ {α : Type} (p : α → Bool) (l : List α) : Int := if l.any p then (l.findIdx p : Nat) else -1
theorem idxZ_some {α : Type} [Inhabited α] {p : α → Bool} {l : List α} {i : Nat} (hi : i < l.length) (h : ∀ j, j < i → p (l.getD j default) = false) (hp : p (l.getD i default) = true) : idxZ p l = (i : Int) := by
  obtain ⟨h1, h2⟩ := findIdx_at hi h hp
  simp [idxZ, h1, h2]
theorem idxZ_none {α : Type} [Inhabited α] {p : α → Bool} {l : List α} (h : ∀ j, j < l.length → p (l.getD j default) = false) : idxZ p l = -1 := by
  simp [idxZ, any_not h]
theorem idxZ_neg {α : Type} {p : α → Bool} {l : List α} : (decide (0 ≤ idxZ p l)) = l.any p := by
  unfold idxZ
  cases l.any p <;> simp

/-! ### rules -/
theorem nameIs_calls (r : Rule) (name : ByteArray) (B : Nat) (w : World) (hB : w.cell? ⟨B, 0, none⟩ = some (.string name)) :
    Calls Tryd.prog 38 #[.agg #[.string r.name, .int .i64 r.body], .pointer (some ⟨B, 0, none⟩)] w fun e w' => e = .returned (.bool (decide (r.name = name))) ∧ Below w.heap.size w w' := by
  have hlt := World.block_lt_of_cell? w _ hB
  have hB' : ∀ o, (w.alloc o).cell? ⟨B, 0, none⟩ = some (.string name) := fun o => by rw [World.cell?_alloc_lt _ _ _ hlt]; exact hB
  go_enter Tryd.func38, Tryd.ntmps38
  go_wp2
  go_ret
  refine ⟨ret_bool ?_, below_box _ _⟩
  rw [Bool.eq_iff_iff]
  simp [ByteArray.toList_eq, ByteArray.ext_iff]

set_option maxHeartbeats 1000000 in
theorem IndexFunc_rule (l : List Rule) (v : Value) (name : ByteArray) (B : Nat) (w : World) (hv : RulesAt w v l) (hB : w.cell? ⟨B, 0, none⟩ = some (.string name)) :
    Calls Tryd.prog 37 #[v, .func (.func 38) #[] #[.pointer (some ⟨B, 0, none⟩)]] w fun e w' => e = .returned (.int .i64 (idxZ (fun r => decide (r.name = name)) l)) ∧ Below w.heap.size w w' := by
  obtain ⟨a, c, rfl, hc1, hc2, hcells⟩ := hv
  go_enter Tryd.func37, Tryd.ntmps37
  go_wp2
  go_loopg [5, 8] l.length (fun g s5 s8 wr => ∃ i : Nat, g = l.length - i ∧ i ≤ l.length ∧ s8 = .int .i64 i ∧ Aside (∀ j, j < i → decide ((l.getD j default).name = name) = false) ∧ Below w.heap.size w wr)
  case atStart => exact ⟨0, by omega, by omega, rfl, fun j hj => by omega, Below.refl _ _⟩
  case round =>
    obtain ⟨i, rfl, hi, rfl, A, hb⟩ := hrel
    by_cases hil : i < l.length
    · obtain ⟨b, o, rfl, hN⟩ := hcells i hil
      have hN1 := RuleAt.below hb hN
      generalize hx : l.getD i default = x at *
      have Hx := Lib.hid hx
      obtain ⟨n0, n1⟩ := hN1
      clear hx hN
      have hB1 := cell_below hb hB
      go_wp2_with (go_at_call 38; refine (nameIs_calls x name B _ hB1).mono ?_; rintro e w1 ⟨rfl, hb1⟩)
      · go_ret
        refine ⟨ret_int ?_, below_chain hb hb1⟩
        have hp : x.name = name := by assumption
        rw [idxZ_some hil A.out (by rw [Hx.out]; simpa using hp)]
      · go_roundg (l.length - (i + 1))
        case measure => go_light; omega
        case rel =>
          have hp : ¬ x.name = name := by assumption
          go_light
          refine ⟨i + 1, rfl, by omega, by go_num, fun j hj => ?_, below_chain hb hb1⟩
          by_cases e : j = i
          · subst e; rw [Hx.out]; simpa using hp
          · exact A.out j (by omega)
    · go_wp2
      go_ret
      exact ⟨ret_int (idxZ_none fun j hj => A.out j (by omega)).symm, hb⟩

/-- gram.Rule. -/
theorem Rule_calls (l : List Rule) (v nv : Value) (name : ByteArray) (w : World) (hv : RulesAt w v l) :
    Calls Tryd.prog 28 #[.agg #[v, nv], .string name] w fun e w' => e = .returned (.int .i64 (idxZ (fun r => decide (r.name = name)) l)) ∧ Below w.heap.size w w' := by
  have hmf : ∀ (fn : Fn) (first cap : Array Value) (w : World), (Instr.makeFunc fn first cap).run Tryd.prog w = .ok (.func fn first cap) w := fun _ _ _ _ => rfl
  have hv2 : ∀ o o', RulesAt ((w.alloc o).alloc o') v l := fun o o' => RulesAt.below (below_box2 w o o') hv
  obtain ⟨a, c, rfl, hc1, hc2, hcells⟩ := hv
  go_enter Tryd.func28, Tryd.ntmps28
  go_wp2_with (go_at_call 37; refine (IndexFunc_rule l _ name _ _ (hv2 _ _) (by simp)).mono ?_; rintro e w1 ⟨rfl, hb1⟩)
  go_ret
  exact ⟨rfl, below_chain (below_box2 _ _ _) hb1⟩

/-! ### nodes -/
theorem wrong_calls (x : Node) (ka : Option Addr) (kc : Nat) (ra : Option Addr) (rn rc : Nat) (hn : x.kids.length ≤ 140737488355328) (hx : x.text.size ≤ 140737488355328) (B : Nat) (w : World) (hB : w.cell? ⟨B, 0, none⟩ = some (.slice ra rn rc)) :
    Calls Tryd.prog 24 #[nodeV x (.slice ka x.kids.length kc), .pointer (some ⟨B, 0, none⟩)] w fun e w' => e = .returned (.bool (!nodeB x rn)) ∧ Below w.heap.size w w' := by
  have hlt := World.block_lt_of_cell? w _ hB
  have hB' : ∀ o, (w.alloc o).cell? ⟨B, 0, none⟩ = some (.slice ra rn rc) := fun o => by rw [World.cell?_alloc_lt _ _ _ hlt]; exact hB
  have hnot : ∀ (x : Bool) (w : World), (Op.unary .not (.bool x)).run Tryd.prog w = .ok (.bool (!x)) w := fun _ _ => rfl
  go_enter Tryd.func24, Tryd.ntmps24
  go_wp2_with (go_at_call 25; refine (Node_calls x _ _ hn hx _ _).mono ?_; rintro e w1 ⟨rfl, hb1⟩)
  go_ret
  exact ⟨rfl, below_chain (below_box _ _) hb1⟩

set_option maxHeartbeats 2000000 in
theorem IndexFunc_node (l : List Node) (v : Value) (ra : Option Addr) (rn rc : Nat) (B : Nat) (w : World) (hv : NodesAt w v l) (hl : ∀ x ∈ l, x.text.size ≤ 140737488355328) (hB : w.cell? ⟨B, 0, none⟩ = some (.slice ra rn rc)) :
    Calls Tryd.prog 32 #[v, .func (.func 24) #[] #[.pointer (some ⟨B, 0, none⟩)]] w fun e w' => e = .returned (.int .i64 (idxZ (fun x => !nodeB x rn) l)) ∧ Below w.heap.size w w' := by
  obtain ⟨a, c, rfl, hc1, hc2, hcells⟩ := hv
  go_enter Tryd.func32, Tryd.ntmps32
  go_wp2
  go_loopg [5, 8] l.length (fun g s5 s8 wr => ∃ i : Nat, g = l.length - i ∧ i ≤ l.length ∧ s8 = .int .i64 i ∧ Aside (∀ j, j < i → (!nodeB (l.getD j default) rn) = false) ∧ Below w.heap.size w wr)
  case atStart => exact ⟨0, by omega, by omega, rfl, fun j hj => by omega, Below.refl _ _⟩
  case round =>
    obtain ⟨i, rfl, hi, rfl, A, hb⟩ := hrel
    by_cases hil : i < l.length
    · obtain ⟨b, o, rfl, hN⟩ := hcells i hil
      have hN1 := NodeAt.below hb hN
      have hmem : l.getD i default ∈ l := by simp [List.getD, hil]
      have htx := hl _ hmem
      generalize hx : l.getD i default = x at *
      have Hx := Lib.hid hx
      obtain ⟨n0, n1, n2, n3, n4, n5, n6, n7, kv, n8, hk⟩ := hN1
      obtain ⟨ka, kc, rfl, hk1, hk2, _⟩ := hk
      clear hx hN hmem
      have hB1 := cell_below hb hB
      have hkl : x.kids.length ≤ 140737488355328 := by omega
      go_wp2_with (go_at_call 24; refine (wrong_calls x ka kc ra rn rc hkl htx B _ hB1).mono ?_; rintro e w1 ⟨rfl, hb1⟩)
      · go_ret
        refine ⟨ret_int ?_, below_chain hb hb1⟩
        have hp : (!nodeB x rn) = true := by assumption
        rw [idxZ_some hil A.out (by rw [Hx.out]; exact hp)]
      · go_roundg (l.length - (i + 1))
        case measure => go_light; omega
        case rel =>
          have hp : (!nodeB x rn) = false := by assumption
          go_light
          refine ⟨i + 1, rfl, by omega, by go_num, fun j hj => ?_, below_chain hb hb1⟩
          by_cases e : j = i
          · subst e; rw [Hx.out]; exact hp
          · exact A.out j (by omega)
    · go_wp2
      go_ret
      exact ⟨ret_int (idxZ_none fun j hj => A.out j (by omega)).symm, hb⟩

theorem ContainsFunc_node (l : List Node) (v : Value) (ra : Option Addr) (rn rc : Nat) (B : Nat) (w : World) (hv : NodesAt w v l) (hl : ∀ x ∈ l, x.text.size ≤ 140737488355328) (hB : w.cell? ⟨B, 0, none⟩ = some (.slice ra rn rc)) :
    Calls Tryd.prog 23 #[v, .func (.func 24) #[] #[.pointer (some ⟨B, 0, none⟩)]] w fun e w' => e = .returned (.bool (l.any fun x => !nodeB x rn)) ∧ Below w.heap.size w w' := by
  go_enter Tryd.func23, Tryd.ntmps23
  go_wp2_with (go_at_call 32; refine (IndexFunc_node l v ra rn rc B _ hv hl hB).mono ?_; rintro e w1 ⟨rfl, hb1⟩)
  go_ret
  exact ⟨ret_bool (by rw [← idxZ_neg]), hb1⟩
end Go.Proofs.YtljoajjbhjdonaaDoor
