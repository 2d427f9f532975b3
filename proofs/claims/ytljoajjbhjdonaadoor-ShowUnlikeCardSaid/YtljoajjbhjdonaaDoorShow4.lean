/- Package show: open, Node, Rule, Text. -/
import Derived.Test.YtljoajjbhjdonaaDoorShow3
namespace Go.Proofs.YtljoajjbhjdonaaDoor
open Go.RowKit Go.Shelf
set_option maxRecDepth 100000
attribute [local go_sem ↓] Go.wp_at_zero Go.wp_at_succ

set_option maxHeartbeats 2000000 in
theorem open_wrong (rs : List Rule) (ns : List Node) (rv nv : Value) (t : Bool) (w : World) (hr : RulesAt w rv rs) (hn : NodesAt w nv ns) (hf : Fine rs ns) (hR : rightB rs ns = false) :
    Calls Tryd.prog 11 #[.agg #[rv, nv], .bool t] w fun e w' => e = .returned (.tuple #[.pointer none, .int .i64 4]) ∧ Below w.heap.size w w' := by
  have hC := fun o => Right_calls rs ns rv nv (w.alloc o) (RulesAt.below (below_box w o) hr) (NodesAt.below (below_box w o) hn) hf
  obtain ⟨ra, rc, rfl, _⟩ := id hr
  obtain ⟨na, nc, rfl, _⟩ := id hn
  rw [hR] at hC
  clear hr hn hR hf
  go_enter Tryd.func11, Tryd.ntmps11
  go_wp2_with (go_at_call 9; refine (hC _).mono ?_; rintro e w1 ⟨rfl, hb1⟩)
  go_ret2
  exact ⟨rfl, below_chain (below_box _ _) hb1⟩
set_option maxHeartbeats 2000000 in
theorem open_range (rs : List Rule) (ns : List Node) (rv nv : Value) (w : World) (hr : RulesAt w rv rs) (hn : NodesAt w nv ns) (hf : Fine rs ns) (hR : rightB rs ns = true) :
    Calls Tryd.prog 11 #[.agg #[rv, nv], .bool false] w fun e w' => e = .returned (.tuple #[.pointer none, .int .i64 6]) ∧ Below w.heap.size w w' := by
  have hC := fun o => Right_calls rs ns rv nv (w.alloc o) (RulesAt.below (below_box w o) hr) (NodesAt.below (below_box w o) hn) hf
  obtain ⟨ra, rc, rfl, _⟩ := id hr
  obtain ⟨na, nc, rfl, _⟩ := id hn
  rw [hR] at hC
  clear hr hn hR hf
  go_enter Tryd.func11, Tryd.ntmps11
  go_wp2_with (go_at_call 9; refine (hC _).mono ?_; rintro e w1 ⟨rfl, hb1⟩)
  go_ret2
  exact ⟨rfl, below_chain (below_box _ _) hb1⟩
set_option maxHeartbeats 2000000 in
theorem open_right (rs : List Rule) (ns : List Node) (rv nv : Value) (w : World) (hr : RulesAt w rv rs) (hn : NodesAt w nv ns) (hf : Fine rs ns) (hR : rightB rs ns = true) (n0 : Nat) (hn0 : n0 ≤ w.heap.size) :
    Calls Tryd.prog 11 #[.agg #[rv, nv], .bool true] w fun e w' => ∃ b, e = .returned (.tuple #[.pointer (some ⟨b, 0, none⟩), .int .i64 0]) ∧ Bld 54 [rv, nv] n0 b [] w' ∧ Below w.heap.size w w' := by
  have hC := fun o => Right_calls rs ns rv nv (w.alloc o) (RulesAt.below (below_box w o) hr) (NodesAt.below (below_box w o) hn) hf
  obtain ⟨ra, rc, rfl, _⟩ := id hr
  obtain ⟨na, nc, rfl, _⟩ := id hn
  rw [hR] at hC
  clear hr hn hR hf
  obtain ⟨o, ho⟩ : ∃ o, Obj.cells #[.slice ra rs.length rc, .slice na ns.length nc] 25 = o := ⟨_, rfl⟩
  have hwo := (MapKept.heap_alloc w o).1.trans (congrArg some ho.symm)
  have c1 : (w.alloc o).cell? ⟨w.heap.size, 0, none⟩ = some (.slice ra rs.length rc) := cell_blk hwo rfl
  have c2 : (w.alloc o).cell? ⟨w.heap.size, 1, none⟩ = some (.slice na ns.length nc) := cell_blk hwo rfl
  go_enter Tryd.func11, Tryd.ntmps11
  go_wp2_with (go_at_call 9; refine (hC _).mono ?_; rintro e w1 ⟨rfl, hb1⟩; have k1 := cell_below hb1 c1; have k2 := cell_below hb1 c2)
  go_ret2
  refine ⟨_, rfl, Bld.fresh _ _ w1 n0 ?_, (below_chain (below_box _ _) hb1).alloc ?_ _⟩
  · have := hb1.size; simp at this; omega
  · have := hb1.size; simp at this; omega
end Go.Proofs.YtljoajjbhjdonaaDoor
