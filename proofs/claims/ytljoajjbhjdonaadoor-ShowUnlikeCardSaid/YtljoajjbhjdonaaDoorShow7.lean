/- Package show: Text and Rule where the grammar is not right or there is no such rule. -/
import Derived.Test.YtljoajjbhjdonaaDoorShow6
namespace Go.Proofs.YtljoajjbhjdonaaDoor
open Go.RowKit Go.Shelf
set_option maxRecDepth 100000

set_option maxHeartbeats 2000000 in
theorem Text_wrong (rs : List Rule) (ns : List Node) (rv nv : Value) (w : World) (hr : RulesAt w rv rs) (hn : NodesAt w nv ns) (hf : Fine rs ns) (hR : rightB rs ns = false) :
    Calls Tryd.prog 6 #[.agg #[rv, nv]] w fun e w' => e = .returned (.tuple #[.string ⟨#[]⟩, .int .i64 4]) ∧ Below w.heap.size w w' := by
  have hC := fun o => open_wrong rs ns rv nv true (w.alloc o) (RulesAt.below (below_box w o) hr) (NodesAt.below (below_box w o) hn) hf hR
  obtain ⟨ra, rc, rfl, _⟩ := id hr
  obtain ⟨na, nc, rfl, _⟩ := id hn
  clear hr hn hR hf
  go_enter Tryd.func6, Tryd.ntmps6
  go_wp2_with (go_at_call 11; refine (hC _).mono ?_; rintro e w1 ⟨rfl, hb1⟩)
  go_ret2
  exact ⟨rfl, below_chain (below_box _ _) hb1⟩
set_option maxHeartbeats 2000000 in
theorem Rule_wrong (rs : List Rule) (ns : List Node) (rv nv : Value) (i : Int) (w : World) (hr : RulesAt w rv rs) (hn : NodesAt w nv ns) (hf : Fine rs ns) (hR : rightB rs ns = false) :
    Calls Tryd.prog 8 #[.agg #[rv, nv], .int .i64 i] w fun e w' => e = .returned (.tuple #[.string ⟨#[]⟩, .int .i64 4]) ∧ Below w.heap.size w w' := by
  have hC := fun o t => open_wrong rs ns rv nv t (w.alloc o) (RulesAt.below (below_box w o) hr) (NodesAt.below (below_box w o) hn) hf hR
  obtain ⟨ra, rc, rfl, _⟩ := id hr
  obtain ⟨na, nc, rfl, _⟩ := id hn
  clear hr hn hR hf
  generalize rs.length = m at *
  by_cases h0 : 0 ≤ i
  · by_cases h1 : i < (m : Int)
    · go_enter Tryd.func8, Tryd.ntmps8
      go_wp2_with (go_at_call 11; refine (hC _ _).mono ?_; rintro e w1 ⟨rfl, hb1⟩)
      go_ret2
      exact ⟨rfl, below_chain (below_box _ _) hb1⟩
    · have h2 : decide (i < (m : Int)) = false := decide_eq_false h1
      go_enter Tryd.func8, Tryd.ntmps8
      go_wp2_with (go_at_call 11; refine (hC _ _).mono ?_; rintro e w1 ⟨rfl, hb1⟩)
      go_ret2
      exact ⟨rfl, below_chain (below_box _ _) hb1⟩
  · have h2 : decide (0 ≤ i) = false := decide_eq_false h0
    go_enter Tryd.func8, Tryd.ntmps8
    go_wp2_with (go_at_call 11; refine (hC _ _).mono ?_; rintro e w1 ⟨rfl, hb1⟩)
    go_ret2
    exact ⟨rfl, below_chain (below_box _ _) hb1⟩
set_option maxHeartbeats 2000000 in
theorem Rule_range (rs : List Rule) (ns : List Node) (rv nv : Value) (i : Int) (w : World) (hr : RulesAt w rv rs) (hn : NodesAt w nv ns) (hf : Fine rs ns) (hR : rightB rs ns = true) (hi : ¬ (0 ≤ i ∧ i < (rs.length : Int))) :
    Calls Tryd.prog 8 #[.agg #[rv, nv], .int .i64 i] w fun e w' => e = .returned (.tuple #[.string ⟨#[]⟩, .int .i64 6]) ∧ Below w.heap.size w w' := by
  have hC := fun o => open_range rs ns rv nv (w.alloc o) (RulesAt.below (below_box w o) hr) (NodesAt.below (below_box w o) hn) hf hR
  obtain ⟨ra, rc, rfl, _⟩ := id hr
  obtain ⟨na, nc, rfl, _⟩ := id hn
  clear hr hn hR hf
  generalize rs.length = m at *
  by_cases h0 : 0 ≤ i
  · have h1 : ¬ i < (m : Int) := fun h => hi ⟨h0, h⟩
    have h2 : decide (i < (m : Int)) = false := decide_eq_false h1
    clear hi
    go_enter Tryd.func8, Tryd.ntmps8
    go_wp2_with (go_at_call 11; refine (hC _).mono ?_; rintro e w1 ⟨rfl, hb1⟩)
    go_ret2
    exact ⟨rfl, below_chain (below_box _ _) hb1⟩
  · have h2 : decide (0 ≤ i) = false := decide_eq_false h0
    clear hi
    go_enter Tryd.func8, Tryd.ntmps8
    go_wp2_with (go_at_call 11; refine (hC _).mono ?_; rintro e w1 ⟨rfl, hb1⟩)
    go_ret2
    exact ⟨rfl, below_chain (below_box _ _) hb1⟩
end Go.Proofs.YtljoajjbhjdonaaDoor
