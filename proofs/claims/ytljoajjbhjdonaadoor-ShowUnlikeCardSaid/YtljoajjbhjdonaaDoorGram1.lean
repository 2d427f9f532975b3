/- Package gram: what a node must have (the methods of shape, wants, Node), each as a plain Bool function of the node. No condition. -/
import Derived.Test.YtljoajjbhjdonaaDoorBase
namespace Go.Proofs.YtljoajjbhjdonaaDoor
open Go.RowKit
set_option maxRecDepth 100000

def plainB (x : Node) : Bool := decide (x.c0 = 0 ∧ x.c1 = 0 ∧ x.c2 = 0 ∧ x.c3 = 0 ∧ x.text.size = 0 ∧ x.rule = 0 ∧ x.level = 0)
theorem toList_nil {s : ByteArray} : s.toList = [] ↔ s.size = 0 := by
  rw [ByteArray.toList_eq, ← ByteArray.size_data]
  simp only [Array.toList_eq_nil_iff, Array.size_eq_zero_iff]
abbrev nodeV (x : Node) (kv : Value) : Value := .agg #[.int .i64 x.kind, .int .u64 x.c0, .int .u64 x.c1, .int .u64 x.c2, .int .u64 x.c3, .string x.text, .int .i64 x.rule, .int .i64 x.level, kv]
abbrev shapeV (x : Node) (kv : Value) (rs : Int) : Value := .agg #[.int .i64 x.kind, .int .u64 x.c0, .int .u64 x.c1, .int .u64 x.c2, .int .u64 x.c3, .string x.text, .int .i64 x.rule, .int .i64 x.level, kv, .int .i64 rs]

theorem plain_calls (x : Node) (kv : Value) (rs : Int) (w : World) :
    Calls Tryd.prog 62 #[shapeV x kv rs] w fun e w' => e = .returned (.bool (plainB x)) ∧ Below w.heap.size w w' := by
  have hce := cls_eq x.c0 x.c1 x.c2 x.c3 0 0 0 0
  go_enter Tryd.func62, Tryd.ntmps62
  go_wp2
  all_goals
    go_ret
    refine ⟨ret_bool ?_, below_box _ _⟩
    clear hce
    rw [Bool.eq_iff_iff]
    simp_all [plainB, toList_nil]

theorem bare_calls (x : Node) (a : Option Addr) (n c : Nat) (rs : Int) (w : World) :
    Calls Tryd.prog 49 #[shapeV x (.slice a n c) rs] w fun e w' => e = .returned (.bool (plainB x && decide (n = 0))) ∧ Below w.heap.size w w' := by
  go_enter Tryd.func49, Tryd.ntmps49
  go_wp2_with (go_at_call 62; refine (plain_calls x _ _ _).mono ?_; rintro e w1 ⟨rfl, hb1⟩; obtain ⟨hc1, hf1⟩ := bcell hb1)
  all_goals
    go_ret
    refine ⟨ret_bool ?_, below_chain (below_box _ _) hb1⟩
    clear hb1 hc1 hf1
    rw [Bool.eq_iff_iff]
    simp_all <;> omega

theorem set_calls (x : Node) (a : Option Addr) (n c : Nat) (rs : Int) (w : World) :
    Calls Tryd.prog 50 #[shapeV x (.slice a n c) rs] w fun e w' => e = .returned (.bool (decide (¬ (x.c0 = 0 ∧ x.c1 = 0 ∧ x.c2 = 0 ∧ x.c3 = 0)) && (plainB { x with c0 := 0, c1 := 0, c2 := 0, c3 := 0 } && decide (n = 0)))) ∧ Below w.heap.size w w' := by
  have hce := cls_eq x.c0 x.c1 x.c2 x.c3 0 0 0 0
  go_enter Tryd.func50, Tryd.ntmps50
  go_wp2_with (go_at_call 49; refine (bare_calls { x with c0 := 0, c1 := 0, c2 := 0, c3 := 0 } _ _ _ _ _).mono ?_; rintro e w1 ⟨rfl, hb1⟩)
  all_goals
    go_ret
    refine ⟨ret_bool ?_, (by first | exact below_chain (below_box2 _ _ _) hb1 | exact below_box2 _ _ _ | exact below_chain (below_box _ _) hb1 | exact below_box _ _)⟩
    try clear hb1
    try clear hce
    rw [Bool.eq_iff_iff]
    simp_all <;> omega

theorem one_calls (x : Node) (a : Option Addr) (n c : Nat) (rs : Int) (w : World) :
    Calls Tryd.prog 54 #[shapeV x (.slice a n c) rs] w fun e w' => e = .returned (.bool (plainB x && decide (n = 1))) ∧ Below w.heap.size w w' := by
  go_enter Tryd.func54, Tryd.ntmps54
  go_wp2_with (go_at_call 62; refine (plain_calls x _ _ _).mono ?_; rintro e w1 ⟨rfl, hb1⟩; obtain ⟨hc1, hf1⟩ := bcell hb1)
  all_goals
    go_ret
    refine ⟨ret_bool ?_, below_chain (below_box _ _) hb1⟩
    clear hb1 hc1 hf1
    rw [Bool.eq_iff_iff]
    simp_all <;> omega

theorem many_calls (x : Node) (a : Option Addr) (n c : Nat) (hn : n ≤ 140737488355328) (rs : Int) (w : World) :
    Calls Tryd.prog 53 #[shapeV x (.slice a n c) rs] w fun e w' => e = .returned (.bool (plainB x && (decide (2 ≤ n) && decide (n ≤ 64)))) ∧ Below w.heap.size w w' := by
  go_enter Tryd.func53, Tryd.ntmps53
  go_wp2_with (go_at_call 62; refine (plain_calls x _ _ _).mono ?_; rintro e w1 ⟨rfl, hb1⟩; obtain ⟨hc1, hf1⟩ := bcell hb1)
  all_goals
    go_ret
    refine ⟨ret_bool ?_, below_chain (below_box _ _) hb1⟩
    clear hb1 hc1 hf1
    rw [Bool.eq_iff_iff]
    simp_all <;> omega

theorem text_calls (x : Node) (a : Option Addr) (n c : Nat) (rs : Int) (hx : x.text.size ≤ 140737488355328) (w : World) :
    Calls Tryd.prog 51 #[shapeV x (.slice a n c) rs] w fun e w' => e = .returned (.bool ((decide (0 < x.text.size) && decide (x.text.size ≤ 64)) && (plainB { x with text := ⟨#[]⟩ } && decide (n = 0)))) ∧ Below w.heap.size w w' := by
  go_enter Tryd.func51, Tryd.ntmps51
  go_wp2_with (go_at_call 49; refine (bare_calls { x with text := ⟨#[]⟩ } _ _ _ _ _).mono ?_; rintro e w1 ⟨rfl, hb1⟩)
  all_goals
    go_ret
    refine ⟨ret_bool ?_, (by first | exact below_chain (below_box2 _ _ _) hb1 | exact below_box2 _ _ _ | exact below_chain (below_box _ _) hb1 | exact below_box _ _)⟩
    try clear hb1
    try clear hce
    rw [Bool.eq_iff_iff]
    simp_all <;> omega

theorem call_calls (x : Node) (a : Option Addr) (n c : Nat) (rs : Int) (w : World) :
    Calls Tryd.prog 52 #[shapeV x (.slice a n c) rs] w fun e w' => e = .returned (.bool (decide (0 ≤ x.rule ∧ x.rule < rs ∧ 0 ≤ x.level ∧ x.level ≤ 99) && (plainB { x with rule := 0, level := 0 } && decide (n = 0)))) ∧ Below w.heap.size w w' := by
  go_enter Tryd.func52, Tryd.ntmps52
  go_wp2_with (go_at_call 49; refine (bare_calls { x with rule := 0, level := 0 } _ _ _ _ _).mono ?_; rintro e w1 ⟨rfl, hb1⟩)
  all_goals
    go_ret
    refine ⟨ret_bool ?_, (by first | exact below_chain (below_box2 _ _ _) hb1 | exact below_box2 _ _ _ | exact below_chain (below_box _ _) hb1 | exact below_box _ _)⟩
    try clear hb1
    try clear hce
    rw [Bool.eq_iff_iff]
    simp_all <;> omega
end Go.Proofs.YtljoajjbhjdonaaDoor
