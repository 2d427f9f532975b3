/- Package gram: the table of what Kinds want, and Node: whether a node is right, as a plain Bool function. No condition. -/
import Derived.Test.YtljoajjbhjdonaaDoorGram1
import Derived.Deep.RegionWith
namespace Go.Proofs.YtljoajjbhjdonaaDoor
open Go.RowKit
set_option maxRecDepth 100000

def wantsEntries : List MapEntry := [⟨.int .i64 1, .func (.func 49) #[] #[], 0⟩, ⟨.int .i64 2, .func (.func 49) #[] #[], 1⟩, ⟨.int .i64 3, .func (.func 50) #[] #[], 2⟩, ⟨.int .i64 4, .func (.func 51) #[] #[], 3⟩,
  ⟨.int .i64 5, .func (.func 52) #[] #[], 4⟩, ⟨.int .i64 6, .func (.func 53) #[] #[], 5⟩, ⟨.int .i64 7, .func (.func 53) #[] #[], 6⟩, ⟨.int .i64 8, .func (.func 54) #[] #[], 7⟩, ⟨.int .i64 9, .func (.func 54) #[] #[], 8⟩,
  ⟨.int .i64 10, .func (.func 54) #[] #[], 9⟩, ⟨.int .i64 11, .func (.func 54) #[] #[], 10⟩, ⟨.int .i64 12, .func (.func 54) #[] #[], 11⟩]
def wantsObj : Obj := .map wantsEntries.toArray 12
theorem wants_calls (w : World) :
    Calls Tryd.prog 33 #[] w fun e w' => e = .returned (.map (some w.heap.size)) ∧ w' = w.alloc wantsObj := by
  have hmm := @run_makeMap Tryd.prog
  have hins := run_insert_k (P := Tryd.prog) Tryd.underlying84 Tryd.underlying37 w
  go_enter Tryd.func33, Tryd.ntmps33
  go_wp2
  go_ret
  exact ⟨rfl, rfl⟩
def wantOf (k : Int) : Value :=
  if k = 1 ∨ k = 2 then .func (.func 49) #[] #[] else if k = 3 then .func (.func 50) #[] #[] else if k = 4 then .func (.func 51) #[] #[]
  else if k = 5 then .func (.func 52) #[] #[] else if k = 6 ∨ k = 7 then .func (.func 53) #[] #[] else if 8 ≤ k ∧ k ≤ 12 then .func (.func 54) #[] #[] else .nilFunc
theorem wants_look (W : World) (B : Nat) (hb : W.heap[B]? = some wantsObj) (k : Int) : (Instr.lookup 84 (.map (some B)) (.int .i64 k) false).run Tryd.prog W = .ok (wantOf k) W := by
  by_cases h : 1 ≤ k ∧ k ≤ 12
  · have : k = 1 ∨ k = 2 ∨ k = 3 ∨ k = 4 ∨ k = 5 ∨ k = 6 ∨ k = 7 ∨ k = 8 ∨ k = 9 ∨ k = 10 ∨ k = 11 ∨ k = 12 := by omega
    rcases this with rfl | rfl | rfl | rfl | rfl | rfl | rfl | rfl | rfl | rfl | rfl | rfl <;>
      exact run_lookup_k (P := Tryd.prog) Tryd.underlying84 Tryd.underlying37 _ _ _ _ _ _ _ hb (by rfl)
  · refine run_lookup_k_none (P := Tryd.prog) Tryd.underlying84 Tryd.underlying37 _ _ _ _ _ _ ?_ hb (freshK_findNow ?_ 0)
    · have e : wantOf k = .nilFunc := by unfold wantOf; repeat (rw [if_neg (by omega)])
      rw [e]
      exact Tryd.zeroValue83 _
    · simp [wantsEntries, freshK]; omega

/-- Whether a node is right, of so many rules. -/
def nodeB (x : Node) (rs : Int) : Bool :=
  if x.kind = 1 ∨ x.kind = 2 then plainB x && decide (x.kids.length = 0)
  else if x.kind = 3 then decide (¬ (x.c0 = 0 ∧ x.c1 = 0 ∧ x.c2 = 0 ∧ x.c3 = 0)) && (plainB { x with c0 := 0, c1 := 0, c2 := 0, c3 := 0 } && decide (x.kids.length = 0))
  else if x.kind = 4 then (decide (0 < x.text.size) && decide (x.text.size ≤ 64)) && (plainB { x with text := ⟨#[]⟩ } && decide (x.kids.length = 0))
  else if x.kind = 5 then decide (0 ≤ x.rule ∧ x.rule < rs ∧ 0 ≤ x.level ∧ x.level ≤ 99) && (plainB { x with rule := 0, level := 0 } && decide (x.kids.length = 0))
  else if x.kind = 6 ∨ x.kind = 7 then plainB x && (decide (2 ≤ x.kids.length) && decide (x.kids.length ≤ 64))
  else if 8 ≤ x.kind ∧ x.kind ≤ 12 then plainB x && decide (x.kids.length = 1)
  else false

theorem Node_bare (x : Node) (a : Option Addr) (c : Nat) (_hn : x.kids.length ≤ 140737488355328) (_hx : x.text.size ≤ 140737488355328) (rs : Int) (hk : x.kind = 1 ∨ x.kind = 2) (w : World) :
    Calls Tryd.prog 25 #[nodeV x (.slice a x.kids.length c), .int .i64 rs] w fun e w' => e = .returned (.bool (nodeB x rs)) ∧ Below w.heap.size w w' := by
  have hlk := wants_look ((w.alloc (.cells (nodeV x (.slice a x.kids.length c)).cells 43)).alloc wantsObj).drew (w.heap.size + 1) (heap_two _ _ _) x.kind
  have hw : wantOf x.kind = .func (.func 49) #[] #[] := by
    unfold wantOf
    repeat (first | rw [if_pos (by omega)] | rw [if_neg (by omega)])
  have HK := Lib.hid hk
  have hnn := @run_neq_func_nil Tryd.prog _ _ _ _ Tryd.underlying83
  rw [hw] at hlk
  simp [Value.cells] at hlk
  clear hw hk
  go_enter Tryd.func25, Tryd.ntmps25
  go_wp2
  go_region_with (go_at_call 33; refine (wants_calls _).mono ?_; rintro e w1 ⟨rfl, rfl⟩)
  all_goals
    go_wp2_with (go_at_call 49; refine (bare_calls x _ _ _ _ _).mono ?_; rintro e w1 ⟨rfl, hb1⟩)
    go_ret
    have hk := HK.out
    refine ⟨ret_bool ?_, below_chain (below_box2 _ _ _).drew hb1⟩
    unfold nodeB
    repeat (first | rw [if_pos (by omega)] | rw [if_neg (by omega)])
    try (clear hlk hnn hb1 hk; simp)
theorem Node_set (x : Node) (a : Option Addr) (c : Nat) (_hn : x.kids.length ≤ 140737488355328) (_hx : x.text.size ≤ 140737488355328) (rs : Int) (hk : x.kind = 3) (w : World) :
    Calls Tryd.prog 25 #[nodeV x (.slice a x.kids.length c), .int .i64 rs] w fun e w' => e = .returned (.bool (nodeB x rs)) ∧ Below w.heap.size w w' := by
  have hlk := wants_look ((w.alloc (.cells (nodeV x (.slice a x.kids.length c)).cells 43)).alloc wantsObj).drew (w.heap.size + 1) (heap_two _ _ _) x.kind
  have hw : wantOf x.kind = .func (.func 50) #[] #[] := by
    unfold wantOf
    repeat (first | rw [if_pos (by omega)] | rw [if_neg (by omega)])
  have HK := Lib.hid hk
  have hnn := @run_neq_func_nil Tryd.prog _ _ _ _ Tryd.underlying83
  rw [hw] at hlk
  simp [Value.cells] at hlk
  clear hw hk
  go_enter Tryd.func25, Tryd.ntmps25
  go_wp2
  go_region_with (go_at_call 33; refine (wants_calls _).mono ?_; rintro e w1 ⟨rfl, rfl⟩)
  all_goals
    go_wp2_with (go_at_call 50; refine (set_calls x _ _ _ _ _).mono ?_; rintro e w1 ⟨rfl, hb1⟩)
    go_ret
    have hk := HK.out
    refine ⟨ret_bool ?_, below_chain (below_box2 _ _ _).drew hb1⟩
    unfold nodeB
    repeat (first | rw [if_pos (by omega)] | rw [if_neg (by omega)])
    try (clear hlk hnn hb1 hk; simp)
theorem Node_text (x : Node) (a : Option Addr) (c : Nat) (_hn : x.kids.length ≤ 140737488355328) (hx : x.text.size ≤ 140737488355328) (rs : Int) (hk : x.kind = 4) (w : World) :
    Calls Tryd.prog 25 #[nodeV x (.slice a x.kids.length c), .int .i64 rs] w fun e w' => e = .returned (.bool (nodeB x rs)) ∧ Below w.heap.size w w' := by
  have hlk := wants_look ((w.alloc (.cells (nodeV x (.slice a x.kids.length c)).cells 43)).alloc wantsObj).drew (w.heap.size + 1) (heap_two _ _ _) x.kind
  have hw : wantOf x.kind = .func (.func 51) #[] #[] := by
    unfold wantOf
    repeat (first | rw [if_pos (by omega)] | rw [if_neg (by omega)])
  have HK := Lib.hid hk
  have hnn := @run_neq_func_nil Tryd.prog _ _ _ _ Tryd.underlying83
  rw [hw] at hlk
  simp [Value.cells] at hlk
  clear hw hk
  go_enter Tryd.func25, Tryd.ntmps25
  go_wp2
  go_region_with (go_at_call 33; refine (wants_calls _).mono ?_; rintro e w1 ⟨rfl, rfl⟩)
  all_goals
    go_wp2_with (go_at_call 51; refine (text_calls x _ _ _ _ hx _).mono ?_; rintro e w1 ⟨rfl, hb1⟩)
    go_ret
    have hk := HK.out
    refine ⟨ret_bool ?_, below_chain (below_box2 _ _ _).drew hb1⟩
    unfold nodeB
    repeat (first | rw [if_pos (by omega)] | rw [if_neg (by omega)])
    try (clear hlk hnn hb1 hk; simp)
theorem Node_call (x : Node) (a : Option Addr) (c : Nat) (_hn : x.kids.length ≤ 140737488355328) (_hx : x.text.size ≤ 140737488355328) (rs : Int) (hk : x.kind = 5) (w : World) :
    Calls Tryd.prog 25 #[nodeV x (.slice a x.kids.length c), .int .i64 rs] w fun e w' => e = .returned (.bool (nodeB x rs)) ∧ Below w.heap.size w w' := by
  have hlk := wants_look ((w.alloc (.cells (nodeV x (.slice a x.kids.length c)).cells 43)).alloc wantsObj).drew (w.heap.size + 1) (heap_two _ _ _) x.kind
  have hw : wantOf x.kind = .func (.func 52) #[] #[] := by
    unfold wantOf
    repeat (first | rw [if_pos (by omega)] | rw [if_neg (by omega)])
  have HK := Lib.hid hk
  have hnn := @run_neq_func_nil Tryd.prog _ _ _ _ Tryd.underlying83
  rw [hw] at hlk
  simp [Value.cells] at hlk
  clear hw hk
  go_enter Tryd.func25, Tryd.ntmps25
  go_wp2
  go_region_with (go_at_call 33; refine (wants_calls _).mono ?_; rintro e w1 ⟨rfl, rfl⟩)
  all_goals
    go_wp2_with (go_at_call 52; refine (call_calls x _ _ _ _ _).mono ?_; rintro e w1 ⟨rfl, hb1⟩)
    go_ret
    have hk := HK.out
    refine ⟨ret_bool ?_, below_chain (below_box2 _ _ _).drew hb1⟩
    unfold nodeB
    repeat (first | rw [if_pos (by omega)] | rw [if_neg (by omega)])
    try (clear hlk hnn hb1 hk; simp)
theorem Node_many (x : Node) (a : Option Addr) (c : Nat) (hn : x.kids.length ≤ 140737488355328) (_hx : x.text.size ≤ 140737488355328) (rs : Int) (hk : x.kind = 6 ∨ x.kind = 7) (w : World) :
    Calls Tryd.prog 25 #[nodeV x (.slice a x.kids.length c), .int .i64 rs] w fun e w' => e = .returned (.bool (nodeB x rs)) ∧ Below w.heap.size w w' := by
  have hlk := wants_look ((w.alloc (.cells (nodeV x (.slice a x.kids.length c)).cells 43)).alloc wantsObj).drew (w.heap.size + 1) (heap_two _ _ _) x.kind
  have hw : wantOf x.kind = .func (.func 53) #[] #[] := by
    unfold wantOf
    repeat (first | rw [if_pos (by omega)] | rw [if_neg (by omega)])
  have HK := Lib.hid hk
  have hnn := @run_neq_func_nil Tryd.prog _ _ _ _ Tryd.underlying83
  rw [hw] at hlk
  simp [Value.cells] at hlk
  clear hw hk
  go_enter Tryd.func25, Tryd.ntmps25
  go_wp2
  go_region_with (go_at_call 33; refine (wants_calls _).mono ?_; rintro e w1 ⟨rfl, rfl⟩)
  all_goals
    go_wp2_with (go_at_call 53; refine (many_calls x _ _ _ hn _ _).mono ?_; rintro e w1 ⟨rfl, hb1⟩)
    go_ret
    have hk := HK.out
    refine ⟨ret_bool ?_, below_chain (below_box2 _ _ _).drew hb1⟩
    unfold nodeB
    repeat (first | rw [if_pos (by omega)] | rw [if_neg (by omega)])
    try (clear hlk hnn hb1 hk; simp)
theorem Node_one (x : Node) (a : Option Addr) (c : Nat) (_hn : x.kids.length ≤ 140737488355328) (_hx : x.text.size ≤ 140737488355328) (rs : Int) (hk : 8 ≤ x.kind ∧ x.kind ≤ 12) (w : World) :
    Calls Tryd.prog 25 #[nodeV x (.slice a x.kids.length c), .int .i64 rs] w fun e w' => e = .returned (.bool (nodeB x rs)) ∧ Below w.heap.size w w' := by
  have hlk := wants_look ((w.alloc (.cells (nodeV x (.slice a x.kids.length c)).cells 43)).alloc wantsObj).drew (w.heap.size + 1) (heap_two _ _ _) x.kind
  have hw : wantOf x.kind = .func (.func 54) #[] #[] := by
    unfold wantOf
    repeat (first | rw [if_pos (by omega)] | rw [if_neg (by omega)])
  have HK := Lib.hid hk
  have hnn := @run_neq_func_nil Tryd.prog _ _ _ _ Tryd.underlying83
  rw [hw] at hlk
  simp [Value.cells] at hlk
  clear hw hk
  go_enter Tryd.func25, Tryd.ntmps25
  go_wp2
  go_region_with (go_at_call 33; refine (wants_calls _).mono ?_; rintro e w1 ⟨rfl, rfl⟩)
  all_goals
    go_wp2_with (go_at_call 54; refine (one_calls x _ _ _ _ _).mono ?_; rintro e w1 ⟨rfl, hb1⟩)
    go_ret
    have hk := HK.out
    refine ⟨ret_bool ?_, below_chain (below_box2 _ _ _).drew hb1⟩
    unfold nodeB
    repeat (first | rw [if_pos (by omega)] | rw [if_neg (by omega)])
    try (clear hlk hnn hb1 hk; simp)
theorem Node_none (x : Node) (a : Option Addr) (c : Nat) (rs : Int) (hk : ¬ (1 ≤ x.kind ∧ x.kind ≤ 12)) (w : World) :
    Calls Tryd.prog 25 #[nodeV x (.slice a x.kids.length c), .int .i64 rs] w fun e w' => e = .returned (.bool (nodeB x rs)) ∧ Below w.heap.size w w' := by
  have hlk := wants_look ((w.alloc (.cells (nodeV x (.slice a x.kids.length c)).cells 43)).alloc wantsObj).drew (w.heap.size + 1) (heap_two _ _ _) x.kind
  have hw : wantOf x.kind = .nilFunc := by
    unfold wantOf
    repeat (rw [if_neg (by omega)])
  have HK := Lib.hid hk
  have hnn := @run_neq_nil_nil Tryd.prog _ _ _ _ Tryd.underlying83
  rw [hw] at hlk
  simp [Value.cells] at hlk
  clear hw hk
  go_enter Tryd.func25, Tryd.ntmps25
  go_wp2
  go_region_with (go_at_call 33; refine (wants_calls _).mono ?_; rintro e w1 ⟨rfl, rfl⟩)
  all_goals
    go_wp2
    go_ret
    have hk := HK.out
    refine ⟨ret_bool ?_, (below_box2 _ _ _).drew⟩
    unfold nodeB
    repeat (rw [if_neg (by omega)])
/-- gram.Node: at every node. -/
theorem Node_calls (x : Node) (a : Option Addr) (c : Nat) (hn : x.kids.length ≤ 140737488355328) (hx : x.text.size ≤ 140737488355328) (rs : Int) (w : World) :
    Calls Tryd.prog 25 #[nodeV x (.slice a x.kids.length c), .int .i64 rs] w fun e w' => e = .returned (.bool (nodeB x rs)) ∧ Below w.heap.size w w' := by
  by_cases h1 : x.kind = 1 ∨ x.kind = 2
  · exact Node_bare x a c hn hx rs h1 w
  by_cases h2 : x.kind = 3
  · exact Node_set x a c hn hx rs h2 w
  by_cases h3 : x.kind = 4
  · exact Node_text x a c hn hx rs h3 w
  by_cases h4 : x.kind = 5
  · exact Node_call x a c hn hx rs h4 w
  by_cases h5 : x.kind = 6 ∨ x.kind = 7
  · exact Node_many x a c hn hx rs h5 w
  by_cases h6 : 8 ≤ x.kind ∧ x.kind ≤ 12
  · exact Node_one x a c hn hx rs h6 w
  · exact Node_none x a c rs (by omega) w
end Go.Proofs.YtljoajjbhjdonaaDoor
