/- Package show, the writer: ways, and one step of node. -/
import Derived.Test.YtljoajjbhjdonaaDoorTree
import Derived.Test.YtljoajjbhjdonaaDoorDefer
import Derived.Shelf.Abstract
namespace Go.Proofs.YtljoajjbhjdonaaDoor
open Go.RowKit Go.Shelf
set_option maxRecDepth 100000
attribute [local go_sem ↓] Go.wp_at_zero Go.wp_at_succ

def doesF (k : Int) : Nat :=
  if k = 1 then 39 else if k = 2 then 40 else if k = 3 then 41 else if k = 4 then 42 else if k = 5 then 43
  else if k = 6 then 44 else if k = 7 then 45 else if k = 11 ∨ k = 12 then 47 else 46
def wayE (k : Int) (j : Nat) : MapEntry := ⟨.int .i64 k, .agg #[.int .i64 (ownK k), .func (.func (doesF k)) #[] #[]], j⟩
def wayObj : Obj := .map #[wayE 1 0, wayE 2 1, wayE 3 2, wayE 4 3, wayE 5 4, wayE 6 5, wayE 7 6, wayE 8 7, wayE 9 8, wayE 10 9, wayE 11 10, wayE 12 11] 12
theorem ways_calls (w : World) : Calls Tryd.prog 29 #[] w fun e w' => e = .returned (.map (some w.heap.size)) ∧ w' = w.alloc wayObj := by
  have hmm := @run_makeMap Tryd.prog
  have hins := run_insert_k (P := Tryd.prog) Tryd.underlying79 Tryd.underlying37 w
  go_enter Tryd.func29, Tryd.ntmps29
  go_wp2
  go_ret
  exact ⟨rfl, rfl⟩
theorem ways_look (W : World) (B : Nat) (hb : W.heap[B]? = some wayObj) (k : Int) (hk : 1 ≤ k ∧ k ≤ 12) : (Instr.lookup 79 (.map (some B)) (.int .i64 k) false).run Tryd.prog W = .ok (.agg #[.int .i64 (ownK k), .func (.func (doesF k)) #[] #[]]) W := by
  have : k = 1 ∨ k = 2 ∨ k = 3 ∨ k = 4 ∨ k = 5 ∨ k = 6 ∨ k = 7 ∨ k = 8 ∨ k = 9 ∨ k = 10 ∨ k = 11 ∨ k = 12 := by omega
  rcases this with rfl | rfl | rfl | rfl | rfl | rfl | rfl | rfl | rfl | rfl | rfl | rfl <;>
    exact run_lookup_k (P := Tryd.prog) Tryd.underlying79 Tryd.underlying37 _ _ _ _ _ _ _ hb (by rfl)
set_option maxHeartbeats 4000000 in
theorem node_loose {w0 : World} {rs : List Rule} {ns : List Node} {rv nv : Value} {b : Nat} {l : List UInt8} (hG : Gr w0 rs ns rv nv) (i : Nat) (hi : i < ns.length) (hk : 1 ≤ (ns.getD i default).kind ∧ (ns.getD i default).kind ≤ 12) (how : Int) (body : List UInt8)
    (eg : ∀ args w, (callFunc (doesF (ns.getD i default).kind) args).run Tryd.prog w = .ok (.enter (doesF (ns.getD i default).kind) args) w) (hown : ¬ ownK (ns.getD i default).kind < how)
    (hdoes : ∀ w', Wt w0 rv nv b l w' → Below w0.heap.size w0 w' → Calls Tryd.prog (doesF (ns.getD i default).kind) #[.pointer (some ⟨b, 0, none⟩), .int .i64 i] w' (Wrote w0 rv nv b l body w'))
    (w : World) (hb : Below w0.heap.size w0 w) (h : Wt w0 rv nv b l w) :
    Calls Tryd.prog 19 #[.pointer (some ⟨b, 0, none⟩), .int .i64 i, .int .i64 how] w (Wrote w0 rv nv b l body w) := by
  obtain ⟨a, c, rfl, hc1, hc2, hc⟩ := id hG.nodes
  obtain ⟨nb, no, rfl, hN⟩ := hc i hi
  generalize ns.getD i default = x at *
  obtain ⟨p00, -⟩ := hN
  have p0 := cell_below hb p00
  have hnodes := h.cell 1
  simp only [List.getElem?_cons_succ, List.getElem?_cons_zero, Nat.reduceAdd] at hnodes
  generalize hn : ns.length = n at *
  have hiz : (i : Int) < (n : Int) := by omega
  have hi0 : (0 : Int) ≤ (i : Int) := by omega
  have hlook := fun (W : World) (B : Nat) (hB : W.heap[B]? = some wayObj) => ways_look W B hB x.kind hk
  have hlA := hlook ((w.alloc wayObj).drew) w.heap.size (MapKept.heap_alloc w wayObj).1
  have hlB := fun o => hlook (((w.alloc wayObj).alloc o).drew) w.heap.size ((Lib.alloc_old _ _ _ (by simp)).trans (MapKept.heap_alloc w wayObj).1)
  have hlC := fun o => hlook (((w.alloc o).alloc wayObj).drew) (w.heap.size + 1) (heap_two w o wayObj)
  clear hlook
  generalize doesF x.kind = g at *
  generalize ownK x.kind = own at *
  obtain ⟨ob, hob⟩ : ∃ ob, Obj.cells #[.int .i64 own, .func (.func g) #[] #[]] 78 = ob := ⟨_, rfl⟩
  have hA : Below w.heap.size w ((w.alloc wayObj).alloc ob).drew := (below_box2 w _ _).drew
  have hB : Below w.heap.size w ((w.alloc ob).alloc wayObj).drew := (below_box2 w _ _).drew
  have gA : ((w.alloc wayObj).alloc ob).drew.heap[w.heap.size + 1]? = some (.cells #[.int .i64 own, .func (.func g) #[] #[]] 78) := (heap_two w _ _).trans (congrArg some hob.symm)
  have gB : ((w.alloc ob).alloc wayObj).drew.heap[w.heap.size]? = some (.cells #[.int .i64 own, .func (.func g) #[] #[]] 78) := ((Lib.alloc_old _ _ _ (by simp)).trans (MapKept.heap_alloc w ob).1).trans (congrArg some hob.symm)
  have cA0 : ((w.alloc wayObj).alloc ob).drew.cell? ⟨w.heap.size + 1, 0, none⟩ = some (.int .i64 own) := cell_blk gA rfl
  have cA1 : ((w.alloc wayObj).alloc ob).drew.cell? ⟨w.heap.size + 1, 1, none⟩ = some (.func (.func g) #[] #[]) := cell_blk gA rfl
  have cB0 : ((w.alloc ob).alloc wayObj).drew.cell? ⟨w.heap.size, 0, none⟩ = some (.int .i64 own) := cell_blk gB rfl
  have cB1 : ((w.alloc ob).alloc wayObj).drew.cell? ⟨w.heap.size, 1, none⟩ = some (.func (.func g) #[] #[]) := cell_blk gB rfl
  have hdA := hdoes _ (h.later hA) (hb.trans (hA.mono hb.size))
  have hdB := hdoes _ (h.later hB) (hb.trans (hB.mono hb.size))
  go_enter_defers Tryd.func19, Tryd.ntmps19
  go_wp2
  go_region_held3 (fun w' => w'.cell? ⟨b, 3, none⟩ = some (.slice (some ⟨nb, no, none⟩) n c) ∧ w'.cell? ⟨nb, no + i * 9, none⟩ = some (.int .i64 x.kind)) (go_keep)
    (first | (go_at_call 29; refine (ways_calls _).mono ?_; rintro e w1 ⟨rfl, rfl⟩))
  all_goals (go_wp2_with (go_at_fn g; first | (refine hdA.mono ?_; rintro e w2 ⟨rfl, hB2, hK2⟩) | (refine hdB.mono ?_; rintro e w2 ⟨rfl, hB2, hK2⟩)))
  all_goals exact ⟨_, results_none rfl _ _ _, rfl, hB2, by first | exact (Kept.of_below hA hb.size).trans hK2 | exact (Kept.of_below hB hb.size).trans hK2⟩
set_option maxHeartbeats 4000000 in
theorem node_tight {w0 : World} {rs : List Rule} {ns : List Node} {rv nv : Value} {b : Nat} {l : List UInt8} (hG : Gr w0 rs ns rv nv) (i : Nat) (hi : i < ns.length) (hk : 1 ≤ (ns.getD i default).kind ∧ (ns.getD i default).kind ≤ 12) (how : Int) (body : List UInt8)
    (eg : ∀ args w, (callFunc (doesF (ns.getD i default).kind) args).run Tryd.prog w = .ok (.enter (doesF (ns.getD i default).kind) args) w) (hown : ownK (ns.getD i default).kind < how)
    (hlen : l.length + body.length + 2 ≤ 140737488355328) (hdoes : ∀ w', Wt w0 rv nv b (l ++ [40]) w' → Below w0.heap.size w0 w' → Calls Tryd.prog (doesF (ns.getD i default).kind) #[.pointer (some ⟨b, 0, none⟩), .int .i64 i] w' (Wrote w0 rv nv b (l ++ [40]) body w'))
    (w : World) (hb : Below w0.heap.size w0 w) (h : Wt w0 rv nv b l w) :
    Calls Tryd.prog 19 #[.pointer (some ⟨b, 0, none⟩), .int .i64 i, .int .i64 how] w (Wrote w0 rv nv b l (40 :: (body ++ [41])) w) := by
  obtain ⟨a, c, rfl, hc1, hc2, hc⟩ := id hG.nodes
  obtain ⟨nb, no, rfl, hN⟩ := hc i hi
  generalize ns.getD i default = x at *
  obtain ⟨p00, -⟩ := hN
  have p0 := cell_below hb p00
  have hnodes := h.cell 1
  simp only [List.getElem?_cons_succ, List.getElem?_cons_zero, Nat.reduceAdd] at hnodes
  generalize hn : ns.length = n at *
  have hiz : (i : Int) < (n : Int) := by omega
  have hi0 : (0 : Int) ≤ (i : Int) := by omega
  have hlook := fun (W : World) (B : Nat) (hB : W.heap[B]? = some wayObj) => ways_look W B hB x.kind hk
  have hlA := hlook ((w.alloc wayObj).drew) w.heap.size (MapKept.heap_alloc w wayObj).1
  have hlB := fun o => hlook (((w.alloc wayObj).alloc o).drew) w.heap.size ((Lib.alloc_old _ _ _ (by simp)).trans (MapKept.heap_alloc w wayObj).1)
  have hlC := fun o => hlook (((w.alloc o).alloc wayObj).drew) (w.heap.size + 1) (heap_two w o wayObj)
  clear hlook
  generalize doesF x.kind = g at *
  generalize ownK x.kind = own at *
  obtain ⟨ob, hob⟩ : ∃ ob, Obj.cells #[.int .i64 own, .func (.func g) #[] #[]] 78 = ob := ⟨_, rfl⟩
  have hA : Below w.heap.size w ((w.alloc wayObj).alloc ob).drew := (below_box2 w _ _).drew
  have hB : Below w.heap.size w ((w.alloc ob).alloc wayObj).drew := (below_box2 w _ _).drew
  have gA : ((w.alloc wayObj).alloc ob).drew.heap[w.heap.size + 1]? = some (.cells #[.int .i64 own, .func (.func g) #[] #[]] 78) := (heap_two w _ _).trans (congrArg some hob.symm)
  have gB : ((w.alloc ob).alloc wayObj).drew.heap[w.heap.size]? = some (.cells #[.int .i64 own, .func (.func g) #[] #[]] 78) := ((Lib.alloc_old _ _ _ (by simp)).trans (MapKept.heap_alloc w ob).1).trans (congrArg some hob.symm)
  have cA0 : ((w.alloc wayObj).alloc ob).drew.cell? ⟨w.heap.size + 1, 0, none⟩ = some (.int .i64 own) := cell_blk gA rfl
  have cA1 : ((w.alloc wayObj).alloc ob).drew.cell? ⟨w.heap.size + 1, 1, none⟩ = some (.func (.func g) #[] #[]) := cell_blk gA rfl
  have cB0 : ((w.alloc ob).alloc wayObj).drew.cell? ⟨w.heap.size, 0, none⟩ = some (.int .i64 own) := cell_blk gB rfl
  have cB1 : ((w.alloc ob).alloc wayObj).drew.cell? ⟨w.heap.size, 1, none⟩ = some (.func (.func g) #[] #[]) := cell_blk gB rfl
  have hwA := WriteByte_calls bt_writer 40 _ (h.later hA) (by omega)
  have hwB := WriteByte_calls bt_writer 40 _ (h.later hB) (by omega)
  have hbne1 : w.heap.size + 1 ≠ b := fun e => by have := h.lt; omega
  have hbne0 : w.heap.size ≠ b := fun e => by have := h.lt; omega
  go_enter_defers Tryd.func19, Tryd.ntmps19
  go_wp2
  go_region_held3 (fun w' => w'.cell? ⟨b, 3, none⟩ = some (.slice (some ⟨nb, no, none⟩) n c) ∧ w'.cell? ⟨nb, no + i * 9, none⟩ = some (.int .i64 x.kind)) (go_keep)
    (first | (go_at_call 29; refine (ways_calls _).mono ?_; rintro e w1 ⟨rfl, rfl⟩))
  all_goals (go_wp2_with (first
    | (go_at_call 30; first
      | (refine hwA.mono ?_; rintro e w2 ⟨rfl, hB2, hK2⟩; have k2 := hK2.block gA hbne1 (by decide); have k3 : w2.cell? ⟨w.heap.size + 1, 1, none⟩ = some (.func (.func g) #[] #[]) := cell_blk k2 rfl; have hK3 := (Kept.of_below hA hb.size).trans hK2; have hd2 := hdoes w2 hB2 (hb.trans hK3.below))
      | (refine hwB.mono ?_; rintro e w2 ⟨rfl, hB2, hK2⟩; have k2 := hK2.block gB hbne0 (by decide); have k3 : w2.cell? ⟨w.heap.size, 1, none⟩ = some (.func (.func g) #[] #[]) := cell_blk k2 rfl; have hK3 := (Kept.of_below hB hb.size).trans hK2; have hd2 := hdoes w2 hB2 (hb.trans hK3.below)))
    | (go_at_fn g; refine hd2.mono ?_; rintro e w3 ⟨rfl, hB4, hK4⟩)))
  all_goals (
    refine leaves_cons (f := 30) (args := #[.pointer (some ⟨b, 0, none⟩), .int .u8 41]) (by simp) (by simp [go_sem]) ?_
    refine (WriteByte_deferred bt_writer 41 .returning _ hB4 (by simp only [List.length_append, List.length_cons, List.length_nil]; omega)).mono ?_
    rintro e u' w4 ⟨rfl, rfl, hB5, hK5⟩
    exact ⟨_, results_none rfl _ _ _, rfl, by simpa using hB5, (hK3.trans hK4).trans hK5⟩)
end Go.Proofs.YtljoajjbhjdonaaDoor
