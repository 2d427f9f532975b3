/- Package show, the writer: ahead, behind, seq, alt, and node as a whole. -/
import Derived.Test.YtljoajjbhjdonaaDoorNode1
namespace Go.Proofs.YtljoajjbhjdonaaDoor
open Go.RowKit Go.Shelf
set_option maxRecDepth 100000
attribute [local go_sem ↓] Go.wp_at_zero Go.wp_at_succ

theorem sign_size (k : Int) : (signB k).size = 1 := by unfold signB; (repeat' split) <;> rfl
set_option maxHeartbeats 4000000 in
theorem ahead_calls {w0 : World} {rs : List Rule} {ns : List Node} {rv nv : Value} {b : Nat} {l : List UInt8} (hG : Gr w0 rs ns rv nv) (i : Nat) (hi : i < ns.length) (hk : 8 ≤ (ns.getD i default).kind ∧ (ns.getD i default).kind ≤ 12) (k : Int) (hkids : (ns.getD i default).kids = [k]) (t : List UInt8)
    (hnode : ∀ l' w', Wt w0 rv nv b l' w' → Below w0.heap.size w0 w' → l'.length ≤ l.length + 1 → Calls Tryd.prog 19 #[.pointer (some ⟨b, 0, none⟩), .int .i64 k, .int .i64 2] w' (Wrote w0 rv nv b l' t w'))
    (w : World) (hb : Below w0.heap.size w0 w) (h : Wt w0 rv nv b l w) (hlen : l.length + 1 ≤ 140737488355328) :
    Calls Tryd.prog 47 #[.pointer (some ⟨b, 0, none⟩), .int .i64 i] w (Wrote w0 rv nv b l ((signB (ns.getD i default).kind).data.toList ++ t) w) := by
  obtain ⟨a, c, rfl, hc1, hc2, hc⟩ := id hG.nodes
  obtain ⟨nb, no, rfl, hN⟩ := hc i hi
  generalize ns.getD i default = x at *
  obtain ⟨p00, -, -, -, -, -, -, -, kv, p80, ka, kc, rfl, hkc1, hkc2, hks⟩ := hN
  rw [hkids] at p80 hks hkc1
  obtain ⟨kb, ko, rfl, hk0⟩ := hks 0 (by simp)
  simp only [Nat.zero_mul, Nat.add_zero, List.getD_cons_zero] at hk0
  have p0 := cell_below hb p00
  have hnodes := h.cell 1
  simp only [List.getElem?_cons_succ, List.getElem?_cons_zero, Nat.reduceAdd] at hnodes
  generalize hn : ns.length = n at *
  have hiz : (i : Int) < (n : Int) := by omega
  have hi0 : (0 : Int) ≤ (i : Int) := by omega
  have hS := fun W => sign_calls x.kind hk W
  have hsz := sign_size x.kind
  generalize signB x.kind = sg at *
  have hll : (l ++ sg.data.toList).length = l.length + 1 := by rw [List.length_append, ← bsize, hsz]
  have hl1 : [k].length = 1 := rfl
  rw [hl1] at p80 hkc1
  have hWS := WriteString_calls bt_writer sg w.drew (h.later (Below.refl _ _).drew) (by rw [hsz]; exact hlen)
  go_enter Tryd.func47, Tryd.ntmps47
  go_wp2
  go_region_held3 (fun w' => w'.cell? ⟨b, 3, none⟩ = some (.slice (some ⟨nb, no, none⟩) n c) ∧ w'.cell? ⟨nb, no + i * 9, none⟩ = some (.int .i64 x.kind)) (go_keep)
    (first
      | (go_at_call 61; refine (hS _).mono ?_; rintro e w1 ⟨rfl, rfl⟩)
      | (go_at_call 20; refine hWS.mono ?_; rintro e w2 ⟨rfl, hB2, hK2⟩; have hb2 := hb.drew.trans hK2.below; have k3 := hB2.cell 1; have k4 := cell_below hb2 p00; have k5 := cell_below hb2 p80; have k6 := cell_below hb2 hk0))
  all_goals (go_wp2_with (go_at_call 19; refine (hnode _ _ hB2 hb2 (by omega)).mono ?_; rintro e w3 ⟨rfl, hB4, hK4⟩))
  go_end0
  refine ⟨rfl, by rw [← List.append_assoc]; exact hB4, ((Kept.of_below (Below.refl _ _).drew hb.size).trans hK2).trans hK4⟩
set_option maxHeartbeats 4000000 in
theorem behind_calls {w0 : World} {rs : List Rule} {ns : List Node} {rv nv : Value} {b : Nat} {l : List UInt8} (hG : Gr w0 rs ns rv nv) (i : Nat) (hi : i < ns.length) (hk : 8 ≤ (ns.getD i default).kind ∧ (ns.getD i default).kind ≤ 12) (k : Int) (hkids : (ns.getD i default).kids = [k]) (t : List UInt8)
    (w : World) (hnode : Calls Tryd.prog 19 #[.pointer (some ⟨b, 0, none⟩), .int .i64 k, .int .i64 3] w (Wrote w0 rv nv b l t w))
    (hb : Below w0.heap.size w0 w) (h : Wt w0 rv nv b l w) (hlen : l.length + t.length + 1 ≤ 140737488355328) :
    Calls Tryd.prog 46 #[.pointer (some ⟨b, 0, none⟩), .int .i64 i] w (Wrote w0 rv nv b l (t ++ (signB (ns.getD i default).kind).data.toList) w) := by
  obtain ⟨a, c, rfl, hc1, hc2, hc⟩ := id hG.nodes
  obtain ⟨nb, no, rfl, hN⟩ := hc i hi
  generalize ns.getD i default = x at *
  obtain ⟨p00, -, -, -, -, -, -, -, kv, p80, ka, kc, rfl, hkc1, hkc2, hks⟩ := hN
  rw [hkids] at p80 hks hkc1
  obtain ⟨kb, ko, rfl, hk0⟩ := hks 0 (by simp)
  simp only [Nat.zero_mul, Nat.add_zero, List.getD_cons_zero] at hk0
  have p8 := cell_below hb p80
  have q0 := cell_below hb hk0
  have hnodes := h.cell 1
  simp only [List.getElem?_cons_succ, List.getElem?_cons_zero, Nat.reduceAdd] at hnodes
  generalize hn : ns.length = n at *
  have hiz : (i : Int) < (n : Int) := by omega
  have hi0 : (0 : Int) ≤ (i : Int) := by omega
  have hS := fun W => sign_calls x.kind hk W
  have hsz := sign_size x.kind
  generalize signB x.kind = sg at *
  have hll : (l ++ t).length + sg.size ≤ 140737488355328 := by rw [List.length_append, hsz]; exact hlen
  have hl1 : [k].length = 1 := rfl
  rw [hl1] at p8 hkc1
  go_enter Tryd.func46, Tryd.ntmps46
  go_wp2_with (go_at_call 19; refine hnode.mono ?_; rintro e w2 ⟨rfl, hB2, hK2⟩; have hb2 := hb.trans hK2.below; have k3 := hB2.cell 1; have k4 := cell_below hb2 p00)
  simp only [List.getElem?_cons_succ, List.getElem?_cons_zero, Nat.reduceAdd] at k3
  have hWS := WriteString_calls bt_writer sg w2.drew (hB2.later (Below.refl _ _).drew) hll
  go_region_held3 (fun w' => w'.cell? ⟨b, 3, none⟩ = some (.slice (some ⟨nb, no, none⟩) n c) ∧ w'.cell? ⟨nb, no + i * 9, none⟩ = some (.int .i64 x.kind)) (go_keep)
    (first
      | (go_at_call 61; refine (hS _).mono ?_; rintro e w1 ⟨rfl, rfl⟩)
      | (go_at_call 20; refine hWS.mono ?_; rintro e w3 ⟨rfl, hB4, hK4⟩; have hb3 := hb2.drew.trans hK4.below; have k5 := hB4.cell 1; have k6 := cell_below hb3 p00))
  go_wp2
  go_end0
  refine ⟨rfl, by rw [← List.append_assoc]; exact hB4, hK2.trans ((Kept.of_below (Below.refl _ _).drew hB2.2.1).trans hK4)⟩
theorem seq_calls {w0 : World} {rv nv : Value} {b : Nat} {l t : List UInt8} (i : Int) (w : World)
    (hbt : Calls Tryd.prog 60 #[.pointer (some ⟨b, 0, none⟩), .int .i64 i, .int .i64 2, .string ⟨#[32]⟩] w (Wrote w0 rv nv b l t w)) :
    Calls Tryd.prog 44 #[.pointer (some ⟨b, 0, none⟩), .int .i64 i] w (Wrote w0 rv nv b l t w) := by
  go_enter Tryd.func44, Tryd.ntmps44
  go_wp2_with (go_at_call 60; refine hbt.mono ?_; rintro e w2 ⟨rfl, hB2, hK2⟩)
  go_end0
  exact ⟨rfl, hB2, hK2⟩
theorem alt_calls {w0 : World} {rv nv : Value} {b : Nat} {l t : List UInt8} (i : Int) (w : World)
    (hbt : Calls Tryd.prog 60 #[.pointer (some ⟨b, 0, none⟩), .int .i64 i, .int .i64 1, .string ⟨#[32, 47, 32]⟩] w (Wrote w0 rv nv b l t w)) :
    Calls Tryd.prog 45 #[.pointer (some ⟨b, 0, none⟩), .int .i64 i] w (Wrote w0 rv nv b l t w) := by
  go_enter Tryd.func45, Tryd.ntmps45
  go_wp2_with (go_at_call 60; refine hbt.mono ?_; rintro e w2 ⟨rfl, hB2, hK2⟩)
  go_end0
  exact ⟨rfl, hB2, hK2⟩
end Go.Proofs.YtljoajjbhjdonaaDoor
