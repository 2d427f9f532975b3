/- Package show: rule and open. -/
import Derived.Test.YtljoajjbhjdonaaDoorNode3
namespace Go.Proofs.YtljoajjbhjdonaaDoor
open Go.RowKit Go.Shelf
set_option maxRecDepth 100000
attribute [local go_sem ↓] Go.wp_at_zero Go.wp_at_succ

/-- A rule's text. -/
def ruleT (rs : List Rule) (ns : List Node) (r : Rule) : List UInt8 := r.name.data.toList ++ [32, 60, 45, 32] ++ (textN rs ns ns.length r.body 0 ++ [59, 10])
theorem node_len {rs : List Rule} {ns : List Node} {sz : Nat → Nat} (hg : Good rs ns sz) (f n : Nat) (how : Int) (hn : n < ns.length) : (textN rs ns f n how).length ≤ 5400000 := by
  have h1 := textN_len hg.tree hg.wide hg.names f n how hn
  have h2 := (hg.tree.size n hn).2
  have h3 := hg.few
  have : 2600 * sz n ≤ 2600 * 2048 := Nat.mul_le_mul_left _ (by omega)
  omega
set_option maxHeartbeats 4000000 in
theorem rule_calls {w0 : World} {rs : List Rule} {ns : List Node} {rv nv : Value} {b : Nat} {sz : Nat → Nat} {l : List UInt8} (hG : Gr w0 rs ns rv nv) (hg : Good rs ns sz) (r : Rule) (n : Nat) (hbody : r.body = (n : Int)) (hn : n < ns.length) (hname : r.name.size ≤ 32)
    (w : World) (hb : Below w0.heap.size w0 w) (h : Wt w0 rv nv b l w) (hlen : l.length + 2200023255552 ≤ 70368744177664) :
    Calls Tryd.prog 12 #[.pointer (some ⟨b, 0, none⟩), .agg #[.string r.name, .int .i64 r.body]] w (Wrote w0 rv nv b l (ruleT rs ns r) w) := by
  have hlt := node_len hg ns.length n 0 hn
  have hfew := hg.few
  have hnode := fun l' w' hB' hb' (hl' : l'.length ≤ l.length + 1000) => node_calls (b := b) hG hg ns.length n 0 l' w' hn (by omega) hb' hB' (by
    have : ns.length * 1073741824 ≤ 2048 * 1073741824 := Nat.mul_le_mul_right _ hfew
    omega)
  have hT : ruleT rs ns r = r.name.data.toList ++ [32, 60, 45, 32] ++ (textN rs ns ns.length (n : Int) 0 ++ [59, 10]) := by unfold ruleT; rw [hbody]
  rw [hT, hbody]
  generalize textN rs ns ns.length (n : Int) 0 = t at *
  clear hT
  generalize hnm : r.name = nm at *
  obtain ⟨o, ho⟩ : ∃ o, Obj.cells #[.string nm, .int .i64 (n : Int)] 35 = o := ⟨_, rfl⟩
  have hbo := below_box w o
  have hbd : Below w.heap.size w (w.alloc o).drew := hbo.drew
  have hwo := (MapKept.heap_alloc w o).1.trans (congrArg some ho.symm)
  have g0 : (w.alloc o).cell? ⟨w.heap.size, 0, none⟩ = some (.string nm) := cell_blk hwo rfl
  have hadd := add_run nm ⟨#[32, 60, 45, 32]⟩ (by rw [show (⟨#[32, 60, 45, 32]⟩ : ByteArray).size = 4 from rfl]; omega)
  have hsz : (nm ++ (⟨#[32, 60, 45, 32]⟩ : ByteArray)).size = nm.size + 4 := by rw [ByteArray.size_append]; rfl
  have hls : (nm ++ (⟨#[32, 60, 45, 32]⟩ : ByteArray)).data.toList = nm.data.toList ++ [32, 60, 45, 32] := by simp
  have hWS := WriteString_calls bt_writer (nm ++ ⟨#[32, 60, 45, 32]⟩) _ (h.later hbd) (by rw [hsz]; omega)
  have hsn : nm.data.toList.length ≤ 32 := by rw [← bsize]; exact hname
  rw [hls] at hWS
  have hbne : w.heap.size ≠ b := fun e => by have := h.lt; omega
  have hnsz : ¬ 9223372036854775807 < nm.size + 4 := by omega
  have hnsz2 : nm.size + 4 ≤ 9223372036854775807 := by omega
  have hlb : (l ++ (nm.data.toList ++ [32, 60, 45, 32])).length ≤ l.length + 1000 := by simp only [List.length_append, List.length_cons, List.length_nil]; omega
  have hlc : (l ++ (nm.data.toList ++ [32, 60, 45, 32]) ++ t).length + 2 ≤ 140737488355328 := by simp only [List.length_append, List.length_cons, List.length_nil]; omega
  have Hn := Lib.hid hnode
  clear hnode hls hsz hlt hnm hbody hfew
  go_enter Tryd.func12, Tryd.ntmps12
  go_wp2
  go_region_held3 (fun w' => w'.cell? ⟨w.heap.size, 0, none⟩ = some (.string nm)) (go_keep)
    (first | (go_at_call 20; refine hWS.mono ?_; rintro e w2 ⟨rfl, hB2, hK2⟩; have k5 := (hK2.block hwo hbne (by decide)); have k7 : w2.cell? ⟨w.heap.size, 1, none⟩ = some (.int .i64 (n : Int)) := cell_blk k5 rfl; have k8 : w2.cell? ⟨w.heap.size, 0, none⟩ = some (.string nm) := cell_blk k5 rfl; have hK3 := (Kept.of_below hbd hb.size).trans hK2; have hnd := Hn.out _ w2 hB2 (hb.trans hK3.below) hlb))
  all_goals (go_wp2_with (first
    | (go_at_call 19; refine hnd.mono ?_; rintro e w3 ⟨rfl, hB4, hK4⟩)
    | (go_at_call 20; refine (WriteString_calls bt_writer ⟨#[59, 10]⟩ _ hB4 hlc).mono ?_; rintro e w4 ⟨rfl, hB6, hK6⟩)))
  all_goals (
    go_end0
    refine ⟨rfl, ?_, (hK3.trans hK4).trans hK6⟩
    simpa using hB6)
end Go.Proofs.YtljoajjbhjdonaaDoor
