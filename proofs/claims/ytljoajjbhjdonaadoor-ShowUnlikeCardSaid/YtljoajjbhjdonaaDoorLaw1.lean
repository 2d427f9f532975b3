/- seedlinglaw09: size: it answers some number. -/
import Derived.Test.YtljoajjbhjdonaaDoorRight
import Derived.Deep.LoopGhost
import Derived.Deep.Light
namespace Go.Proofs.YtljoajjbhjdonaaDoor
open Go.RowKit
set_option maxRecDepth 100000

set_option maxHeartbeats 4000000 in
theorem size_calls (rs : List Rule) (ns : List Node) (rv nv : Value) (w : World) (hr : RulesAt w rv rs) (hn : NodesAt w nv ns) :
    Calls Tryd.prog 5 #[.agg #[rv, nv]] w fun e w' => (∃ k : Nat, e = .returned (.int .i64 (k : Int))) ∧ Below w.heap.size w w' := by
  have hrl := hr.le
  have hnl := hn.le
  obtain ⟨ra, rc, rfl, _⟩ := id hr
  obtain ⟨na, nc, rfl, _, _, hc⟩ := id hn
  generalize hm : ns.length = m at *
  generalize hrm : rs.length = rm at *
  obtain ⟨o, ho⟩ : ∃ o, Obj.cells #[.slice ra rm rc, .slice na m nc] 25 = o := ⟨_, rfl⟩
  have hwo := (MapKept.heap_alloc w o).1.trans (congrArg some ho.symm)
  have c1 : (w.alloc o).cell? ⟨w.heap.size, 0, none⟩ = some (.slice ra rm rc) := cell_blk hwo rfl
  have c2 : (w.alloc o).cell? ⟨w.heap.size, 1, none⟩ = some (.slice na m nc) := cell_blk hwo rfl
  go_enter Tryd.func5, Tryd.ntmps5
  go_wp2
  go_loopw [3, 4] (fun s3 s4 wr => ∃ i k : Nat, i ≤ m ∧ s4 = .int .i64 i ∧ s3 = .int .i64 k ∧ k ≤ 562949953421312 ∧ wr = w.alloc o) (fun s3 s4 _ => m - (intOf s4).toNat)
  case atStart => exact ⟨0, rm + m, by omega, rfl, by simp, by omega, rfl⟩
  case round =>
    obtain ⟨i, k, hi, rfl, rfl, hk, rfl⟩ := hrel
    by_cases him : i < m
    · obtain ⟨nb, no, rfl, hN⟩ := hc i him
      obtain ⟨-, -, -, -, -, -, -, -, kv, p8, ka, kc, rfl, hk1, hk2, -⟩ := NodeAt.below (below_box w o) hN
      generalize (ns.getD i default).kids.length = q at *
      have hiz : (i : Int) < (m : Int) := by omega
      by_cases h3 : k ≤ 300
      · have h3z : (k : Int) ≤ 300 := by omega
        go_wp2
        exact ⟨⟨i + 1, k + q, by omega, by simp, by simp, by omega, trivial⟩, by simp [intOf]; omega⟩
      · have h3z : decide ((k : Int) ≤ 300) = false := by simp; omega
        go_wp2
        go_ret
        exact ⟨⟨_, rfl⟩, below_box _ _⟩
    · have hiz : decide ((i : Int) < (m : Int)) = false := by simp; omega
      go_wp2
      go_ret
      exact ⟨⟨_, rfl⟩, below_box _ _⟩
end Go.Proofs.YtljoajjbhjdonaaDoor
