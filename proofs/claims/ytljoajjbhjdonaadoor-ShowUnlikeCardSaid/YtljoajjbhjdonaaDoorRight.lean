/- The plain law: what a right grammar is (Right), out of wholeL. -/
import Derived.Test.YtljoajjbhjdonaaDoorShow7
namespace Go.Proofs.YtljoajjbhjdonaaDoor
open Go.RowKit
set_option maxRecDepth 100000

theorem nameB_size {s : ByteArray} (h : nameB s = true) : 0 < s.size ∧ s.size ≤ 32 := by
  unfold nameB at h
  simp only [Bool.and_eq_true, decide_eq_true_eq] at h
  exact h.1
theorem rl_mem {all : List Rule} {l : List (Nat × Nat)} : ∀ {rest : List Rule} {k next e : Nat}, rl all l rest k next = some e → ∀ r ∈ rest, nameB r.name = true ∧ ∃ n : Nat, r.body = (n : Int) ∧ n < l.length
  | [], _, _, _, _, r, hr => by cases hr
  | r0 :: rest, k, next, e, h, r, hr => by
    simp only [rl] at h
    split at h
    · rename_i hc
      rcases List.mem_cons.1 hr with rfl | hr
      · exact ⟨hc.1, next, hc.2.2.1, hc.2.2.2.1⟩
      · exact rl_mem h r hr
    · cases h
theorem right_of {rs : List Rule} {ns : List Node} {l : List (Nat × Nat)} (h : wholeL rs ns = some l) (hw : ∀ x ∈ ns, Wd x) : Right rs ns (szOf l) ∧ 0 < rs.length ∧ rs.length ≤ 32 := by
  obtain ⟨h1, h2, h3, h4, h5, h6⟩ := tree_of h
  refine ⟨⟨⟨h1, hw, fun r hr => ?_, h4⟩, fun r hr => ?_, fun r hr => ?_⟩, by omega, h5⟩
  · exact (nameB_size (rl_mem h2 r hr).1).2
  · exact (nameB_size (rl_mem h2 r hr).1).1
  · obtain ⟨_, n, e, hn⟩ := rl_mem h2 r hr
    exact ⟨n, e, by omega⟩
end Go.Proofs.YtljoajjbhjdonaaDoor
