/- The plain law: how a node's text begins. -/
import Derived.Test.YtljoajjbhjdonaaDoorInj1
namespace Go.Proofs.YtljoajjbhjdonaaDoor
open Go.RowKit
set_option maxRecDepth 100000

/-- A byte with which a node's text may begin. -/
def startB (c : UInt8) : Bool := c == 40 || c == 46 || c == 91 || c == 34 || c == 33 || c == 38 || letterZ (c.toNat : Int)
theorem name_start {s : ByteArray} (h : nameB s = true) : ∃ c l, s.data.toList = c :: l ∧ letterZ (c.toNat : Int) = true := by
  have h0 := (nameB_size h).1
  unfold nameB at h
  simp only [Bool.and_eq_true, decide_eq_true_eq] at h
  rw [bsize] at h0
  cases hl : s.data.toList with
  | nil => rw [hl] at h0; simp at h0
  | cons c l => rw [hl] at h; exact ⟨c, l, rfl, h.2.2⟩
theorem TT_start {rs : List Rule} {ns : List Node} {sz : Nat → Nat} (hT : Tree rs ns sz) (hnm : ∀ r ∈ rs, nameB r.name = true) : ∀ (m n : Nat) (how : Int), n < ns.length → ns.length ≤ n + m → ∃ c l, TT rs ns n how = c :: l ∧ startB c = true
  | 0, n, how, hn, hm => by omega
  | m + 1, n, how, hn, hm => by
    have ih := fun (k : Nat) (how : Int) (h1 : n < k) (h2 : k < ns.length) => TT_start hT hnm m k how h2 (by omega)
    have hbody : ∃ c l, bodyT rs (ns.getD n default) (TT rs ns) = c :: l ∧ startB c = true := by
      have hkd := hT.kids n hn
      have hb := nodeB_cases (hT.node n hn)
      generalize ns.getD n default = x at *
      have hj : ∀ (sep : List UInt8) (how : Int), 2 ≤ x.kids.length → ∃ c l, joinT sep (fun k => TT rs ns k how) x.kids = c :: l ∧ startB c = true := fun sep how h2 => by
        cases hk : x.kids with
        | nil => rw [hk] at h2; simp at h2
        | cons k ks =>
          rw [hk] at hkd
          obtain ⟨rfl, h1, _⟩ := hkd
          obtain ⟨c, l, e, hc⟩ := ih (n + 1) how (by omega) h1
          exact ⟨c, l ++ ks.flatMap (fun k => sep ++ TT rs ns k how), by simp only [joinT]; rw [e]; rfl, hc⟩
      unfold bodyT
      rcases hb with ⟨hk, _⟩ | ⟨hk, _⟩ | ⟨hk, _⟩ | ⟨hk, h6, _⟩ | ⟨hk, _, h6⟩ | ⟨hk, _, h8⟩
      · rcases hk with hk | hk
        · exact ⟨40, [41], by simp [hk], by decide⟩
        · exact ⟨46, [], by simp [hk], by decide⟩
      · exact ⟨91, _, by simp only [hk]; rfl, by decide⟩
      · exact ⟨34, _, by simp only [hk]; rfl, by decide⟩
      · have hmem : rs.getD x.rule.toNat default ∈ rs := by
          rw [List.getD_eq_getElem?_getD, List.getElem?_eq_getElem (by omega)]; exact List.getElem_mem _
        obtain ⟨c, l, e, hc⟩ := name_start (hnm _ hmem)
        refine ⟨c, l ++ _, by simp only [hk]; show callT rs x = _; unfold callT; rw [e]; rfl, by simp [startB, hc]⟩
      · rcases hk with hk | hk
        · obtain ⟨c, l, e, hc⟩ := hj [32] 2 h6.1
          exact ⟨c, l, by simp only [hk]; exact e, hc⟩
        · obtain ⟨c, l, e, hc⟩ := hj [32, 47, 32] 1 h6.1
          exact ⟨c, l, by simp only [hk]; exact e, hc⟩
      · obtain ⟨k, hkk⟩ : ∃ k, x.kids = [k] := List.length_eq_one_iff.1 h8
        rw [hkk] at hkd
        obtain ⟨rfl, h1, _⟩ := hkd
        have hne : x.kind ≠ 1 ∧ x.kind ≠ 2 ∧ x.kind ≠ 3 ∧ x.kind ≠ 4 ∧ x.kind ≠ 5 ∧ x.kind ≠ 6 ∧ x.kind ≠ 7 := by omega
        simp only [hne, if_false, hkk, List.getD_cons_zero]
        split
        · have : x.kind = 11 ∨ x.kind = 12 := by omega
          rcases this with e | e
          · exact ⟨33, _, by rw [e]; rfl, by decide⟩
          · exact ⟨38, _, by rw [e]; rfl, by decide⟩
        · obtain ⟨c, l, e, hc⟩ := ih (n + 1) 3 (by omega) h1
          exact ⟨c, l ++ (signB x.kind).data.toList, by rw [e]; rfl, hc⟩
    rw [TT_eq hT n how hn]
    split
    · exact ⟨40, _, rfl, by decide⟩
    · exact hbody
end Go.Proofs.YtljoajjbhjdonaaDoor
