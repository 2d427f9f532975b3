/- Package show: Node. -/
import Derived.Test.YtljoajjbhjdonaaDoorShow4
namespace Go.Proofs.YtljoajjbhjdonaaDoor
open Go.RowKit Go.Shelf
set_option maxRecDepth 100000
attribute [local go_sem ↓] Go.wp_at_zero Go.wp_at_succ

theorem bodyT_ne {rs : List Rule} {ns : List Node} {sz : Nat → Nat} (hT : Tree rs ns sz) (h0 : ∀ r ∈ rs, 0 < r.name.size) (n : Nat) (hn : n < ns.length) (rec : Int → Int → List UInt8) (hrec : ∀ j : Nat, n < j → j < ns.length → ∀ how, rec (j : Int) how ≠ []) : bodyT rs (ns.getD n default) rec ≠ [] := by
  have hkd := hT.kids n hn
  have hb := nodeB_cases (hT.node n hn)
  generalize ns.getD n default = x at *
  have hsg : (signB x.kind).data.toList ≠ [] := by unfold signB; (repeat' split) <;> simp
  have hj : ∀ (sep : List UInt8) (how : Int), 2 ≤ x.kids.length → joinT sep (fun k => rec k how) x.kids ≠ [] := fun sep how h2 => by
    cases hk : x.kids with
    | nil => rw [hk] at h2; simp at h2
    | cons k ks =>
      rw [hk] at hkd
      obtain ⟨rfl, h1, _⟩ := hkd
      have := hrec (n + 1) (by omega) h1 how
      simp only [joinT]
      intro e
      exact this (List.append_eq_nil_iff.1 e).1
  unfold bodyT
  rcases hb with ⟨hk, _⟩ | ⟨hk, _⟩ | ⟨hk, _⟩ | ⟨hk, h6, _⟩ | ⟨hk, _, h6⟩ | ⟨hk, _⟩
  · rcases hk with hk | hk <;> simp [hk]
  · simp [hk, setT]
  · simp [hk, textT]
  · have h1 : 0 < (rs.getD x.rule.toNat default).name.size := by
      rw [List.getD_eq_getElem?_getD, List.getElem?_eq_getElem (by omega)]; exact h0 _ (List.getElem_mem _)
    have h2 : callT rs x ≠ [] := by
      unfold callT
      intro e
      have e1 := congrArg List.length (List.append_eq_nil_iff.1 e).1
      rw [← bsize] at e1
      simp only [List.length_nil] at e1
      omega
    simpa [hk] using h2
  · rcases hk with hk | hk
    · simpa [hk] using hj [32] 2 h6.1
    · simpa [hk] using hj [32, 47, 32] 1 h6.1
  · have hne : x.kind ≠ 1 ∧ x.kind ≠ 2 ∧ x.kind ≠ 3 ∧ x.kind ≠ 4 ∧ x.kind ≠ 5 ∧ x.kind ≠ 6 ∧ x.kind ≠ 7 := by omega
    simp only [hne, if_false]
    split
    · intro e; exact hsg (List.append_eq_nil_iff.1 e).1
    · intro e; exact hsg (List.append_eq_nil_iff.1 e).2
theorem textN_ne {rs : List Rule} {ns : List Node} {sz : Nat → Nat} (hT : Tree rs ns sz) (h0 : ∀ r ∈ rs, 0 < r.name.size) : ∀ (f n : Nat) (how : Int), n < ns.length → ns.length ≤ n + f → textN rs ns f n how ≠ []
  | 0, n, how, hn, hf => by omega
  | f + 1, n, how, hn, hf => by
    have ih := bodyT_ne hT h0 n hn (textN rs ns f) (fun j h1 h2 how => textN_ne hT h0 f j how h2 (by omega))
    have e : ((n : Int)).toNat = n := by simp
    simp only [textN, e]
    split
    · simp
    · exact ih
/-- Rules' names hold a byte, and 32 at most. -/
structure Right (rs : List Rule) (ns : List Node) (sz : Nat → Nat) : Prop where
  good : Good rs ns sz
  named : ∀ r ∈ rs, 0 < r.name.size
  bodies : ∀ r ∈ rs, ∃ n : Nat, r.body = (n : Int) ∧ n < ns.length
set_option maxHeartbeats 4000000 in
theorem Node_right (rs : List Rule) (ns : List Node) (rv nv : Value) (sz : Nat → Nat) (w : World) (hr : RulesAt w rv rs) (hn : NodesAt w nv ns) (hf : Fine rs ns) (hR : rightB rs ns = true) (hT : TabAt 0 Lib.deBruijn64tab w) (hg : Right rs ns sz) (n : Nat) (hi : n < ns.length) :
    Calls Tryd.prog 10 #[.agg #[rv, nv], .int .i64 (n : Int)] w fun e w' => e = .returned (.tuple #[.string ⟨(textN rs ns ns.length n 0).toArray⟩, .int .i64 0]) ∧ Below w.heap.size w w' := by
  have hC := fun o => open_right rs ns rv nv (w.alloc o) (RulesAt.below (below_box w o) hr) (NodesAt.below (below_box w o) hn) hf hR w.heap.size (by simp)
  have hfew := hg.good.few
  have hnode := fun b w' hB' hb' => node_calls (w0 := w) (b := b) (rv := rv) (nv := nv) ⟨hr, hn, hT⟩ hg.good ns.length n 0 [] w' hi (by omega) hb' hB' (by
    have : ns.length * 1073741824 ≤ 2048 * 1073741824 := Nat.mul_le_mul_right _ hfew
    simp only [List.length_nil]; omega)
  have hne := textN_ne hg.good.tree hg.named ns.length n 0 hi (by omega)
  generalize textN rs ns ns.length (n : Int) 0 = t at *
  obtain ⟨ra, rc, rfl, _⟩ := id hr
  obtain ⟨na, nc, rfl, _⟩ := id hn
  generalize hm : ns.length = m at *
  have hiz : (n : Int) < (m : Int) := by omega
  have hi0 : (0 : Int) ≤ (n : Int) := by omega
  clear hr hn hf hR
  have Hn := Lib.hid hnode
  clear hnode
  go_enter Tryd.func10, Tryd.ntmps10
  go_wp2_with (first
    | (go_at_call 11; refine (hC _).mono ?_; rintro e w1 ⟨b, rfl, hB1, hb1⟩; have hb2 := below_chain (below_box w _) hb1; have hnd := Hn.out b w1 hB1 hb2)
    | (go_at_call 19; refine hnd.mono ?_; rintro e w2 ⟨rfl, hB3, hK3⟩)
    | (go_at_call 14; refine (String_calls _ hB3 (by simpa using hne)).mono ?_; rintro e w3 ⟨rfl, hb4⟩))
  go_ret2
  exact ⟨rfl, hb2.trans (hK3.below.trans hb4)⟩
set_option maxHeartbeats 4000000 in
theorem Rule_right (rs : List Rule) (ns : List Node) (rv nv : Value) (sz : Nat → Nat) (w : World) (hr : RulesAt w rv rs) (hn : NodesAt w nv ns) (hf : Fine rs ns) (hR : rightB rs ns = true) (hT : TabAt 0 Lib.deBruijn64tab w) (hg : Right rs ns sz) (i : Nat) (hi : i < rs.length) :
    Calls Tryd.prog 8 #[.agg #[rv, nv], .int .i64 (i : Int)] w fun e w' => e = .returned (.tuple #[.string ⟨(ruleT rs ns (rs.getD i default)).toArray⟩, .int .i64 0]) ∧ Below w.heap.size w w' := by
  have hC := fun o => open_right rs ns rv nv (w.alloc o) (RulesAt.below (below_box w o) hr) (NodesAt.below (below_box w o) hn) hf hR w.heap.size (by simp)
  have hmem : rs.getD i default ∈ rs := by rw [List.getD_eq_getElem?_getD, List.getElem?_eq_getElem hi]; exact List.getElem_mem _
  obtain ⟨n, hbody, hnl⟩ := hg.bodies _ hmem
  have hname := hg.good.names _ hmem
  have hrule := fun b w' hB' hb' => rule_calls (w0 := w) (b := b) (rv := rv) (nv := nv) (l := []) ⟨hr, hn, hT⟩ hg.good (rs.getD i default) n hbody hnl hname w' hb' hB' (by simp only [List.length_nil]; omega)
  have hne : ruleT rs ns (rs.getD i default) ≠ [] := by unfold ruleT; simp
  obtain ⟨ra, rc, rfl, _, _, hrr⟩ := id hr
  obtain ⟨rb, ro, rfl, hR0, hR1⟩ := hrr i hi
  obtain ⟨na, nc, rfl, _⟩ := id hn
  generalize ruleT rs ns (rs.getD i default) = t at *
  generalize rs.getD i default = r at *
  generalize hm : rs.length = m at *
  have hiz : (i : Int) < (m : Int) := by omega
  have hi0 : (0 : Int) ≤ (i : Int) := by omega
  clear hr hn hf hR hrr hmem hname hg hnl
  have Hn := Lib.hid hrule
  clear hrule hbody
  obtain ⟨o, ho⟩ : ∃ o, Obj.cells #[.slice (some ⟨rb, ro, none⟩) m rc, .slice na ns.length nc] 25 = o := ⟨_, rfl⟩
  have hwo := (MapKept.heap_alloc w o).1.trans (congrArg some ho.symm)
  have c1 : (w.alloc o).cell? ⟨w.heap.size, 0, none⟩ = some (.slice (some ⟨rb, ro, none⟩) m rc) := cell_blk hwo rfl
  have c2 : (w.alloc o).cell? ⟨w.heap.size, 1, none⟩ = some (.slice na ns.length nc) := cell_blk hwo rfl
  go_enter Tryd.func8, Tryd.ntmps8
  go_wp2_with (first
    | (go_at_call 11; refine (hC _).mono ?_; rintro e w1 ⟨b, rfl, hB1, hb1⟩; have hb2 := below_chain (below_box w _) hb1; have k1 := cell_below hb1 c1; have k2 := cell_below hb2 hR0; have k3 := cell_below hb2 hR1; have hnd := Hn.out b w1 hB1 hb2)
    | (go_at_call 12; refine hnd.mono ?_; rintro e w2 ⟨rfl, hB3, hK3⟩)
    | (go_at_call 14; refine (String_calls _ hB3 (by simpa using hne)).mono ?_; rintro e w3 ⟨rfl, hb4⟩))
  go_ret2
  exact ⟨rfl, hb2.trans (hK3.below.trans hb4)⟩
end Go.Proofs.YtljoajjbhjdonaaDoor
