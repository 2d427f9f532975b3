/- Package show: Text. -/
import Derived.Test.YtljoajjbhjdonaaDoorShow5
namespace Go.Proofs.YtljoajjbhjdonaaDoor
open Go.RowKit Go.Shelf
set_option maxRecDepth 100000
attribute [local go_sem ↓] Go.wp_at_zero Go.wp_at_succ

/-- A grammar's text. -/
def textG (rs : List Rule) (ns : List Node) : List UInt8 := rs.flatMap (ruleT rs ns)
/-- What Text answers of a right grammar. -/
def textR (rs : List Rule) (ns : List Node) : Value := if (textG rs ns).length ≤ 16384 then .tuple #[.string ⟨(textG rs ns).toArray⟩, .int .i64 0] else .tuple #[.string ⟨#[]⟩, .int .i64 3]
theorem ruleT_len {rs : List Rule} {ns : List Node} {sz : Nat → Nat} (hg : Right rs ns sz) (r : Rule) (hr : r ∈ rs) : (ruleT rs ns r).length ≤ 5400100 := by
  obtain ⟨n, hb, hn⟩ := hg.bodies r hr
  have h1 := node_len hg.good ns.length n 0 hn
  have h2 := hg.good.names r hr
  unfold ruleT
  rw [hb]
  simp only [List.length_append, List.length_cons, List.length_nil, ← bsize]
  omega
theorem take_text {rs : List Rule} {ns : List Node} {sz : Nat → Nat} (hg : Right rs ns sz) : ∀ i, i ≤ rs.length → ((rs.take i).flatMap (ruleT rs ns)).length ≤ i * 5400100
  | 0, _ => by simp
  | i + 1, h => by
    have ih := take_text hg i (by omega)
    have e : rs.take (i + 1) = rs.take i ++ [rs[i]] := by rw [List.take_add_one, List.getElem?_eq_getElem (by omega)]; rfl
    have h2 := ruleT_len hg rs[i] (List.getElem_mem _)
    rw [e, List.flatMap_append, List.length_append, Nat.add_mul]
    simp only [List.flatMap_cons, List.flatMap_nil, List.append_nil]
    omega
theorem take_step (rs : List Rule) (f : Rule → List UInt8) (i : Nat) (h : i < rs.length) : (rs.take (i + 1)).flatMap f = (rs.take i).flatMap f ++ f (rs.getD i default) := by
  have e : rs.take (i + 1) = rs.take i ++ [rs[i]] := by rw [List.take_add_one, List.getElem?_eq_getElem h]; rfl
  rw [e, List.flatMap_append, List.getD_eq_getElem?_getD, List.getElem?_eq_getElem h]; simp
set_option maxHeartbeats 4000000 in
theorem Text_right (rs : List Rule) (ns : List Node) (rv nv : Value) (sz : Nat → Nat) (w : World) (hr : RulesAt w rv rs) (hn : NodesAt w nv ns) (hf : Fine rs ns) (hR : rightB rs ns = true) (hT : TabAt 0 Lib.deBruijn64tab w) (hg : Right rs ns sz) (h1 : 0 < rs.length) (h32 : rs.length ≤ 32) :
    Calls Tryd.prog 6 #[.agg #[rv, nv]] w fun e w' => e = .returned (textR rs ns) ∧ Below w.heap.size w w' := by
  have hC := fun o => open_right rs ns rv nv (w.alloc o) (RulesAt.below (below_box w o) hr) (NodesAt.below (below_box w o) hn) hf hR w.heap.size (by simp)
  have hrule : ∀ (i : Nat), i < rs.length → ∀ (b : Nat) (l : List UInt8) (w' : World), Wt w rv nv b l w' → Below w.heap.size w w' → l.length ≤ 32 * 5400100 →
      Calls Tryd.prog 12 #[.pointer (some ⟨b, 0, none⟩), .agg #[.string (rs.getD i default).name, .int .i64 (rs.getD i default).body]] w' (Wrote w rv nv b l (ruleT rs ns (rs.getD i default)) w') := by
    intro i hi b l w' hB' hb' hl
    have hmem : rs.getD i default ∈ rs := by rw [List.getD_eq_getElem?_getD, List.getElem?_eq_getElem hi]; exact List.getElem_mem _
    obtain ⟨n, hbody, hnl⟩ := hg.bodies _ hmem
    exact rule_calls (w0 := w) (b := b) (rv := rv) (nv := nv) (l := l) ⟨hr, hn, hT⟩ hg.good (rs.getD i default) n hbody hnl (hg.good.names _ hmem) w' hb' hB' (by omega)
  have htk := fun i (hi : i < rs.length) => Nat.le_trans (take_text hg i (by omega)) (Nat.mul_le_mul_right 5400100 (show i ≤ 32 by omega))
  have htk2 := take_text hg rs.length (Nat.le_refl _)
  rw [List.take_length] at htk2
  have hne : textG rs ns ≠ [] := by
    unfold textG
    cases rs with
    | nil => simp at h1
    | cons r rs => simp [ruleT]
  have Hne := Lib.hid hne
  have Hrule := Lib.hid hrule
  have Htk := Lib.hid htk
  obtain ⟨ra, rc, rfl, _, _, hrr⟩ := id hr
  obtain ⟨na, nc, rfl, _⟩ := id hn
  clear hne hrule htk hn hf hR hg hr
  obtain ⟨o, ho⟩ : ∃ o, Obj.cells #[.slice ra rs.length rc, .slice na ns.length nc] 25 = o := ⟨_, rfl⟩
  have hwo := (MapKept.heap_alloc w o).1.trans (congrArg some ho.symm)
  have c1 : (w.alloc o).cell? ⟨w.heap.size, 0, none⟩ = some (.slice ra rs.length rc) := cell_blk hwo rfl
  have c2 : (w.alloc o).cell? ⟨w.heap.size, 1, none⟩ = some (.slice na ns.length nc) := cell_blk hwo rfl
  go_enter Tryd.func6, Tryd.ntmps6
  go_wp2_with (go_at_call 11; refine (hC _).mono ?_; rintro e w1 ⟨b, rfl, hB1, hb1⟩; have hb2 := below_chain (below_box w _) hb1; have k1 := cell_below hb1 c1)
  generalize hm : rs.length = m at *
  go_loopw [19] (fun s19 wr => ∃ i : Nat, i ≤ m ∧ s19 = .int .i64 i ∧ Bld 54 [.slice ra m rc, .slice na ns.length nc] w.heap.size b ((rs.take i).flatMap (ruleT rs ns)) wr ∧ Below w.heap.size w wr) (fun s19 _ => m - (intOf s19).toNat)
  case atStart => exact ⟨0, by omega, rfl, by simpa using hB1, hb2⟩
  case round =>
    obtain ⟨i, hi, rfl, hBi, hbi⟩ := hrel
    by_cases him : i < m
    · obtain ⟨rb, ro, rfl, hR0, hR1⟩ := hrr i him
      have q0 := cell_below hbi hR0
      have q1 := cell_below hbi hR1
      have hiz : (i : Int) < (m : Int) := by omega
      have hst := Lib.hid (take_step rs (ruleT rs ns) i (by omega))
      have hru := fun o' => Hrule.out i him b _ (wr.alloc o') (hBi.later (below_box wr o')) (hbi.alloc hBi.2.1 _) (Htk.out i him)
      generalize rs.getD i default = r at *
      go_wp2_with (go_at_call 12; refine (hru _).mono ?_; rintro e w3 ⟨rfl, hB3, hK3⟩)
      refine ⟨⟨i + 1, by omega, by simp, by rw [hst.out]; exact hB3, (hbi.alloc hBi.2.1 _).trans hK3.below⟩, by simp [intOf]; omega⟩
    · obtain rfl : i = m := by omega
      have e : rs.take i = rs := List.take_of_length_le (by omega)
      rw [e] at hBi
      have hTe : rs.flatMap (ruleT rs ns) = textG rs ns := rfl
      rw [hTe] at hBi htk2
      have hl47 : (textG rs ns).length ≤ 140737488355328 := by omega
      have hLen := Len_calls wr hBi hl47
      have hStr := String_calls wr hBi Hne.out
      by_cases h16 : (textG rs ns).length ≤ 16384
      · have hx : textR rs ns = .tuple #[.string ⟨(textG rs ns).toArray⟩, .int .i64 0] := if_pos h16
        have Hx := Lib.hid hx
        clear hx
        have hz : ¬ (16384 : Int) < ((textG rs ns).length : Int) := by omega
        go_wp2_with (first
          | (go_at_call 13; refine hLen.mono ?_; rintro e w3 ⟨rfl, rfl⟩)
          | (go_at_call 14; refine hStr.mono ?_; rintro e w3 ⟨rfl, hb4⟩))
        go_ret2
        exact ⟨by rw [Hx.out]; rfl, hbi.trans hb4⟩
      · have hx : textR rs ns = .tuple #[.string ⟨#[]⟩, .int .i64 3] := if_neg h16
        have Hx := Lib.hid hx
        clear hx
        have hz : (16384 : Int) < ((textG rs ns).length : Int) := by omega
        go_wp2_with (first
          | (go_at_call 13; refine hLen.mono ?_; rintro e w3 ⟨rfl, rfl⟩))
        go_ret2
        exact ⟨by rw [Hx.out]; rfl, hbi⟩
end Go.Proofs.YtljoajjbhjdonaaDoor
