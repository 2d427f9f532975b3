/- ShowUnlike: the walk: it answers true, and only makes memory. Conditions: the two grammars lie in memory, their sizes are within the form's reach, the deBruijn table is there. -/
import Derived.Test.YtljoajjbhjdonaaDoorLaw3
namespace Go.Proofs.YtljoajjbhjdonaaDoor
open Go.RowKit Go.Shelf
set_option maxRecDepth 100000

theorem rule_bad {rs : List Rule} {ns : List Node} {i : Int} (h : rE rs ns i ≠ 0) : rS rs ns i = ⟨#[]⟩ ∧ rE rs ns i = if rightB rs ns = true then 6 else 4 := by
  unfold rE at h
  unfold rS rE
  split at h
  · rename_i hR
    split at h
    · exact absurd rfl h
    · rename_i hi
      rw [if_neg (fun e => hi e.2), if_pos hR, if_neg hi, if_pos hR]
      exact ⟨rfl, rfl⟩
  · rename_i hR
    rw [if_neg (fun e => hR e.1), if_neg hR, if_neg hR]
    exact ⟨rfl, rfl⟩
theorem rule_good {rs : List Rule} {ns : List Node} {i : Int} (h : rE rs ns i = 0) : rightB rs ns = true ∧ 0 ≤ i ∧ i < (rs.length : Int) ∧ rS rs ns i = ⟨(ruleT rs ns (rs.getD i.toNat default)).toArray⟩ := by
  unfold rE at h
  unfold rS
  split at h
  · rename_i hR
    split at h
    · rename_i hi
      rw [if_pos ⟨hR, hi⟩]
      exact ⟨hR, hi.1, hi.2, rfl⟩
    · cases h
  · cases h
/-- What there is where Rule answers a text: the rule's name and body, and what Node answers of it. -/
theorem node_pack {rs : List Rule} {ns : List Node} {ra : Option Addr} {rc : Nat} {nv : Value} {i : Int} {w : World} (hr : RulesAt w (.slice ra rs.length rc) rs) (hn : NodesAt w nv ns) (hf : Fine rs ns) (hw : ∀ x ∈ ns, Wd x) (hT : TabAt 0 Lib.deBruijn64tab w) (h : rE rs ns i = 0) :
    ∃ (j : Nat) (nm : ByteArray) (n : Nat) (t : List UInt8) (rb ro : Nat), i = (j : Int) ∧ j < rs.length ∧ ra = some ⟨rb, ro, none⟩ ∧ w.cell? ⟨rb, ro + j * 2, none⟩ = some (.string nm) ∧ w.cell? ⟨rb, ro + j * 2 + 1, none⟩ = some (.int .i64 (n : Int)) ∧
      rS rs ns i = ⟨(nm.data.toList ++ [32, 60, 45, 32] ++ (t ++ [59, 10])).toArray⟩ ∧ nm.size ≤ 32 ∧ t.length ≤ 5400000 ∧
      ∀ W, Below w.heap.size w W → Calls Tryd.prog 10 #[.agg #[.slice ra rs.length rc, nv], .int .i64 (n : Int)] W fun e w' => e = .returned (.tuple #[.string ⟨t.toArray⟩, .int .i64 0]) ∧ Below W.heap.size W w' := by
  obtain ⟨hR, h0, h1, hS⟩ := rule_good h
  obtain ⟨j, rfl⟩ : ∃ j : Nat, i = (j : Int) := ⟨i.toNat, by omega⟩
  have hj : j < rs.length := by omega
  obtain ⟨l, hl⟩ : ∃ l, wholeL rs ns = some l := Option.isSome_iff_exists.1 hR
  obtain ⟨hg, _, _⟩ := right_of hl hw
  have hmem : rs.getD j default ∈ rs := by rw [List.getD_eq_getElem?_getD, List.getElem?_eq_getElem hj]; exact List.getElem_mem _
  obtain ⟨n, hb, hnl⟩ := hg.bodies _ hmem
  have hlen := node_len hg.good ns.length n 0 hnl
  have hname := hg.good.names _ hmem
  have hN := fun W (hb : Below w.heap.size w W) => Node_right rs ns _ nv _ W (RulesAt.below hb hr) (NodesAt.below hb hn) hf hR (TabAt.later hT hb) hg n hnl
  obtain ⟨ra', rc', e, _, _, hrr⟩ := hr
  cases e
  obtain ⟨rb, ro, rfl, hR0, hR1⟩ := hrr j hj
  have e : ((j : Int)).toNat = j := by simp
  rw [e] at hS
  refine ⟨j, _, n, _, rb, ro, rfl, hj, rfl, hR0, by rw [hR1, hb], ?_, hname, hlen, hN⟩
  rw [hS]
  unfold ruleT
  rw [hb]
theorem eqB_toList (s t : ByteArray) : eqB s t = (s.toList == t.toList) := by
  rw [Bool.eq_iff_iff, eqB_iff, beq_iff_eq, bytes_toList]
/-- The call's two boxes, in a later world. -/
structure LawW (w W : World) (a b a' b' : Value) : Prop where
  below : Below w.heap.size w W
  c1 : W.cell? ⟨w.heap.size, 0, none⟩ = some a
  c2 : W.cell? ⟨w.heap.size, 1, none⟩ = some b
  c3 : W.cell? ⟨w.heap.size + 1, 0, none⟩ = some a'
  c4 : W.cell? ⟨w.heap.size + 1, 1, none⟩ = some b'
theorem LawW.later {w W W' : World} {a b a' b' : Value} (h : LawW w W a b a' b') (hb : Below W.heap.size W W') : LawW w W' a b a' b' :=
  ⟨below_chain h.below hb, cell_below hb h.c1, cell_below hb h.c2, cell_below hb h.c3, cell_below hb h.c4⟩
theorem LawW.drew {w W : World} {a b a' b' : Value} (h : LawW w W a b a' b') : LawW w W.drew a b a' b' := ⟨h.below.drew, h.c1, h.c2, h.c3, h.c4⟩
set_option maxHeartbeats 4000000 in
theorem law_calls (rs rs' : List Rule) (ns ns' : List Node) (rv nv rv' nv' : Value) (i : Int) (w : World) (hr : RulesAt w rv rs) (hn : NodesAt w nv ns) (hf : Fine rs ns) (hw : ∀ x ∈ ns, Wd x)
    (hr' : RulesAt w rv' rs') (hn' : NodesAt w nv' ns') (hf' : Fine rs' ns') (hw' : ∀ x ∈ ns', Wd x) (hT : TabAt 0 Lib.deBruijn64tab w) :
    Calls Tryd.prog 3 #[.agg #[rv, nv], .agg #[rv', nv'], .int .i64 i] w fun e w' => e = .returned (.bool true) ∧ Below w.heap.size w w' := by
  have HA := Lib.hid fun W (hb : Below w.heap.size w W) => awake_calls W (TabAt.later hT hb)
  have HS := Lib.hid fun W (hb : Below w.heap.size w W) => size_calls rs ns rv nv W (RulesAt.below hb hr) (NodesAt.below hb hn)
  have HS' := Lib.hid fun W (hb : Below w.heap.size w W) => size_calls rs' ns' rv' nv' W (RulesAt.below hb hr') (NodesAt.below hb hn')
  have HT := Lib.hid fun W (hb : Below w.heap.size w W) => Text_any rs ns rv nv W (RulesAt.below hb hr) (NodesAt.below hb hn) hf hw (TabAt.later hT hb)
  have HT' := Lib.hid fun W (hb : Below w.heap.size w W) => Text_any rs' ns' rv' nv' W (RulesAt.below hb hr') (NodesAt.below hb hn') hf' hw' (TabAt.later hT hb)
  have HM := Lib.hid fun W (hb : Below w.heap.size w W) => Same_calls rs rs' ns ns' rv nv rv' nv' W (RulesAt.below hb hr) (NodesAt.below hb hn) (RulesAt.below hb hr') (NodesAt.below hb hn')
  have HR := Lib.hid fun W (hb : Below w.heap.size w W) => Rule_any rs ns rv nv i W (RulesAt.below hb hr) (NodesAt.below hb hn) hf hw (TabAt.later hT hb)
  have HG := Lib.hid fun W (hb : Below w.heap.size w W) => Right_calls rs ns rv nv W (RulesAt.below hb hr) (NodesAt.below hb hn) hf
  have hL : LawW w ((w.alloc (.cells #[rv, nv] 25)).alloc (.cells #[rv', nv'] 25)) rv nv rv' nv' := by
    have h0 := (MapKept.heap_alloc w (.cells #[rv, nv] 25)).1
    have h1 := heap_two w (.cells #[rv, nv] 25) (.cells #[rv', nv'] 25)
    have hb := below_box (w.alloc (.cells #[rv, nv] 25)) (.cells #[rv', nv'] 25)
    exact ⟨below_box2 _ _ _, cell_below hb (cell_blk h0 rfl), cell_below hb (cell_blk h0 rfl), cell_blk h1 rfl, cell_blk h1 rfl⟩
  obtain ⟨ra, rc, rfl, _⟩ := id hr
  obtain ⟨na, nc, rfl, _⟩ := id hn
  obtain ⟨ra', rc', rfl, _⟩ := id hr'
  obtain ⟨na', nc', rfl, _⟩ := id hn'
  have HX := Lib.hid fun (h : tE rs ns = 0) (h' : tE rs' ns' = 0) => text_same hw hw' h h'
  obtain ⟨s, hs⟩ : ∃ x, tS rs ns = x := ⟨_, rfl⟩
  obtain ⟨s', hs'⟩ : ∃ x, tS rs' ns' = x := ⟨_, rfl⟩
  obtain ⟨d, hd⟩ : ∃ x, tE rs ns = x := ⟨_, rfl⟩
  obtain ⟨d', hd'⟩ : ∃ x, tE rs' ns' = x := ⟨_, rfl⟩
  obtain ⟨r, hrs⟩ : ∃ x, rS rs ns i = x := ⟨_, rfl⟩
  obtain ⟨q, hrq⟩ : ∃ x, rE rs ns i = x := ⟨_, rfl⟩
  rw [hs, hd] at HT
  rw [hs', hd'] at HT'
  rw [hs, hs', hd, hd'] at HX
  rw [hrs, hrq] at HR
  have HN := Lib.hid fun (h : rE rs ns i = 0) => node_pack hr hn hf hw hT h
  have Hr := Lib.hid (And.intro hrs hrq)
  clear hs hs' hd hd' hrs hrq hf hw hf' hw' hn hn' hr hr' hT
  generalize rs.length = m at *
  go_enter Tryd.func3, Tryd.ntmps3
  go_wp2_with fail
  refine (HA.out _ hL.below).mono ?_
  rintro e w1 ⟨rfl, hb1⟩
  have hL1 := hL.later hb1
  obtain ⟨-, k1, k2, k3, k4⟩ := id hL1
  go_wp2_with fail
  refine (HS.out _ hL1.below).mono ?_
  rintro e w2 ⟨⟨k, rfl⟩, hb2⟩
  have hL2 := hL1.later hb2
  obtain ⟨-, k1, k2, k3, k4⟩ := id hL2
  by_cases hk : (k : Int) ≤ 300
  case neg =>
    have hk2 : (300 : Int) < k := by omega
    go_wp2
    go_ret
    exact ⟨rfl, hL2.below⟩
  case pos =>
  have hk2 : decide ((300 : Int) < k) = false := by simp; omega
  go_wp2_with fail
  refine (HS'.out _ hL2.below).mono ?_
  rintro e w3 ⟨⟨k', rfl⟩, hb3⟩
  have hL3 := hL2.later hb3
  obtain ⟨-, k1, k2, k3, k4⟩ := id hL3
  by_cases hk' : (k' : Int) ≤ 300
  case neg =>
    have hk2 : (300 : Int) < k' := by omega
    go_wp2
    go_ret
    exact ⟨rfl, hL3.below⟩
  case pos =>
  have hk2' : decide ((300 : Int) < k') = false := by simp; omega
  go_wp2_with fail
  refine (HT.out _ hL3.below).mono ?_
  rintro e w4 ⟨rfl, hb4⟩
  have hL4 := hL3.later hb4
  obtain ⟨-, k1, k2, k3, k4⟩ := id hL4
  go_wp2_with fail
  refine (HT'.out _ hL4.below).mono ?_
  rintro e w5 ⟨rfl, hb5⟩
  have hL5 := hL4.later hb5
  obtain ⟨-, k1, k2, k3, k4⟩ := id hL5
  go_wp2_with fail
  focus (
    obtain ⟨bb, hbb⟩ : ∃ x, (eqB rs rs' && eqB ns ns') = x := ⟨_, rfl⟩
    rw [hbb] at HX HM
    refine (HM.out _ hL5.below).mono ?_
    rintro e w5 ⟨rfl, hb5⟩
    have hL5 := hL5.later hb5
    obtain ⟨-, k1, k2, k3, k4⟩ := id hL5
    clear hbb
    have hx := HX.out (by assumption) (by assumption)
    rw [eqB_toList] at hx
    have hx2 : (!(s.toList == s'.toList) == bb) = false := by rw [hx]; cases bb <;> rfl
    clear hx
    go_wp2_with fail)
  all_goals (
    refine (HR.out _ hL5.below).mono ?_
    rintro e w6 ⟨rfl, hb6⟩
    have hL6 := hL5.later hb6
    obtain ⟨-, k1, k2, k3, k4⟩ := id hL6
    by_cases hq : q = 0
    · obtain ⟨h1, h2⟩ := Hr.out
      obtain ⟨j, nm, n, t, rb, ro, hij, hjm, hra, R0, R1, hS, hnm, ht, hNode⟩ := HN.out (h2.trans hq)
      obtain rfl : i = (j : Int) := hij
      obtain rfl : ra = some ⟨rb, ro, none⟩ := hra
      have hS2 := Lib.hid (h1.symm.trans hS)
      have HNode := Lib.hid hNode
      clear h1 h2 hS hNode
      have j0 : (0 : Int) ≤ (j : Int) := by omega
      have j1 : (j : Int) < (m : Int) := by omega
      have R0' := cell_below hL6.below R0
      have R1' := cell_below hL6.below R1
      have hnz : nm.size + 4 ≤ 9223372036854775807 := by omega
      have a1 := add_run nm ⟨#[32, 60, 45, 32]⟩ hnz
      have z0 : (⟨t.toArray⟩ : ByteArray).size = t.length := by rw [bsize]
      have z1 : (nm ++ ⟨#[32, 60, 45, 32]⟩ : ByteArray).size = nm.size + 4 := by rw [ByteArray.size_append]; rfl
      have z2 : (nm ++ ⟨#[32, 60, 45, 32]⟩ ++ ⟨t.toArray⟩ : ByteArray).size = nm.size + 4 + t.length := by rw [ByteArray.size_append, z1, z0]
      have a2 := add_run (nm ++ ⟨#[32, 60, 45, 32]⟩) ⟨t.toArray⟩ (by rw [z1, z0]; omega)
      have a3 := add_run (nm ++ ⟨#[32, 60, 45, 32]⟩ ++ ⟨t.toArray⟩) ⟨#[59, 10]⟩ (by rw [z2, show (⟨#[59, 10]⟩ : ByteArray).size = 2 by rfl]; omega)
      clear z0 z1 z2
      go_wp2_with fail
      go_region_held3 (fun w' => w'.cell? ⟨w.heap.size, 0, none⟩ = some (.slice (some ⟨rb, ro, none⟩) m rc) ∧ w'.cell? ⟨w.heap.size, 1, none⟩ = some (.slice na ns.length nc) ∧ w'.cell? ⟨rb, ro + j * 2 + 1, none⟩ = some (.int .i64 (n : Int))) (go_keep)
        ((go_at_call 10; refine (HNode.out _ hL6.below.drew).mono ?_; rintro e w7 ⟨rfl, hb7⟩; have hL7 := hL6.drew.later hb7; have R7 := cell_below hL7.below R0; have R8 := cell_below hL7.below R1; obtain ⟨-, k1, k2, k3, k4⟩ := id hL7))
      go_wp2
      go_ret
      refine ⟨ret_bool ?_, hL7.below⟩
      rw [beq_iff_eq, bytes_toList]
      refine hS2.out.trans (bytes_ext ?_)
      simp
    · obtain ⟨h1, h2⟩ := Hr.out
      obtain ⟨h3, h4⟩ := rule_bad (rs := rs) (ns := ns) (i := i) (by rw [h2]; exact hq)
      obtain rfl : r = ⟨#[]⟩ := h1.symm.trans h3
      rw [h2] at h4
      clear h1 h2 h3
      by_cases hR : rightB rs ns = true
      · rw [if_pos hR] at h4
        rw [hR] at HG
        subst h4
        clear hR hq Hr HN HR
        go_wp2_with fail
        refine (HG.out _ hL6.below).mono ?_
        rintro e w7 ⟨rfl, hb7⟩
        have hL7 := hL6.later hb7
        obtain ⟨-, k1, k2, k3, k4⟩ := id hL7
        go_wp2_with fail
        refine (HG.out _ hL7.below).mono ?_
        rintro e w8 ⟨rfl, hb8⟩
        have hL8 := hL7.later hb8
        go_wp2
        go_ret
        exact ⟨rfl, hL8.below⟩
      · have hR2 : rightB rs ns = false := by simpa using hR
        rw [if_neg hR] at h4
        rw [hR2] at HG
        subst h4
        clear hR hR2 hq Hr HN HR
        go_wp2_with fail
        refine (HG.out _ hL6.below).mono ?_
        rintro e w7 ⟨rfl, hb7⟩
        have hL7 := hL6.later hb7
        obtain ⟨-, k1, k2, k3, k4⟩ := id hL7
        go_wp2_with fail
        refine (HG.out _ hL7.below).mono ?_
        rintro e w8 ⟨rfl, hb8⟩
        have hL8 := hL7.later hb8
        go_wp2
        go_ret
        exact ⟨rfl, hL8.below⟩)
end Go.Proofs.YtljoajjbhjdonaaDoor
