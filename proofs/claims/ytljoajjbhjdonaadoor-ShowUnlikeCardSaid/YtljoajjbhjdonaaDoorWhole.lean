/- Package gram: whole and Right: whether a grammar is right, as a plain Bool function of its rules and nodes. No condition but on sizes. -/
import Derived.Test.YtljoajjbhjdonaaDoorGram3
import Derived.Test.YtljoajjbhjdonaaDoorIdx
import Derived.Test.YtljoajjbhjdonaaDoorName
namespace Go.Proofs.YtljoajjbhjdonaaDoor
open Go.RowKit
set_option maxRecDepth 100000

/-- The rules, one behind the other: where the next body has to stand. -/
def rl (all : List Rule) (l : List (Nat × Nat)) : List Rule → Nat → Nat → Option Nat
  | [], _, next => some next
  | r :: rest, k, next =>
    if nameB r.name = true ∧ idxZ (fun x => decide (x.name = r.name)) all = k ∧ r.body = next ∧ next < l.length ∧ (l.getD next (0, 0)).2 ≤ 16 then rl all l rest (k + 1) (next + (l.getD next (0, 0)).1) else none
def wholeL (rs : List Rule) (ns : List Node) : Option (List (Nat × Nat)) :=
  if rs.length = 0 ∨ 32 < rs.length ∨ 2048 < ns.length then none
  else if ns.any (fun x => !nodeB x rs.length) then none
  else match ofL 0 ns with
    | none => none
    | some l => if rl rs l rs 0 0 = some ns.length then some l else none

structure WT (w : World) (rv nv : Value) (wr : World) (bs bh n : Nat) : Prop where
  below : Below w.heap.size w wr
  g0 : wr.cell? ⟨w.heap.size, 0, none⟩ = some rv
  g1 : wr.cell? ⟨w.heap.size, 1, none⟩ = some nv
  t0 : wr.cell? ⟨w.heap.size + 1, 0, none⟩ = some (.slice (some ⟨bs, 0, none⟩) n n)
  t1 : wr.cell? ⟨w.heap.size + 1, 1, none⟩ = some (.slice (some ⟨bh, 0, none⟩) n n)
  tf0 : wr.frozen? ⟨w.heap.size + 1, 0, none⟩ = false
  tf1 : wr.frozen? ⟨w.heap.size + 1, 1, none⟩ = false
theorem WT.later {w : World} {rv nv : Value} {wr w1 : World} {bs bh n : Nat} (h : WT w rv nv wr bs bh n) (hb : Below wr.heap.size wr w1) : WT w rv nv w1 bs bh n :=
  ⟨h.below.trans (hb.mono h.below.size), cell_below hb h.g0, cell_below hb h.g1, cell_below hb h.t0, cell_below hb h.t1,
    (hb.frozen (p := ⟨w.heap.size + 1, 0, none⟩) (World.block_lt_of_cell? _ _ h.t0)).trans h.tf0, (hb.frozen (p := ⟨w.heap.size + 1, 1, none⟩) (World.block_lt_of_cell? _ _ h.t1)).trans h.tf1⟩
theorem addr_off {b o o' : Nat} (h : o ≠ o') : (⟨b, o, none⟩ : Addr) ≠ ⟨b, o', none⟩ := fun e => h (congrArg Addr.off e)
theorem addr_block {b b' o o' : Nat} (h : b ≠ b') : (⟨b, o, none⟩ : Addr) ≠ ⟨b', o', none⟩ := fun e => h (congrArg Addr.block e)
/-- The tree's variable is stored. -/
theorem wt_store {w w2 : World} {rv nv x0 x1 : Value} {bs bh n : Nat} (hb : Below w.heap.size w w2) (g0 : w2.cell? ⟨w.heap.size, 0, none⟩ = some rv) (g1 : w2.cell? ⟨w.heap.size, 1, none⟩ = some nv)
    (u0 : w2.cell? ⟨w.heap.size + 1, 0, none⟩ = some x0) (u1 : w2.cell? ⟨w.heap.size + 1, 1, none⟩ = some x1) (f0 : w2.frozen? ⟨w.heap.size + 1, 0, none⟩ = false) (f1 : w2.frozen? ⟨w.heap.size + 1, 1, none⟩ = false) :
    WT w rv nv ((w2.setCell ⟨w.heap.size + 1, 0, none⟩ (.slice (some ⟨bs, 0, none⟩) n n)).setCell ⟨w.heap.size + 1, 1, none⟩ (.slice (some ⟨bh, 0, none⟩) n n)) bs bh n := by
  refine ⟨(hb.setCell (by show w.heap.size ≤ w.heap.size + 1; omega) _).setCell (by show w.heap.size ≤ w.heap.size + 1; omega) _, ?_, ?_, ?_, ?_, ?_, ?_⟩
  · rw [World.cell?_setCell_other _ _ _ _ (addr_block (by omega)), World.cell?_setCell_other _ _ _ _ (addr_block (by omega))]; exact g0
  · rw [World.cell?_setCell_other _ _ _ _ (addr_block (by omega)), World.cell?_setCell_other _ _ _ _ (addr_block (by omega))]; exact g1
  · rw [World.cell?_setCell_other _ _ _ _ (addr_off (by omega))]; exact World.cell?_setCell_same _ _ _ u0
  · exact World.cell?_setCell_same _ _ _ (u := x1) (by rw [World.cell?_setCell_other _ _ _ _ (addr_off (by omega))]; exact u1)
  · rw [World.frozen?_setCell, World.frozen?_setCell]; exact f0
  · rw [World.frozen?_setCell, World.frozen?_setCell]; exact f1
theorem WT.again {w wr : World} {rv nv : Value} {bs bh n : Nat} (h : WT w rv nv wr bs bh n) : WT w rv nv ((wr.setCell ⟨w.heap.size + 1, 0, none⟩ (.slice (some ⟨bs, 0, none⟩) n n)).setCell ⟨w.heap.size + 1, 1, none⟩ (.slice (some ⟨bh, 0, none⟩) n n)) bs bh n :=
  wt_store h.below h.g0 h.g1 h.t0 h.t1 h.tf0 h.tf1
structure WR (w : World) (rv nv : Value) (wr : World) (bs bh n : Nat) (l : List (Nat × Nat)) : Prop where
  wt : WT w rv nv wr bs bh n
  rs : wr.rowIs bs 3 n (rowF (·.1) 0 l)
  rh : wr.rowIs bh 3 n (rowF (·.2) 0 l)
  lt1 : w.heap.size + 1 < bs
  lt2 : w.heap.size + 1 < bh
theorem WR.later {w : World} {rv nv : Value} {wr w1 : World} {bs bh n : Nat} {l : List (Nat × Nat)} (h : WR w rv nv wr bs bh n l) (hb : Below wr.heap.size wr w1) : WR w rv nv w1 bs bh n l :=
  ⟨h.wt.later hb, h.rs.of_block (hb.block _ h.rs.lt), h.rh.of_block (hb.block _ h.rh.lt), h.lt1, h.lt2⟩
theorem WR.again {w : World} {rv nv : Value} {wr : World} {bs bh n : Nat} {l : List (Nat × Nat)} (h : WR w rv nv wr bs bh n l) : WR w rv nv ((wr.setCell ⟨w.heap.size + 1, 0, none⟩ (.slice (some ⟨bs, 0, none⟩) n n)).setCell ⟨w.heap.size + 1, 1, none⟩ (.slice (some ⟨bh, 0, none⟩) n n)) bs bh n l := by
  have h1 := h.lt1
  have h2 := h.lt2
  exact ⟨h.wt.again, (h.rs.setOther (by show bs ≠ w.heap.size + 1; omega) _).setOther (by show bs ≠ w.heap.size + 1; omega) _, (h.rh.setOther (by show bh ≠ w.heap.size + 1; omega) _).setOther (by show bh ≠ w.heap.size + 1; omega) _, h1, h2⟩
def WholePost (rs : List Rule) (ns : List Node) (w : World) (e : Ending) (w' : World) : Prop :=
  Below w.heap.size w w' ∧ ((wholeL rs ns = none ∧ ∃ a n c a' n' c', e = .returned (.tuple #[.agg #[.slice a n c, .slice a' n' c'], .bool false])) ∨
    ∃ l bs bh, wholeL rs ns = some l ∧ e = .returned (.tuple #[.agg #[.slice (some ⟨bs, 0, none⟩) ns.length ns.length, .slice (some ⟨bh, 0, none⟩) ns.length ns.length], .bool true]) ∧
      w'.rowIs bs 3 ns.length (rowF (·.1) 0 l) ∧ w'.rowIs bh 3 ns.length (rowF (·.2) 0 l))

set_option maxHeartbeats 4000000 in
theorem whole_short (rn nn : Nat) (ra na : Option Addr) (rc nc : Nat) (w : World) (hr : rn ≤ 140737488355328) (hn : nn ≤ 140737488355328) (h : rn = 0 ∨ 32 < rn ∨ 2048 < nn) :
    Calls Tryd.prog 18 #[.agg #[.slice ra rn rc, .slice na nn nc]] w fun e w' => e = .returned (.tuple #[.agg #[.slice none 0 0, .slice none 0 0], .bool false]) ∧ Below w.heap.size w w' := by
  go_enter Tryd.func18, Tryd.ntmps18
  go_wp2
  all_goals first
    | (exfalso; omega)
    | exact bodyPost_ret (v := .tuple #[.agg #[.slice none 0 0, .slice none 0 0], .bool false]) (by simp [results, Tryd.results18, go_sem]) rfl ⟨rfl, below_box2 _ _ _⟩
theorem of_none (xs : List Node) (n : Nat) (hl : xs.length = n) (v : Value) (w : World) (hv : NodesAt w v xs) (hn : xs.length ≤ 2048) (h : ofL 0 xs = none) :
    Calls Tryd.prog 26 #[v] w fun e w' => ∃ bs bh, e = .returned (.tuple #[.agg #[.slice (some ⟨bs, 0, none⟩) n n, .slice (some ⟨bh, 0, none⟩) n n], .bool false]) ∧ Below w.heap.size w w' := by
  subst hl
  refine (of_calls xs v w hv hn).mono ?_
  rintro e w' ⟨bs, bh, f, g, hO, rfl, _⟩
  rw [h]
  exact ⟨bs, bh, rfl, hO.below⟩
theorem of_some (xs : List Node) (n : Nat) (hl : xs.length = n) (v : Value) (w : World) (hv : NodesAt w v xs) (hn : xs.length ≤ 2048) (l : List (Nat × Nat)) (h : ofL 0 xs = some l) :
    Calls Tryd.prog 26 #[v] w fun e w' => ∃ bs bh, e = .returned (.tuple #[.agg #[.slice (some ⟨bs, 0, none⟩) n n, .slice (some ⟨bh, 0, none⟩) n n], .bool true]) ∧ Below w.heap.size w w' ∧
      w.heap.size < bs ∧ w.heap.size < bh ∧ w'.rowIs bs 3 n (rowF (·.1) 0 l) ∧ w'.rowIs bh 3 n (rowF (·.2) 0 l) := by
  subst hl
  refine (of_calls xs v w hv hn).mono ?_
  rintro e w' ⟨bs, bh, f, g, hO, rfl, hfg⟩
  obtain ⟨rfl, rfl⟩ := hfg l h
  rw [h]
  exact ⟨bs, bh, rfl, hO.below, hO.lt1, hO.lt2, hO.rs, hO.rh⟩
theorem makeFunc_run {P : Program} : ∀ (fn : Fn) (first cap : Array Value) (w : World), (Instr.makeFunc fn first cap).run P w = .ok (.func fn first cap) w := fun _ _ _ _ => rfl
set_option maxHeartbeats 4000000 in
theorem whole_main (rs : List Rule) (ns : List Node) (rv nv : Value) (w : World) (hr : RulesAt w rv rs) (hn : NodesAt w nv ns) (hl : ∀ x ∈ ns, x.text.size ≤ 140737488355328) (hl2 : ∀ r ∈ rs, r.name.size ≤ 140737488355328) (h1 : ¬ rs.length = 0) (h2 : rs.length ≤ 32) (h3 : ns.length ≤ 2048) :
    Calls Tryd.prog 18 #[.agg #[rv, nv]] w (WholePost rs ns w) := by
  have hmf := @makeFunc_run Tryd.prog
  have hnot : ∀ (x : Bool) (w : World), (Op.unary .not (.bool x)).run Tryd.prog w = .ok (.bool (!x)) w := fun _ _ => rfl
  have hn2 : ∀ o o', NodesAt ((w.alloc o).alloc o') nv ns := fun o o' => NodesAt.below (below_box2 w o o') hn
  obtain ⟨ra, rc, rfl, hrc1, hrc2, hrcells⟩ := id hr
  obtain ⟨na, nc, rfl, hnc1, hnc2, hncells⟩ := id hn
  have hz1 : (((rs.length : Nat) : Int) == 0) = false := beq_eq_false_iff_ne.2 (by omega)
  have hz2 : ((rs.length : Nat) : Int) ≤ 32 := by omega
  have hz3 : ((ns.length : Nat) : Int) ≤ 2048 := by omega
  have hC := fun W hW hB => ContainsFunc_node ns (.slice na ns.length nc) ra rs.length rc w.heap.size W hW hl hB
  generalize hA : (ns.any fun x => !nodeB x rs.length) = A at hC
  have HA := Lib.hid hA
  generalize hrn : rs.length = rn at *
  generalize hnn : ns.length = nn at *
  have Hrn := Lib.hid hrn
  have Hnn := Lib.hid hnn
  clear hA hrn hnn
  cases A with
  | true =>
    go_enter Tryd.func18, Tryd.ntmps18
    go_wp2_with (go_at_call 23; refine (hC _ (hn2 _ _) (by simp)).mono ?_; rintro e w1 ⟨rfl, hb1⟩; obtain ⟨hc1, hf1⟩ := bcell hb1)
    refine bodyPost_ret (v := .tuple #[.agg #[.slice none 0 0, .slice none 0 0], .bool false]) ?_ rfl ⟨?_, .inl ⟨?_, _, _, _, _, _, _, rfl⟩⟩
    · simp [results, Tryd.results18, go_sem, hc1]
    · exact ((below_chain (below_box2 _ _ _) hb1).setCell (p := ⟨w.heap.size + 1, 0, none⟩) (by show w.heap.size ≤ w.heap.size + 1; omega) _).setCell (p := ⟨w.heap.size + 1, 1, none⟩) (by show w.heap.size ≤ w.heap.size + 1; omega) _
    · unfold wholeL; rw [if_neg (by rw [Hrn.out, Hnn.out]; omega), Hrn.out, if_pos HA.out]
  | false =>
    have hsub : ∀ w1 o o', Below ((w.alloc o).alloc o').heap.size ((w.alloc o).alloc o') w1 → NodesAt w1 (.slice na nn nc) ns := fun w1 o o' hb => NodesAt.below hb (hn2 o o')
    have hns : ns.length ≤ 2048 := by have := Hnn.out; omega
    rcases hof : ofL 0 ns with _ | l
    · have hO := fun W hW => of_none ns nn Hnn.out (.slice na nn nc) W hW hns hof
      have hw : wholeL rs ns = none := by unfold wholeL; rw [if_neg (by rw [Hrn.out, Hnn.out]; omega), Hrn.out, if_neg (by rw [HA.out]; simp), hof]
      have HW := Lib.hid hw
      clear hof hns hw
      go_enter Tryd.func18, Tryd.ntmps18
      go_wp2_with (first | (go_at_call 23; refine (hC _ (hn2 _ _) (by simp)).mono ?_; rintro e w1 ⟨rfl, hb1⟩; have hz1 : w.heap.size + 1 < w1.heap.size := (by have := hb1.size; simp at this; omega); have hz0 : w.heap.size < w1.heap.size := (by omega); obtain ⟨hc1, hf1⟩ := bcell hb1) | (go_at_call 26; refine (hO _ (hsub _ _ _ (by assumption))).mono ?_; rintro e w2 ⟨bs, bh, rfl, hb2⟩; obtain ⟨hc2, hf2⟩ := bcell hb2))
      have hwt : WT w (.slice ra rn rc) (.slice na nn nc) ((w2.setCell ⟨w.heap.size + 1, 0, none⟩ (.slice (some ⟨bs, 0, none⟩) nn nn)).setCell ⟨w.heap.size + 1, 1, none⟩ (.slice (some ⟨bh, 0, none⟩) nn nn)) bs bh nn :=
        wt_store (below_chain (below_chain (below_box2 _ _ _) hb1) hb2) (cell_below hb2 (cell_below hb1 (by simp))) (cell_below hb2 (cell_below hb1 (by simp))) (cell_below hb2 (cell_below hb1 (v := .slice none 0 0) (by simp))) (cell_below hb2 (cell_below hb1 (v := .slice none 0 0) (by simp)))
          ((hf2 _ _ hz1).trans ((hf1 _ _ (by simp)).trans (by simp))) ((hf2 _ _ hz1).trans ((hf1 _ _ (by simp)).trans (by simp)))
      have hr0 : 0 < rs.length := by have := Hrn.out; omega
      clear hc1 hf1 hc2 hf2 hb1 hb2 hz0 hz1 hC hO
      go_loopg [3, 4, 38] 1 (fun g s3 s4 s38 wr => g = 1 ∧ s3 = .bool false ∧ s38 = .int .i64 0 ∧ WT w (.slice ra rn rc) (.slice na nn nc) wr bs bh nn)
      case atStart => exact ⟨rfl, rfl, rfl, hwt⟩
      case round =>
        obtain ⟨rfl, rfl, rfl, hw1⟩ := hrel
        clear hwt
        obtain ⟨b, o, rfl, hR⟩ := hrcells 0 (by have := Hrn.out; omega)
        generalize rs.getD 0 default = r at hR
        obtain ⟨r0, r1⟩ := RuleAt.below hw1.below hR
        have t0 := hw1.t0
        have t1 := hw1.t1
        have tf0 := hw1.tf0
        have tf1 := hw1.tf1
        have hs1 : w.heap.size + 1 < wr.heap.size := World.block_lt_of_cell? _ _ t0
        have hs0 : w.heap.size < wr.heap.size := by omega
        have hrz : (0 : Int) < (rn : Int) := by have := Hrn.out; omega
        simp only [Nat.zero_mul, Nat.add_zero] at r0 r1
        clear hR hr0
        go_wp2
        have hw2 := hw1.again.later (below_box _ (.cells #[.string r.name, .int .i64 r.body] 35))
        refine bodyPost_ret (v := .tuple #[.agg #[.slice (some ⟨bs, 0, none⟩) nn nn, .slice (some ⟨bh, 0, none⟩) nn nn], .bool false]) ?_ rfl ⟨?_, .inl ⟨HW.out, _, _, _, _, _, _, rfl⟩⟩
        · simp [results, Tryd.results18, go_sem, hw2.t0, hw2.t1]
        · exact hw2.below
    · have hO := fun W hW => of_some ns nn Hnn.out (.slice na nn nc) W hW hns l hof
      have hok := ofL_ok hof
      have Hll := Lib.hid (show l.length = nn by rw [hok.1]; exact Hnn.out)
      have Hok := Lib.hid hok.2
      have hw : wholeL rs ns = if rl rs l rs 0 0 = some nn then some l else none := by
        unfold wholeL; rw [if_neg (by rw [Hrn.out, Hnn.out]; omega), Hrn.out, if_neg (by rw [HA.out]; simp), hof, Hnn.out]
      have HW := Lib.hid hw
      clear hof hns hw hok
      go_enter Tryd.func18, Tryd.ntmps18
      go_wp2_with (first | (go_at_call 23; refine (hC _ (hn2 _ _) (by simp)).mono ?_; rintro e w1 ⟨rfl, hb1⟩; have hz1 : w.heap.size + 1 < w1.heap.size := (by have := hb1.size; simp at this; omega); have hz0 : w.heap.size < w1.heap.size := (by omega); obtain ⟨hc1, hf1⟩ := bcell hb1) | (go_at_call 26; refine (hO _ (hsub _ _ _ (by assumption))).mono ?_; rintro e w2 ⟨bs, bh, rfl, hb2, hl1, hl2, hrow1, hrow2⟩; obtain ⟨hc2, hf2⟩ := bcell hb2))
      have hwt : WR w (.slice ra rn rc) (.slice na nn nc) ((w2.setCell ⟨w.heap.size + 1, 0, none⟩ (.slice (some ⟨bs, 0, none⟩) nn nn)).setCell ⟨w.heap.size + 1, 1, none⟩ (.slice (some ⟨bh, 0, none⟩) nn nn)) bs bh nn l :=
        ⟨wt_store (below_chain (below_chain (below_box2 _ _ _) hb1) hb2) (cell_below hb2 (cell_below hb1 (by simp))) (cell_below hb2 (cell_below hb1 (by simp))) (cell_below hb2 (cell_below hb1 (v := .slice none 0 0) (by simp))) (cell_below hb2 (cell_below hb1 (v := .slice none 0 0) (by simp)))
          ((hf2 _ _ hz1).trans ((hf1 _ _ (by simp)).trans (by simp))) ((hf2 _ _ hz1).trans ((hf1 _ _ (by simp)).trans (by simp))),
          (hrow1.setOther (by show bs ≠ w.heap.size + 1; omega) _).setOther (by show bs ≠ w.heap.size + 1; omega) _, (hrow2.setOther (by show bh ≠ w.heap.size + 1; omega) _).setOther (by show bh ≠ w.heap.size + 1; omega) _, by omega, by omega⟩
      clear hc1 hf1 hc2 hf2 hb1 hb2 hz0 hz1 hC hO hrow1 hrow2 hl1 hl2 hsub
      go_loopg [3, 4, 38] rn (fun g s3 s4 s38 wr => ∃ k next : Nat, g = rn - k ∧ k ≤ rn ∧ next ≤ nn ∧ s3 = .bool true ∧ s4 = .int .i64 next ∧ s38 = .int .i64 k ∧ Aside (rl rs l (rs.drop k) k next = rl rs l rs 0 0) ∧ WR w (.slice ra rn rc) (.slice na nn nc) wr bs bh nn l)
      case atStart => exact ⟨0, 0, by omega, by omega, by omega, rfl, rfl, rfl, show _ = _ by simp, hwt⟩
      case round =>
        obtain ⟨k, next, rfl, hk, hnx, rfl, rfl, rfl, Ak, hw1⟩ := hrel
        clear hwt
        by_cases hkr : k < rn
        · obtain ⟨b, o, rfl, hR⟩ := hrcells k (by have := Hrn.out; omega)
          have hRW : ∀ W, Below w.heap.size w W → RulesAt W (.slice (some ⟨b, o, none⟩) rn rc) rs := fun W hW => RulesAt.below hW hr
          generalize hx : rs.getD k default = r at hR
          have hrsz : r.name.size ≤ 140737488355328 := hl2 r (by rw [← hx]; simp [List.getD, Hrn.out, hkr])
          have Hx := Lib.hid hx
          obtain ⟨r0, r1⟩ := RuleAt.below hw1.wt.below hR
          have hwA := hw1.later (below_box wr (.cells #[.string r.name, .int .i64 r.body] 35))
          have hfail : ¬ (nameB r.name = true ∧ idxZ (fun x => decide (x.name = r.name)) rs = k ∧ r.body = next ∧ next < l.length ∧ (l.getD next (0, 0)).2 ≤ 16) → wholeL rs ns = none := fun hc => by
            rw [HW.out, ← Ak.out, List.drop_eq_getElem_cons (by rw [Hrn.out]; exact hkr)]
            have : rs[k]'(by rw [Hrn.out]; exact hkr) = r := by rw [← hx]; simp [List.getD, Hrn.out, hkr]
            rw [this, rl, if_neg hc]; rfl
          have Hfail := Lib.hid hfail
          clear hR hx hfail
          have g0 := hwA.wt.g0
          have hs := World.block_lt_of_cell? _ _ hw1.wt.t0
          by_cases hl : next < nn
          · have hlz : (next : Int) < (nn : Int) := by omega
            have hhv : ∀ W, WR w (.slice (some ⟨b, o, none⟩) rn rc) (.slice na nn nc) W bs bh nn l → W.cell? ⟨bs, next, none⟩ = some (.int .i64 (((l.getD next (0, 0)).1 : Nat) : Int)) ∧ W.cell? ⟨bh, next, none⟩ = some (.int .i64 (((l.getD next (0, 0)).2 : Nat) : Int)) := fun W hW =>
              ⟨by rw [hW.rs.cell hl]; simp [rowF], by rw [hW.rh.cell hl]; simp [rowF]⟩
            have hbd := Hok.out next (by rw [Hll.out]; exact hl)
            rw [Hll.out] at hbd
            have hstep : (nameB r.name = true ∧ idxZ (fun x => decide (x.name = r.name)) rs = k ∧ r.body = next ∧ next < l.length ∧ (l.getD next (0, 0)).2 ≤ 16) → rl rs l (rs.drop k) k next = rl rs l (rs.drop (k + 1)) (k + 1) (next + (l.getD next (0, 0)).1) := fun hc => by
              rw [List.drop_eq_getElem_cons (by rw [Hrn.out]; exact hkr)]
              have : rs[k]'(by rw [Hrn.out]; exact hkr) = r := by rw [← Hx.out]; simp [List.getD, Hrn.out, hkr]
              rw [this, rl, if_pos hc]
            have Hstep := Lib.hid hstep
            clear hstep
            generalize (l.getD next (0, 0)).1 = s1 at *
            generalize (l.getD next (0, 0)).2 = s2 at *
            have hs1 : next + s1 ≤ nn := hbd.2.1
            have hs2 : s2 ≤ nn := hbd.2.2
            clear hbd
            go_wp2_with (first | (go_at_call 27; refine (Name_calls r.name hrsz _).mono ?_; rintro e w3 ⟨rfl, hb3⟩; have hw3 := hwA.later hb3; have q0 := hw3.wt.g0; have q1 := hw3.wt.g1; have u0 := hw3.wt.t0; have u1 := hw3.wt.t1; have v0 := hw3.wt.tf0; have v1 := hw3.wt.tf1; have p0 := cell_below hb3 (a := ⟨wr.heap.size, 0, none⟩) (v := .string r.name) (by simp); have p1 := cell_below hb3 (a := ⟨wr.heap.size, 1, none⟩) (v := .int .i64 r.body) (by simp)) | (go_at_call 28; refine (Rule_calls rs _ _ r.name _ (hRW _ (hw3.wt.below))).mono ?_; rintro e w4 ⟨rfl, hb4⟩; have hw4 := hw3.later hb4; have q0' := hw4.wt.g0; have q1' := hw4.wt.g1; have u0' := hw4.wt.t0; have u1' := hw4.wt.t1; have v0' := hw4.wt.tf0; have v1' := hw4.wt.tf1; have p0' := cell_below hb4 p0; have p1' := cell_below hb4 p1; obtain ⟨z1, z2⟩ := hhv _ hw4))
            all_goals first
              | (refine bodyPost_ret (v := .tuple #[.agg #[.slice (some ⟨bs, 0, none⟩) nn nn, .slice (some ⟨bh, 0, none⟩) nn nn], .bool false]) ?hres rfl ⟨hw4.again.wt.below, .inl ⟨Hfail.out ?hnot, _, _, _, _, _, _, rfl⟩⟩; (case hres => (have q := hw4.again.wt; simp [results, Tryd.results18, go_sem, q.t0, q.t1])); (case hnot => (intro hc; have hll := Hll.out; obtain ⟨a1, a2, a3, a4, a5⟩ := hc; first | contradiction | (exfalso; omega))))
              | (refine bodyPost_ret (v := .tuple #[.agg #[.slice (some ⟨bs, 0, none⟩) nn nn, .slice (some ⟨bh, 0, none⟩) nn nn], .bool false]) ?hres rfl ⟨hw3.again.wt.below, .inl ⟨Hfail.out ?hnot, _, _, _, _, _, _, rfl⟩⟩; (case hres => (have q := hw3.again.wt; simp [results, Tryd.results18, go_sem, q.t0, q.t1])); (case hnot => (intro hc; have hll := Hll.out; obtain ⟨a1, a2, a3, a4, a5⟩ := hc; first | contradiction | (exfalso; omega))))
              | (go_roundg (rn - (k + 1)); (case measure => (go_light; omega)); (case rel => (go_light; exact ⟨k + 1, next + s1, rfl, by omega, hs1, rfl, by go_num, by go_num, show _ = _ by (rw [← Hstep.out ⟨by assumption, by assumption, by assumption, by have := Hll.out; omega, by omega⟩]; exact Ak.out), hw4⟩)))
          · have hlz : ¬ (next : Int) < (nn : Int) := by omega
            go_wp2_with (first | (go_at_call 27; refine (Name_calls r.name hrsz _).mono ?_; rintro e w3 ⟨rfl, hb3⟩; have hw3 := hwA.later hb3; have q0 := hw3.wt.g0; have q1 := hw3.wt.g1; have u0 := hw3.wt.t0; have u1 := hw3.wt.t1; have v0 := hw3.wt.tf0; have v1 := hw3.wt.tf1; have p0 := cell_below hb3 (a := ⟨wr.heap.size, 0, none⟩) (v := .string r.name) (by simp); have p1 := cell_below hb3 (a := ⟨wr.heap.size, 1, none⟩) (v := .int .i64 r.body) (by simp)) | (go_at_call 28; refine (Rule_calls rs _ _ r.name _ (hRW _ (hw3.wt.below))).mono ?_; rintro e w4 ⟨rfl, hb4⟩; have hw4 := hw3.later hb4; have q0' := hw4.wt.g0; have q1' := hw4.wt.g1; have u0' := hw4.wt.t0; have u1' := hw4.wt.t1; have v0' := hw4.wt.tf0; have v1' := hw4.wt.tf1; have p0' := cell_below hb4 p0; have p1' := cell_below hb4 p1))
            all_goals first
              | (refine bodyPost_ret (v := .tuple #[.agg #[.slice (some ⟨bs, 0, none⟩) nn nn, .slice (some ⟨bh, 0, none⟩) nn nn], .bool false]) ?hres rfl ⟨hw4.again.wt.below, .inl ⟨Hfail.out ?hnot, _, _, _, _, _, _, rfl⟩⟩; (case hres => (have q := hw4.again.wt; simp [results, Tryd.results18, go_sem, q.t0, q.t1])); (case hnot => (intro hc; have hll := Hll.out; obtain ⟨a1, a2, a3, a4, a5⟩ := hc; first | contradiction | (exfalso; omega))))
              | (refine bodyPost_ret (v := .tuple #[.agg #[.slice (some ⟨bs, 0, none⟩) nn nn, .slice (some ⟨bh, 0, none⟩) nn nn], .bool false]) ?hres rfl ⟨hw3.again.wt.below, .inl ⟨Hfail.out ?hnot, _, _, _, _, _, _, rfl⟩⟩; (case hres => (have q := hw3.again.wt; simp [results, Tryd.results18, go_sem, q.t0, q.t1])); (case hnot => (intro hc; have hll := Hll.out; obtain ⟨a1, a2, a3, a4, a5⟩ := hc; first | contradiction | (exfalso; omega))))
        · have t0 := hw1.wt.t0
          have t1 := hw1.wt.t1
          have g1 := hw1.wt.g1
          have tf0 := hw1.wt.tf0
          have tf1 := hw1.wt.tf1
          have hnk : ¬ (k : Int) < (rn : Int) := by omega
          go_wp2
          go_region
          go_wp2
          have hw2 := hw1.again
          have hkn : k = rn := by omega
          have hrl : rl rs l rs 0 0 = some next := by
            rw [← Ak.out, hkn, List.drop_of_length_le (by rw [Hrn.out]; omega)]; rfl
          refine bodyPost_ret (v := .tuple #[.agg #[.slice (some ⟨bs, 0, none⟩) nn nn, .slice (some ⟨bh, 0, none⟩) nn nn], .bool (decide (next = nn))]) ?_ rfl ⟨hw2.wt.below.drew, ?_⟩
          · have e : (((next : Nat) : Int) == (nn : Int)) = decide (next = nn) := by rw [Bool.eq_iff_iff]; simp; omega
            simp [results, Tryd.results18, go_sem, hw2.wt.t0, hw2.wt.t1, e]
          · by_cases e : next = nn
            · refine .inr ⟨l, bs, bh, ?_, ?_, ?_, ?_⟩
              · rw [HW.out, hrl, if_pos (by rw [e])]
              · rw [Hnn.out, decide_eq_true e]
              · rw [Hnn.out]; exact hw2.rs.drew
              · rw [Hnn.out]; exact hw2.rh.drew
            · refine .inl ⟨?_, _, _, _, _, _, _, by rw [decide_eq_false e]⟩
              rw [HW.out, hrl, if_neg (fun h => e (Option.some.inj h))]
/-- Texts no longer than memory. -/
def Fine (rs : List Rule) (ns : List Node) : Prop := (∀ x ∈ ns, x.text.size ≤ 140737488355328) ∧ ∀ r ∈ rs, r.name.size ≤ 140737488355328
theorem whole_calls (rs : List Rule) (ns : List Node) (rv nv : Value) (w : World) (hr : RulesAt w rv rs) (hn : NodesAt w nv ns) (hf : Fine rs ns) :
    Calls Tryd.prog 18 #[.agg #[rv, nv]] w (WholePost rs ns w) := by
  by_cases h : rs.length = 0 ∨ 32 < rs.length ∨ 2048 < ns.length
  · have hr0 := hr.le
    have hn0 := hn.le
    obtain ⟨ra, rc, rfl, _⟩ := hr
    obtain ⟨na, nc, rfl, _⟩ := hn
    refine (whole_short rs.length ns.length ra na rc nc w hr0 hn0 h).mono ?_
    rintro e w' ⟨rfl, hb⟩
    exact ⟨hb, .inl ⟨by unfold wholeL; rw [if_pos h], _, _, _, _, _, _, rfl⟩⟩
  · exact whole_main rs ns rv nv w hr hn hf.1 hf.2 (by omega) (by omega) (by omega)
def rightB (rs : List Rule) (ns : List Node) : Bool := (wholeL rs ns).isSome
/-- gram.Right. -/
theorem Right_calls (rs : List Rule) (ns : List Node) (rv nv : Value) (w : World) (hr : RulesAt w rv rs) (hn : NodesAt w nv ns) (hf : Fine rs ns) :
    Calls Tryd.prog 9 #[.agg #[rv, nv]] w fun e w' => e = .returned (.bool (rightB rs ns)) ∧ Below w.heap.size w w' := by
  have hr2 : ∀ o, RulesAt (w.alloc o) rv rs := fun o => RulesAt.below (below_box w o) hr
  have hn2 : ∀ o, NodesAt (w.alloc o) nv ns := fun o => NodesAt.below (below_box w o) hn
  obtain ⟨ra, rc, rfl, _⟩ := id hr
  obtain ⟨na, nc, rfl, _⟩ := id hn
  have hC := fun o => whole_calls rs ns _ _ _ (hr2 o) (hn2 o) hf
  clear hr2 hn2 hr hn
  go_enter Tryd.func9, Tryd.ntmps9
  go_wp2_with fail
  refine (hC _).mono ?_
  rintro e w1 ⟨hb1, ⟨hw, a, n, c, a', n', c', rfl⟩ | ⟨l, bs, bh, hw, rfl, _, _⟩⟩
  · have HW := Lib.hid hw
    clear hw
    go_wp2
    go_ret
    exact ⟨ret_bool (by rw [rightB, HW.out]; rfl), (below_chain (below_box _ _) hb1).alloc (by have := hb1.size; simp at this; omega) _⟩
  · have HW := Lib.hid hw
    clear hw
    go_wp2
    go_ret
    exact ⟨ret_bool (by rw [rightB, HW.out]; rfl), (below_chain (below_box _ _) hb1).alloc (by have := hb1.size; simp at this; omega) _⟩
end Go.Proofs.YtljoajjbhjdonaaDoor
