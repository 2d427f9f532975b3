/- Package show, the writer: kids (a range over a function) and between. -/
import Derived.RangeFuncNested
import Derived.RangeFuncBound
import Derived.RangeFuncCalls
import Derived.RangeFuncLeaves
import Derived.Shelf.Abstract
import Derived.Shelf.RegionOpen
import Derived.WalkKit
import Derived.OwnWalkIn
import Derived.TacticsInMore
import Derived.LoopNIn
import Derived.LoopIn
import Derived.Sort.QuietIn
import Derived.Sort.LoopGhostIn
import Derived.Test.YtljoajjbhjdonaaDoorShow1
namespace Go.Proofs.YtljoajjbhjdonaaDoor
open Go.RowKit Go.Shelf
attribute [local go_sem] Oper.semAt_some
set_option maxRecDepth 100000

/-- A kid of some. -/
abbrev KidOf (ks : List Int) : Type := { p : Bool × Int // p.2 ∈ ks }
def kidAt (ks : List Int) (j : Nat) : Option (KidOf ks) := if h : j < ks.length then some ⟨(decide (0 < j), ks[j]), List.getElem_mem h⟩ else none
/-- The first m kids, each with whether there is one ahead. -/
def kidsTo (ks : List Int) (m : Nat) : List (KidOf ks) := (List.range m).filterMap (kidAt ks)
theorem kidsTo_succ (ks : List Int) (m : Nat) (h : m < ks.length) : kidsTo ks (m + 1) = kidsTo ks m ++ [⟨(decide (0 < m), ks[m]), List.getElem_mem h⟩] := by
  simp [kidsTo, List.range_succ, kidAt, h]
theorem kidsTo_len (ks : List Int) : ∀ m, m ≤ ks.length → (kidsTo ks m).length = m
  | 0, _ => by simp [kidsTo]
  | m + 1, h => by rw [kidsTo_succ ks m (by omega), List.length_append, kidsTo_len ks m (by omega)]; rfl
theorem kids_calls (b : Nat) (n : Int) (w : World) : Calls Tryd.prog 70 #[.pointer (some ⟨b, 0, none⟩), .int .i64 n] w fun e w' => e = .returned (.func (.func 79) #[] #[.pointer (some ⟨w.heap.size, 0, none⟩), .pointer (some ⟨w.heap.size + 1, 0, none⟩)]) ∧
    w' = (w.alloc (.cells #[.pointer (some ⟨b, 0, none⟩)] 44)).alloc (.cells #[.int .i64 n] 3) := by
  have hmf : ∀ (fn : Fn) (first cap : Array Value) (w : World), (Instr.makeFunc fn first cap).run Tryd.prog w = .ok (.func fn first cap) w := fun _ _ _ _ => rfl
  go_enter Tryd.func70, Tryd.ntmps70
  go_wp2
  go_ret
  exact ⟨rfl, rfl⟩
set_option maxHeartbeats 4000000 in
theorem kids1_in (n₀ l Bw Bn b : Nat) (nb no nn nc i : Nat) (ka : Option Addr) (kc : Nat) (ks : List Int) (J Jx : List (KidOf ks) → World → Prop) (hiz : (i : Int) < (nn : Int)) (hlen : ks.length ≤ 140737488355328)
    (hY : ∀ pre (x : KidOf ks) W, J pre W → pre.length < ks.length → YieldAt Fence.wide 2 Tryd.prog l #[.bool x.1.1, .int .i64 x.1.2] W fun e W' =>
      (e = .returned (.bool true) ∧ J (pre ++ [x]) W' ∧ Below n₀ W W') ∨ (e = .returned (.bool false) ∧ Jx (pre ++ [x]) W'))
    (hJd : ∀ pre W q, J pre W → J pre (World.drewN W q)) (W : World) (hBw : W.cell? ⟨Bw, 0, none⟩ = some (.pointer (some ⟨b, 0, none⟩))) (hBn : W.cell? ⟨Bn, 0, none⟩ = some (.int .i64 (i : Int)))
    (hns : W.cell? ⟨b, 3, none⟩ = some (.slice (some ⟨nb, no, none⟩) nn nc)) (hk : W.cell? ⟨nb, no + i * 9 + 8, none⟩ = some (.slice ka ks.length kc))
    (hks : ∀ j, j < ks.length → ∃ kb ko, ka = some ⟨kb, ko, none⟩ ∧ kb < n₀ ∧ W.cell? ⟨kb, ko + j, none⟩ = some (.int .i64 (ks.getD j 0))) (h0 : J [] W) :
    CallsIn Fence.wide 3 Tryd.prog 79 #[.func (.yield l) #[] #[], .pointer (some ⟨Bw, 0, none⟩), .pointer (some ⟨Bn, 0, none⟩)] W fun e W' => (∃ v, e = .returned v) ∧
      ((∃ ys, ys = kidsTo ks ks.length ∧ J ys W') ∨ (∃ pre, True ∧ Jx pre W')) := by
  refine callsIn_of_wp Tryd.func79 rfl trivial ?_ rfl
  simp only [Tryd.ntmps79, List.size_toArray, List.length_cons, List.length_nil, Nat.reduceAdd, Nat.reduceSub, Array.replicate_succ, Array.replicate_zero, List.push_toArray, List.append_toArray, List.nil_append, List.cons_append]
  have hi0 : (0 : Int) ≤ (i : Int) := by omega
  gi_wp2
  gi_quiet (fail)
  have hJ0 := hJd _ _ nq h0
  have hks2 : ∀ j, j < ks.length → ∃ kb ko, ka = some ⟨kb, ko, none⟩ ∧ kb < n₀ ∧ (World.drewN W nq).cell? ⟨kb, ko + j, none⟩ = some (.int .i64 (ks.getD j 0)) := hks
  generalize World.drewN W nq = W2 at *
  clear hks h0
  generalize hm : ks.length = m at *
  gi_wp2
  gi_loopw [16] (fun s16 wr => ∃ k : Nat, k ≤ m ∧ s16 = .int .i64 k ∧ J (kidsTo ks k) wr ∧ Below n₀ W2 wr) (fun s16 _ => m - (intOf s16).toNat)
  case atStart => exact ⟨0, Nat.zero_le _, rfl, hJ0, Below.refl _ _⟩
  case round =>
    obtain ⟨k, hk, rfl, hJs, hnx⟩ := hrel
    by_cases hlt : k < m
    · have hkl : k < ks.length := by omega
      obtain ⟨kb, ko, rfl, hkb, hcell⟩ := hks2 k hlt
      have hc2 := (hnx.cell (p := ⟨kb, ko + k, none⟩) hkb).trans hcell
      rw [List.getD_eq_getElem?_getD, List.getElem?_eq_getElem hkl, Option.getD_some] at hc2
      obtain ⟨fn, tmps, assign, body, hy, hR⟩ := hY _ ⟨(decide (0 < k), ks[k]), List.getElem_mem hkl⟩ wr hJs (by rw [kidsTo_len ks k (by omega)]; exact hlt)
      dsimp only at hy
      have hkz : (k : Int) < (m : Int) := by omega
      have hkd : decide ((k : Int) < (m : Int)) = true := decide_eq_true hkz
      have Hs := Lib.hid (kidsTo_succ ks k hkl)
      gi_wp2
      refine hR.mono ?_
      rintro e W3 (⟨rfl, hJ3, hk3⟩ | ⟨rfl, hJx3⟩)
      · gi_wp2
        go_roundw
        case rel => exact ⟨k + 1, by omega, by simp, by rw [Hs.out]; exact hJ3, hnx.trans hk3⟩
        case measure => simp [intOf]; omega
      · gi_wp2
        refine bodyPost_ret (results_none rfl _ _ _) rfl ?_
        exact ⟨⟨_, rfl⟩, .inr ⟨_, trivial, hJx3⟩⟩
    · obtain rfl : k = m := by omega
      gi_wp2
      go_end0
      rw [← hm] at hJs
      exact ⟨⟨_, rfl⟩, .inl ⟨_, rfl, hJs⟩⟩
theorem kids_stops {n₀ : Nat} (Bw Bn b : Nat) (nb no nn nc i : Nat) (ka : Option Addr) (kc : Nat) (ks : List Int) (hiz : (i : Int) < (nn : Int)) (hlen : ks.length ≤ 140737488355328) (w : World)
    (hBw : w.cell? ⟨Bw, 0, none⟩ = some (.pointer (some ⟨b, 0, none⟩))) (hBn : w.cell? ⟨Bn, 0, none⟩ = some (.int .i64 (i : Int)))
    (hns : w.cell? ⟨b, 3, none⟩ = some (.slice (some ⟨nb, no, none⟩) nn nc)) (hk : w.cell? ⟨nb, no + i * 9 + 8, none⟩ = some (.slice ka ks.length kc))
    (hks : ∀ j, j < ks.length → ∃ kb ko, ka = some ⟨kb, ko, none⟩ ∧ kb < n₀ ∧ w.cell? ⟨kb, ko + j, none⟩ = some (.int .i64 (ks.getD j 0))) :
    SeqStopsK Fence.wide 3 Tryd.prog 79 #[.pointer (some ⟨Bw, 0, none⟩), .pointer (some ⟨Bn, 0, none⟩)] (fun x : KidOf ks => #[Value.bool x.1.1, Value.int .i64 x.1.2]) (Below n₀) (fun ys => ys = kidsTo ks ks.length) (fun _ => True) ks.length w := fun l J Jx W hW hJ _ hY h0 => by
  refine kids1_in n₀ l Bw Bn b nb no nn nc i ka kc ks J Jx hiz hlen hY (fun pre W' q h => hJ _ _ _ none h ⟨rfl, rfl, rfl, Nat.le_refl _, fun _ _ _ => rfl⟩ (fun _ e => by cases e)) W (cell_below hW hBw) (cell_below hW hBn) (cell_below hW hns) (cell_below hW hk) (fun j hj => ?_) h0
  obtain ⟨kb, ko, e1, e2, e3⟩ := hks j hj
  exact ⟨kb, ko, e1, e2, cell_below hW e3⟩
/-- What has been written when these have come. -/
def preT (sep : List UInt8) (f : Int → List UInt8) {ks : List Int} (pre : List (KidOf ks)) : List UInt8 := pre.flatMap fun x => (if x.1.1 = true then sep else []) ++ f x.1.2
theorem preT_snoc (sep : List UInt8) (f : Int → List UInt8) {ks : List Int} (pre : List (KidOf ks)) (x : KidOf ks) : preT sep f (pre ++ [x]) = preT sep f pre ++ ((if x.1.1 = true then sep else []) ++ f x.1.2) := by simp [preT]
theorem preT_len (sep : List UInt8) (f : Int → List UInt8) {ks : List Int} (L : Nat) (hf : ∀ k ∈ ks, (f k).length + sep.length ≤ L) : ∀ pre : List (KidOf ks), (preT sep f pre).length ≤ pre.length * L
  | [] => by simp [preT]
  | x :: pre => by
    have h1 := preT_len sep f L hf pre
    have h2 := hf _ x.2
    have h3 : (if x.1.1 = true then sep else []).length ≤ sep.length := by split <;> simp
    simp only [preT, List.flatMap_cons, List.length_append, List.length_cons] at *
    rw [Nat.add_mul]; omega
def joinT (sep : List UInt8) (f : Int → List UInt8) : List Int → List UInt8
  | [] => []
  | k :: ks => f k ++ ks.flatMap (fun k => sep ++ f k)
theorem preT_take (sep : List UInt8) (f : Int → List UInt8) (ks : List Int) : ∀ m, m ≤ ks.length → preT sep f (kidsTo ks m) = joinT sep f (ks.take m)
  | 0, _ => by simp [kidsTo, preT, joinT]
  | m + 1, h => by
    rw [kidsTo_succ ks m (by omega), preT_snoc, preT_take sep f ks m (by omega)]
    have e : ks.take (m + 1) = ks.take m ++ [ks[m]] := by rw [List.take_add_one, List.getElem?_eq_getElem (by omega)]; rfl
    rw [e]
    cases hk : ks.take m with
    | nil =>
      have : m = 0 := by
        have := congrArg List.length hk
        rw [List.length_take] at this; simp at this
        rcases this with h1 | h1
        · exact h1
        · rw [h1] at h; simp at h
      subst this
      simp [joinT]
    | cons k l =>
      have : 0 < m := by
        have := congrArg List.length hk
        rw [List.length_take] at this; simp at this; omega
      simp [joinT, this]
theorem preT_all (sep : List UInt8) (f : Int → List UInt8) (ks : List Int) : preT sep f (kidsTo ks ks.length) = joinT sep f ks := by
  rw [preT_take sep f ks _ (Nat.le_refl _), List.take_length]
/-- A builder abides the turn of a block that is no cells. -/
theorem Bld.grown {T : TypeId} {rest : List Value} {n0 b : Nat} {l : List UInt8} {A B : World} {row : Option Nat} (h : Bld T rest n0 b l A) (hg : A.grownBy B row) (hr : ∀ r, row = some r → ∃ o : Obj, A.heap[r]? = some o ∧ o.isCells = false) : Bld T rest n0 b l B := by
  have hlt := h.lt
  obtain ⟨h1, h2, p, v, h3, h4, h5, h6⟩ := h
  refine ⟨h1, Nat.le_trans h2 hg.size, p, v, h3, (hg.block b hlt (fun e => ?_)).trans h4, h5.kept hg ?_, h6⟩
  · obtain ⟨o, ho, hc⟩ := hr b e.symm
    rw [h4] at ho; cases ho; cases hc
  · by_cases e : v.ownBlock = none
    · exact .inl e
    · refine .inr fun e2 => ?_
      obtain ⟨g, hgb⟩ := Option.ne_none_iff_exists'.1 e
      obtain ⟨_, c, f, hh⟩ := own_cells h5 hgb
      obtain ⟨o, ho, hc⟩ := hr g (by rw [← e2, hgb])
      rw [hh] at ho; cases ho; cases hc
theorem Kept.own {n0 b : Nat} {W A B : World} {row : Option Nat} (h : Kept n0 b W A) (hn : n0 ≤ W.heap.size) (hg : A.grownBy B row) (hr : ∀ r, row = some r → W.heap.size ≤ r) : Kept n0 b W B :=
  ⟨h.below.grown hg (Nat.le_trans hn h.below.size) (fun k e => Nat.le_trans hn (hr k e)), fun k hk hb hc => by
    rw [hg.block k (Nat.lt_of_lt_of_le hk h.below.size) (fun e => by have := hr k e.symm; omega)]
    exact h.rest k hk hb hc⟩
theorem Kept.others {T : TypeId} {rest : List Value} {n0 b : Nat} {l : List UInt8} {A B : World} (h : Kept n0 b A B) (hb : Bld T rest n0 b l A) : KeepsOthers A B := by
  obtain ⟨_, _, p, v, _, h4, _⟩ := hb
  refine ⟨h.below.size, fun k o hk ho => ?_⟩
  rw [h.rest k (Array.getElem?_eq_some_iff.1 hk).1 (fun e => ?_) (fun c f e => ?_), hk]
  · subst e; rw [h4] at hk; cases hk; cases ho
  · rw [hk] at e; cases e; cases ho
set_option maxHeartbeats 8000000 in
theorem between_calls {w0 : World} {rs : List Rule} {ns : List Node} {rv nv : Value} {b : Nat} {l : List UInt8} (hG : Gr w0 rs ns rv nv) (i : Nat) (hi : i < ns.length) (how : Int) (sep : ByteArray) (f : Int → List UInt8) (L : Nat)
    (hf : ∀ k ∈ (ns.getD i default).kids, (f k).length + sep.data.toList.length ≤ L)
    (hnode : ∀ k ∈ (ns.getD i default).kids, ∀ l' w', Wt w0 rv nv b l' w' → Below w0.heap.size w0 w' → l'.length ≤ l.length + (ns.getD i default).kids.length * L + L → Calls Tryd.prog 19 #[.pointer (some ⟨b, 0, none⟩), .int .i64 k, .int .i64 how] w' (Wrote w0 rv nv b l' (f k) w'))
    (w : World) (hb : Below w0.heap.size w0 w) (h : Wt w0 rv nv b l w) (hlen : l.length + (ns.getD i default).kids.length * L + L ≤ 140737488355328) :
    Calls Tryd.prog 60 #[.pointer (some ⟨b, 0, none⟩), .int .i64 i, .int .i64 how, .string sep] w (Wrote w0 rv nv b l (joinT sep.data.toList f (ns.getD i default).kids) w) := by
  obtain ⟨a, c, rfl, hc1, hc2, hc⟩ := id hG.nodes
  obtain ⟨nb, no, rfl, hN⟩ := hc i hi
  generalize ns.getD i default = x at *
  obtain ⟨-, -, -, -, -, -, -, -, kv, p8, ka, kc, rfl, hkc1, hkc2, hks⟩ := hN
  generalize hn : ns.length = n at *
  have hiz : (i : Int) < (n : Int) := by omega
  generalize x.kids = ks at *
  have hnodes := h.cell 1
  simp only [List.getElem?_cons_succ, List.getElem?_cons_zero, Nat.reduceAdd] at hnodes
  refine (callsIn_wide (n := 4)).1 ?_
  refine callsIn_of_wp_marks Tryd.func60 rfl trivial ?_ rfl
  simp only [Tryd.ntmps60, List.size_toArray, List.length_cons, List.length_nil, Nat.reduceAdd, Nat.reduceSub, Array.replicate_succ, Array.replicate_zero, List.push_toArray, List.append_toArray, List.nil_append, List.cons_append]
  gi_wp2_with (refine ⟨trivial, ?_⟩; gi_at_call 70; refine (callsIn_wide.2 (kids_calls _ _ _)).mono ?_; rintro e w1 ⟨rfl, rfl⟩)
  obtain ⟨W1, hW1⟩ : ∃ W1, (((((w.alloc (.cells #[.pointer (some ⟨b, 0, none⟩)] 44)).alloc (.cells #[.int .i64 how] 3)).alloc (.cells #[.string sep] 9)).alloc (.cells #[.pointer (some ⟨b, 0, none⟩)] 44)).alloc (.cells #[.int .i64 (i : Int)] 3)) = W1 := ⟨_, rfl⟩
  have hsz : W1.heap.size = w.heap.size + 5 := by rw [← hW1]; simp
  have hb1 : Below w.heap.size w W1 := by rw [← hW1]; exact ((((below_box w _).alloc (by simp) _).alloc (by simp; omega) _).alloc (by simp; omega) _).alloc (by simp; omega) _
  have b0 : Boxed W1 (w.heap.size) 44 (.pointer (some ⟨b, 0, none⟩)) := by
    rw [← hW1]
    have hx := Boxed.new w 44 (.pointer (some ⟨b, 0, none⟩))
    exact ((((hx.alloc _).alloc _).alloc _).alloc _)
  have b1 : Boxed W1 (w.heap.size + 1) 3 (.int .i64 how) := by
    rw [← hW1]
    have hx := Boxed.new (w.alloc (.cells #[.pointer (some ⟨b, 0, none⟩)] 44)) 3 (.int .i64 how); rw [World.size_alloc] at hx
    exact (((hx.alloc _).alloc _).alloc _)
  have b2 : Boxed W1 (w.heap.size + 1 + 1) 9 (.string sep) := by
    rw [← hW1]
    have hx := Boxed.new ((w.alloc (.cells #[.pointer (some ⟨b, 0, none⟩)] 44)).alloc (.cells #[.int .i64 how] 3)) 9 (.string sep); rw [World.size_alloc, World.size_alloc] at hx
    exact ((hx.alloc _).alloc _)
  have b3 : Boxed W1 (w.heap.size + 1 + 1 + 1) 44 (.pointer (some ⟨b, 0, none⟩)) := by
    rw [← hW1]
    have hx := Boxed.new (((w.alloc (.cells #[.pointer (some ⟨b, 0, none⟩)] 44)).alloc (.cells #[.int .i64 how] 3)).alloc (.cells #[.string sep] 9)) 44 (.pointer (some ⟨b, 0, none⟩)); rw [World.size_alloc, World.size_alloc, World.size_alloc] at hx
    exact (hx.alloc _)
  have b4 : Boxed W1 (w.heap.size + 1 + 1 + 1 + 1) 3 (.int .i64 (i : Int)) := by
    rw [← hW1]
    have hx := Boxed.new ((((w.alloc (.cells #[.pointer (some ⟨b, 0, none⟩)] 44)).alloc (.cells #[.int .i64 how] 3)).alloc (.cells #[.string sep] 9)).alloc (.cells #[.pointer (some ⟨b, 0, none⟩)] 44)) 3 (.int .i64 (i : Int)); rw [World.size_alloc, World.size_alloc, World.size_alloc, World.size_alloc] at hx
    exact hx
  have hbw := h.lt
  have hn0 := hb.size
  rw [hW1]
  clear hW1
  refine wpIn_rangeFunc_ownG rfl (by omega) (gf := 79) (lb := #[.pointer (some ⟨w.heap.size + 1 + 1 + 1, 0, none⟩), .pointer (some ⟨w.heap.size + 1 + 1 + 1 + 1, 0, none⟩)]) rfl trivial (enters_of Tryd.func79 (by kernel_rfl) rfl)
    (kids_stops (n₀ := w0.heap.size) (w.heap.size + 1 + 1 + 1) (w.heap.size + 1 + 1 + 1 + 1) b nb no n c i ka kc ks hiz (by omega) W1 b3.cell b4.cell (cell_below hb1 hnodes) (cell_below hb1 (cell_below hb p8)) (fun j hj => by
      obtain ⟨kb, ko, e1, e2⟩ := hks j hj
      rw [Nat.mul_one] at e2
      exact ⟨kb, ko, e1, World.block_lt_of_cell? _ _ e2, cell_below hb1 (cell_below hb e2)⟩)) belowK_t (belowK_b (by omega)) (Below.refl _ _) (fun _ => rfl)
    (fun pre W => Bld 54 [rv, .slice (some ⟨nb, no, none⟩) n c] w0.heap.size b (l ++ preT sep.data.toList f pre) W ∧ Kept w0.heap.size b W1 W)
    (fun _ _ _ => False)
    (fun pre A B row hs hg hr => ⟨hs.1.grown hg (fun r e => (hr r e).2), hs.2.own (by omega) hg (fun r e => (hr r e).1)⟩)
    (fun _ _ _ _ _ hs _ _ => hs)
    ⟨by simpa [preT] using h.later hb1, Kept.refl _ _ _⟩
    (fun x => { tmps := #[.pointer (some ⟨b, 0, none⟩), .int .i64 (i : Int), .int .i64 how, .string sep, .pointer (some ⟨w.heap.size, 0, none⟩), undef, .pointer (some ⟨w.heap.size + 1, 0, none⟩), .pointer (some ⟨w.heap.size + 1 + 1, 0, none⟩), .bool x.1.1, .int .i64 x.1.2, .pointer (some ⟨b, 0, none⟩), .int .i64 (i : Int),
      .func (.func 79) #[] #[.pointer (some ⟨w.heap.size + 1 + 1 + 1, 0, none⟩), .pointer (some ⟨w.heap.size + 1 + 1 + 1 + 1, 0, none⟩)], .bool x.1.1, .int .i64 x.1.2, undef, undef, undef, undef, undef, undef, undef, undef, undef, undef], defers := [] }) ?assign ?body ?done ?stop
  case assign =>
    intro l x W K hK
    gi_wp2
    exact hK
  case body =>
    rintro lo pre ⟨⟨more, k⟩, hk⟩ W ⟨hB, hK⟩ hlt
    have hl1 := preT_len sep.data.toList f L hf pre
    have hfk := hf k hk
    have hmul : pre.length * L + L ≤ ks.length * L := by
      have : (pre.length + 1) * L ≤ ks.length * L := Nat.mul_le_mul_right L (by omega)
      rw [Nat.add_mul] at this; omega
    have hbel := hb.trans ((hb1.mono hn0).trans hK.below)
    have c0 := (Boxed.cell (hK.block b0 (by omega) (by decide)))
    have c1 := (Boxed.cell (hK.block b1 (by omega) (by decide)))
    have c2 := (Boxed.cell (hK.block b2 (by omega) (by decide)))
    have hd : 1 ≤ 2 := by omega
    have hmx : Tryd.prog.follows .mixedOrders = true := by kernel_rfl
    cases more with
    | true =>
      have hl2 : (l ++ preT sep.data.toList f pre).length + sep.size ≤ 140737488355328 := by rw [bsize, List.length_append]; omega
      gi_wp2
      gi_region_with_o (refine ⟨trivial, ?_⟩; gi_at_call 20; refine (CallsIn.inRound lo (callsIn_wide.2 (WriteString_calls bt_writer sep _ (hB.later (Below.refl _ _).drew) hl2))).mono ?_; rintro e w2 ⟨rfl, hB2, hK2⟩; have hK3 := (hK.trans (Kept.of_below (Below.refl _ _).drew hB.2.1)).trans hK2; have c3 := (Boxed.cell (hK3.block b0 (by omega) (by decide))); have c4 := (Boxed.cell (hK3.block b1 (by omega) (by decide))); have hnd := hnode k hk _ w2 hB2 (hb.trans ((hb1.mono hn0).trans hK3.below)) (by simp only [List.length_append]; omega))
      all_goals (gi_wp2_with (refine ⟨trivial, ?_⟩; gi_at_call 19; refine (CallsIn.inRound lo (callsIn_wide.2 hnd)).mono ?_; rintro e w3 ⟨rfl, hB4, hK4⟩))
      all_goals (
        have hK5 := ((Kept.of_below (Below.refl W.heap.size W).drew hB.2.1).trans hK2).trans hK4
        refine ⟨(hK5.others hB).from _, hK5.below, ?_, hK.trans hK5⟩
        rw [preT_snoc, ← List.append_assoc]
        simpa using hB4)
    | false =>
      have hnd := hnode k hk _ W hB hbel (by rw [List.length_append]; omega)
      gi_wp2_with (refine ⟨trivial, ?_⟩; gi_at_call 19; refine (CallsIn.inRound lo (callsIn_wide.2 hnd)).mono ?_; rintro e w2 ⟨rfl, hB2, hK2⟩)
      refine ⟨(hK2.others hB).from _, hK2.below, ?_, hK.trans hK2⟩
      rw [preT_snoc, ← List.append_assoc]
      simpa using hB2
  case done =>
    rintro D ys W hD rfl ⟨hB, hK⟩ hD2
    gi_wp2
    refine ⟨by simp, .inl ⟨_, _, rfl, run_takeDeferred hD2, ?_⟩⟩
    have hg := grownBy_putObj' W D (.deferred none)
    have hr : ∀ r, some D = some r → ∃ o : Obj, W.heap[r]? = some o ∧ o.isCells = false := fun r e => by cases e; exact ⟨_, hD2, rfl⟩
    refine ⟨_, results_none rfl _ _ _, rfl, ?_, (Kept.of_below hb1 hn0).trans (hK.own (by omega) hg (fun r e => by cases e; exact hD))⟩
    rw [← preT_all]
    exact hB.grown hg hr
  case stop =>
    rintro D c pre W _ _ h _
    exact h.elim
end Go.Proofs.YtljoajjbhjdonaaDoor
