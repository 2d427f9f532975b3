/- class.Runs: the runs of a class, as a plain list. Condition: the deBruijn table is there. -/
import Derived.RangeFuncBox
import Derived.Maps.AppendAt
import Derived.Laws.OwnMore
import Derived.Test.YtljoajjbhjdonaaDoorAllB
namespace Go.Proofs.YtljoajjbhjdonaaDoor
open Go.RowKit Go.Shelf
attribute [local go_sem] Oper.semAt_some
set_option maxRecDepth 100000

/-- A byte more. -/
def addRun (out : List (UInt8 × UInt8)) (b : UInt8) : List (UInt8 × UInt8) :=
  if 0 < out.length ∧ (out.getD (out.length - 1) default).2.toNat + 1 = b.toNat then out.set (out.length - 1) ((out.getD (out.length - 1) default).1, b) else out ++ [(b, b)]
def runsL (l : List UInt8) : List (UInt8 × UInt8) := l.foldl addRun []
theorem runsL_snoc (l : List UInt8) (b : UInt8) : runsL (l ++ [b]) = addRun (runsL l) b := by simp [runsL]
theorem addRun_len (out : List (UInt8 × UInt8)) (b : UInt8) : (addRun out b).length ≤ out.length + 1 := by unfold addRun; split <;> simp
theorem runsL_len (l : List UInt8) : (runsL l).length ≤ l.length := by
  have : ∀ (l : List UInt8) (o : List (UInt8 × UInt8)), (l.foldl addRun o).length ≤ o.length + l.length := by
    intro l
    induction l with
    | nil => simp
    | cons b l ih => intro o; have h1 := addRun_len o b; have h2 := ih (addRun o b); simp at h2 ⊢; omega
  have h := this l []
  simpa [runsL] using h
theorem addRun_le (out : List (UInt8 × UInt8)) (b : UInt8) (h : ∀ r ∈ out, r.1.toNat ≤ r.2.toNat) : ∀ r ∈ addRun out b, r.1.toNat ≤ r.2.toNat := by
  unfold addRun
  split
  · rename_i hc
    intro r hr
    rcases List.mem_or_eq_of_mem_set hr with hr | rfl
    · exact h r hr
    · have hm : out.getD (out.length - 1) default ∈ out := by
        rw [List.getD_eq_getElem?_getD, List.getElem?_eq_getElem (by omega)]; exact List.getElem_mem _
      have := h _ hm
      have := hc.2
      simp only
      omega
  · intro r hr
    rcases List.mem_append.1 hr with hr | hr
    · exact h r hr
    · simp only [List.mem_singleton] at hr; subst hr; exact Nat.le_refl _
theorem runsL_le (l : List UInt8) : ∀ r ∈ runsL l, r.1.toNat ≤ r.2.toNat := by
  have : ∀ (l : List UInt8) (o : List (UInt8 × UInt8)), (∀ r ∈ o, r.1.toNat ≤ r.2.toNat) → ∀ r ∈ l.foldl addRun o, r.1.toNat ≤ r.2.toNat := by
    intro l
    induction l with
    | nil => intro o h; exact h
    | cons b l ih => intro o h; exact ih _ (addRun_le o b h)
  exact this l [] (by simp)
def runCells (l : List (UInt8 × UInt8)) : List Value := l.flatMap fun r => [.int .u8 (r.1.toNat : Int), .int .u8 (r.2.toNat : Int)]
theorem runCells_len : ∀ l : List (UInt8 × UInt8), (runCells l).length = l.length * 2
  | [] => rfl
  | r :: l => by have := runCells_len l; simp only [runCells, List.flatMap_cons, List.length_append, List.length_cons, List.length_nil] at *; omega
theorem runCells_get : ∀ (l : List (UInt8 × UInt8)) (i : Nat), i < l.length → (runCells l)[2 * i]? = some (.int .u8 ((l.getD i default).1.toNat : Int)) ∧ (runCells l)[2 * i + 1]? = some (.int .u8 ((l.getD i default).2.toNat : Int))
  | [], i, h => by simp at h
  | r :: l, 0, _ => by simp [runCells]
  | r :: l, i + 1, h => by
    have := runCells_get l i (by simpa using h)
    have e : 2 * (i + 1) = 2 * i + 1 + 1 := by omega
    simp only [runCells, List.flatMap_cons, List.cons_append, List.nil_append, e, List.getElem?_cons_succ, List.getD_cons_succ] at *
    exact this
theorem runCells_set : ∀ (l : List (UInt8 × UInt8)) (i : Nat) (b : UInt8), i < l.length → (runCells l).set (2 * i + 1) (.int .u8 (b.toNat : Int)) = runCells (l.set i ((l.getD i default).1, b))
  | [], i, _, h => by simp at h
  | r :: l, 0, b, _ => by simp [runCells]
  | r :: l, i + 1, b, h => by
    have := runCells_set l i b (by simpa using h)
    have e : 2 * (i + 1) + 1 = (2 * i + 1) + 1 + 1 := by omega
    simp only [runCells, List.flatMap_cons, List.cons_append, List.nil_append, e, List.set_cons_succ, List.getD_cons_succ] at *
    rw [this]
theorem runCells_snoc (l : List (UInt8 × UInt8)) (b : UInt8) : runCells (l ++ [(b, b)]) = runCells l ++ [.int .u8 (b.toNat : Int), .int .u8 (b.toNat : Int)] := by simp [runCells]
/-- A slice of runs in memory, in a block of its own. -/
def PairsAt (w : World) (v : Value) (l : List (UInt8 × UInt8)) : Prop := ∃ a c, v = .slice a l.length c ∧ l.length ≤ 140737488355328 ∧ (l = [] ∨ ∃ g cur, a = some ⟨g, 0, none⟩ ∧ w.heap[g]? = some (.cells cur 98 (0, 0)) ∧
  ∀ i, i < l.length → cur[i * 2]? = some (.int .u8 ((l.getD i default).1.toNat : Int)) ∧ cur[i * 2 + 1]? = some (.int .u8 ((l.getD i default).2.toNat : Int)))
theorem infoPair : (Tryd.prog.info? 98).map (fun i => (i.zero, i.size, i.bytes)) = some (some (.agg #[.int .u8 0, .int .u8 0]), 2, 2) := by kernel_rfl

theorem ownsRow_forms' {w : World} {base size n : Nat} {e : TypeId} {v : Value} {xs : List Value} (h : w.ownsRow base e size v n xs) : (v = .slice none 0 0 ∧ n = 0) ∨ ∃ g cap, v = .slice (some ⟨g, 0, none⟩) n cap := by
  rcases h.2 with ⟨hv, h0⟩ | ⟨g, cap, cur, hv, _⟩
  · exact .inl ⟨hv, h0⟩
  · exact .inr ⟨_, _, hv⟩
theorem addr_add (g j : Nat) : (⟨g, 0, none⟩ : Addr).add j = ⟨g, j, none⟩ := by
  unfold Addr.add; split <;> simp_all
theorem pairs_of_row {w : World} {base : Nat} {v : Value} {l : List (UInt8 × UInt8)} (h : w.ownsRow base 98 2 v l.length (runCells l)) (hl : l.length ≤ 140737488355328) : PairsAt w v l := by
  rcases h.2 with ⟨hv, h0⟩ | ⟨g, cap, cur, rfl, _, hh, hnc, hcm, hcs, htake⟩
  · exact ⟨none, 0, by rw [hv, h0], hl, .inl (List.length_eq_zero_iff.1 h0)⟩
  · refine ⟨_, _, rfl, hl, .inr ⟨g, cur, rfl, hh, fun i hi => ?_⟩⟩
    have hg := runCells_get l i hi
    have ht : ∀ j, j < l.length * 2 → cur[j]? = (runCells l)[j]? := fun j hj => by
      rw [← htake, List.getElem?_take, if_pos hj]; simp
    rw [show i * 2 = 2 * i by omega, ht _ (by omega), ht _ (by omega)]
    exact hg
/-- A variable's box is appended to: what stands behind it. -/
theorem boxed_appended {W w1 : World} {n₀ B : Nat} {t e : TypeId} {size : Nat} {v v' : Value} {k m : Nat} {xs ys : List Value} {tmp : Obj}
    (hv : Boxed W B t v) (hte : t ≠ e) (hrow : W.ownsRow n₀ e size v k xs) (hn₀ : n₀ ≤ W.heap.size) (hB : B < n₀)
    (hown' : w1.ownsRow n₀ e size v' m ys) (hgrow : (W.alloc tmp).grownBy w1 v.ownBlock) :
    Boxed w1 B t v ∧ Boxed (w1.setCell ⟨B, 0, none⟩ v') B t v' ∧ (w1.setCell ⟨B, 0, none⟩ v').ownsRow n₀ e size v' m ys ∧ KeepsOthers W (w1.setCell ⟨B, 0, none⟩ v') ∧ KeepB (fun k => k < n₀ ∧ k ≠ B) W (w1.setCell ⟨B, 0, none⟩ v') ∧ ∀ m₀, m₀ ≤ B → Below m₀ W (w1.setCell ⟨B, 0, none⟩ v') := by
  have hv1 : Boxed w1 B t v := (hv.alloc tmp).kept hgrow (hv.not_row hte hrow)
  have hge : ∀ j, v.ownBlock = some j → n₀ ≤ j := fun j ej => (hrow.lt j ej).1
  refine ⟨hv1, hv1.set v', hown'.kept (grownBy_setCell' w1 B v') (.inr (hv1.not_row hte hown').symm), ?_, ?_, ?_⟩
  · refine ((KeepsOthers.alloc W tmp).trans (KeepsOthers.of_grownBy hgrow fun j o ej hj => ?_)).trans (KeepsOthers.setCell _ _ _)
    rcases (hrow.alloc tmp).2 with ⟨rfl, _⟩ | ⟨g, cap, cur, rfl, _, hgb, _⟩
    · simp [Value.ownBlock] at ej
    · obtain rfl : g = j := by simpa [Value.ownBlock] using ej
      rw [hgb] at hj; cases hj; rfl
  · have hs := hgrow.size
    refine ⟨by simp at hs ⊢; omega, fun k hk hl => ?_⟩
    rw [Below.heap_setCell _ _ _ _ (by show k ≠ B; exact hk.2), hgrow.block k (by simp; omega) (fun e => by have := hge k e.symm; omega)]
    exact Lib.alloc_old W _ k hl
  · intro m₀ hm
    exact (((Below.refl m₀ W).alloc (by omega) tmp).grown hgrow (by simp; omega) fun j ej => by have := hge j ej; omega).setCell (p := ⟨B, 0, none⟩) hm v'
theorem two_cells (W : World) (u v : Value) (T : TypeId) : ∀ j x, [u, v][j]? = some x → (W.alloc (.cells #[u, v] T)).cell? ((⟨W.heap.size, 0, none⟩ : Addr).add j) = some x := by
  intro j x hj
  rw [addr_add, World.cell?_alloc_mark W #[u, v] T (0, 0) j]
  simpa using hj
theorem keepB_put {p : Nat → Prop} (W : World) (l : Nat) {o : Obj} (o' : Obj) (_ : W.heap[l]? = some o) (hp : p l → False) : KeepB p W (W.putObj l o') :=
  ⟨by simp, fun k hk _ => World.putObj_heap_other (fun e => hp (e ▸ hk))⟩
set_option maxHeartbeats 4000000 in
theorem Runs_calls (c : Nat → Nat) (hc : ∀ k, c k < 18446744073709551616) (hlen : (preB c 4).length ≤ 1099511627776) (w : World) (hT : TabAt 0 Lib.deBruijn64tab w) :
    Calls Tryd.prog 56 #[.agg #[.int .u64 (c 0 : Nat), .int .u64 (c 1 : Nat), .int .u64 (c 2 : Nat), .int .u64 (c 3 : Nat)]] w fun e w' => ∃ v, e = .returned v ∧ PairsAt w' v (runsL (preB c 4)) ∧ Below w.heap.size w w' := by
  obtain ⟨i0, hi, hz0, hz1, hz2⟩ := info_parts infoPair
  refine (callsIn_wide (n := 4)).1 ?_
  refine callsIn_of_wp_marks Tryd.func56 rfl trivial ?_ rfl
  simp only [Tryd.ntmps56, List.size_toArray, List.length_cons, List.length_nil, Nat.reduceAdd, Nat.reduceSub, Array.replicate_succ, Array.replicate_zero, List.push_toArray, List.append_toArray, List.nil_append, List.cons_append]
  gi_wp2_with (refine ⟨trivial, ?_⟩; gi_at_call 63; refine (callsIn_wide.2 (all_calls _ _ _)).mono ?_; rintro e w1 ⟨rfl, rfl⟩)
  obtain ⟨W0, hW0⟩ : ∃ W0, ((((w.alloc (.cells #[.int .u64 (c 0 : Nat), .int .u64 (c 1 : Nat), .int .u64 (c 2 : Nat), .int .u64 (c 3 : Nat)] 41)).alloc (.cells #[.slice none 0 0] 96)).alloc (.cells #[.int .u64 (c 0 : Nat), .int .u64 (c 1 : Nat), .int .u64 (c 2 : Nat), .int .u64 (c 3 : Nat)] 105)).alloc (.cells #[.pointer (some ⟨w.heap.size + 1 + 1, 0, none⟩)] 120)) = W0 := ⟨_, rfl⟩
  have hsz : W0.heap.size = w.heap.size + 4 := by rw [← hW0]; simp
  have hb0 : Below w.heap.size w W0 := by rw [← hW0]; exact (((below_box w _).alloc (by simp) _).alloc (by simp; omega) _).alloc (by simp; omega) _
  have hbox : Boxed W0 (w.heap.size + 1) 96 (.slice none 0 0) := by
    rw [← hW0]
    have h := Boxed.new (w.alloc (.cells #[.int .u64 (c 0 : Nat), .int .u64 (c 1 : Nat), .int .u64 (c 2 : Nat), .int .u64 (c 3 : Nat)] 41)) 96 (.slice none 0 0)
    rw [show (w.alloc (.cells #[.int .u64 (c 0 : Nat), .int .u64 (c 1 : Nat), .int .u64 (c 2 : Nat), .int .u64 (c 3 : Nat)] 41)).heap.size = w.heap.size + 1 by simp] at h
    exact (h.alloc _).alloc _
  have hself : W0.cell? ⟨w.heap.size + 1 + 1 + 1, 0, none⟩ = some (.pointer (some ⟨w.heap.size + 1 + 1, 0, none⟩)) := by
    rw [← hW0]
    have h := Boxed.new (((w.alloc (.cells #[.int .u64 (c 0 : Nat), .int .u64 (c 1 : Nat), .int .u64 (c 2 : Nat), .int .u64 (c 3 : Nat)] 41)).alloc (.cells #[.slice none 0 0] 96)).alloc (.cells #[.int .u64 (c 0 : Nat), .int .u64 (c 1 : Nat), .int .u64 (c 2 : Nat), .int .u64 (c 3 : Nat)] 105)) 120 (.pointer (some ⟨w.heap.size + 1 + 1, 0, none⟩))
    rw [World.size_alloc, World.size_alloc, World.size_alloc] at h
    exact h.cell
  have hset : ∀ k, k < 4 → W0.cell? ⟨w.heap.size + 1 + 1, 0 + k, none⟩ = some (.int .u64 (c k : Nat)) := by
    intro k hk
    have h0 : W0.heap[w.heap.size + 1 + 1]? = some (.cells #[.int .u64 (c 0 : Nat), .int .u64 (c 1 : Nat), .int .u64 (c 2 : Nat), .int .u64 (c 3 : Nat)] 105) := by
      rw [← hW0]
      have h := World.alloc_heap_new ((w.alloc (.cells #[.int .u64 (c 0 : Nat), .int .u64 (c 1 : Nat), .int .u64 (c 2 : Nat), .int .u64 (c 3 : Nat)] 41)).alloc (.cells #[.slice none 0 0] 96)) (.cells #[.int .u64 (c 0 : Nat), .int .u64 (c 1 : Nat), .int .u64 (c 2 : Nat), .int .u64 (c 3 : Nat)] 105)
      rw [World.size_alloc, World.size_alloc] at h
      exact (Lib.alloc_old _ _ _ (Array.getElem?_eq_some_iff.1 h).1).trans h
    simp only [World.cell?, h0]
    match k, hk with
    | 0, _ => rfl
    | 1, _ => rfl
    | 2, _ => rfl
    | 3, _ => rfl
  have hg0 : 0 < w.heap.size := World.block_lt_of_cell? _ _ (hT 0 (by decide))
  rw [hW0]
  clear hW0
  refine wpIn_rangeFunc_ownG rfl (by omega) (gf := 71) (lb := #[.pointer (some ⟨w.heap.size + 1 + 1 + 1, 0, none⟩)]) rfl trivial (enters_of Tryd.func71 (by kernel_rfl) rfl)
    (bits_stops (fun k => k < W0.heap.size ∧ k ≠ w.heap.size + 1) (w.heap.size + 1 + 1 + 1) (w.heap.size + 1 + 1) 0 c hc ⟨by omega, by omega⟩ ⟨by omega, by omega⟩ W0 hself hset (TabAt.later hT hb0))
    (fun h k => h.trans k) (fun W l o o' hl h _ _ => keepB_put W l o' h (fun e => by omega)) (Below.refl _ _) (fun _ => rfl)
    (fun pre W => (∃ v, Boxed W (w.heap.size + 1) 96 v ∧ W.ownsRow W0.heap.size 98 2 v (runsL pre).length (runCells (runsL pre)) ∧ True) ∧ Below w.heap.size w W ∧ W0.heap.size ≤ W.heap.size)
    (fun _ _ _ => False)
    (OwnFrom.and (Own.from (holdsRow_own W0.heap.size (w.heap.size + 1) 96 98 2 (fun pre => (runsL pre).length) (fun pre => runCells (runsL pre)) (fun _ _ => True)) _) (OwnFrom.and (ownFrom_below (Nat.le_refl _) (by omega)) (fun _ _ _ _ hs hg _ => Nat.le_trans hs hg.size)))
    (fun _ _ _ _ _ hs _ _ => hs)
    ⟨⟨_, hbox, World.ownsRow_nil _ _ _ _, trivial⟩, hb0, Nat.le_refl _⟩
    (fun x => { tmps := #[.agg #[.int .u64 (c 0 : Nat), .int .u64 (c 1 : Nat), .int .u64 (c 2 : Nat), .int .u64 (c 3 : Nat)], .pointer (some ⟨w.heap.size, 0, none⟩), .pointer (some ⟨w.heap.size + 1, 0, none⟩), .pointer (some ⟨w.heap.size + 1 + 1, 0, none⟩), .int .u8 (x.toNat : Int), undef, .agg #[.int .u64 (c 0 : Nat), .int .u64 (c 1 : Nat), .int .u64 (c 2 : Nat), .int .u64 (c 3 : Nat)], .func (.func 71) #[] #[.pointer (some ⟨w.heap.size + 1 + 1 + 1, 0, none⟩)], .int .u8 (x.toNat : Int), undef, undef, undef, undef, undef, undef, undef, undef, undef, undef, undef, undef, undef, undef, undef, undef, undef, undef, undef, undef, undef, undef, undef, undef, undef, undef, undef, undef, undef, undef], defers := [] }) ?assign ?body ?done ?stop
  case assign =>
    intro l x W K hK
    gi_wp2
    exact hK
  case body =>
    rintro l pre x W ⟨⟨v, hv, hrow, _⟩, hB, hle⟩ hlt
    have hpl := runsL_len pre
    by_cases hn : (runsL pre).length = 0
    · have hcv := hv.cell
      have hfv := hv.frozen
      obtain ⟨a, cap, rfl⟩ : ∃ a cap, v = .slice a (runsL pre).length cap := by
        rcases ownsRow_forms' hrow with ⟨hv, h0⟩ | ⟨g, cap, hv⟩
        · exact ⟨none, 0, by rw [hv, h0]⟩
        · exact ⟨_, _, hv⟩
      have hn0 := Lib.hid hn
      rw [hn] at hcv hv hrow
      clear hn
      gi_wp2_with (gi_at_builtin; refine wpListIn_append_own _ rfl _ _ 96 rfl W0.heap.size 98 i0 (.agg #[.int .u8 0, .int .u8 0]) 2 2 Tryd.underlying96 hi hz0 hz1 hz2 rfl (by decide) _ _ _ rfl (hrow.alloc _) ⟨W.heap.size, 0, none⟩ 1 1 [.int .u8 (x.toNat : Int), .int .u8 (x.toNat : Int)] rfl rfl (two_cells _ _ _ _) (by simp [Value.oneCell']) (by unfold maxLen; omega) (by omega) (by simp; omega) ?_; intro v' w1 hown' hgrow _; obtain ⟨g', cap', rfl⟩ := ownsRow_succ hown'; obtain ⟨hv1, hv2, hr2, hk2, hp2, hb2⟩ := boxed_appended hv (by decide) hrow hle (by omega) hown' hgrow; have hc1 := hv1.cell; have hf1 := hv1.frozen)
      have ha : addRun (runsL pre) x = runsL pre ++ [(x, x)] := by unfold addRun; rw [if_neg (fun h => by have := hn0.out; omega)]
      refine ⟨hk2.from _, hp2, ⟨⟨_, hv2, ?_, trivial⟩, hB.trans (hb2 _ (by omega)), Nat.le_trans hle hp2.size⟩⟩
      rw [runsL_snoc, ha, List.length_append, runCells_snoc, hn0.out]
      exact hr2
    · obtain ⟨g, cap, rfl⟩ : ∃ g cap, v = .slice (some ⟨g, 0, none⟩) (runsL pre).length cap := by
        rcases ownsRow_forms' hrow with ⟨hv, h0⟩ | ⟨g, cap, hv⟩
        · omega
        · exact ⟨_, _, hv⟩
      have hcv := hv.cell
      have hfv := hv.frozen
      have hg := runCells_get (runsL pre) ((runsL pre).length - 1) (by omega)
      have hlast := (hrow.cellAt (2 * ((runsL pre).length - 1) + 1) (by omega)).trans hg.2
      have hfz := hrow.frozenAt (2 * ((runsL pre).length - 1) + 1)
      have hst := hrow.stored (2 * ((runsL pre).length - 1) + 1) (.int .u8 (x.toNat : Int))
      have hgb := (hrow.lt g rfl).1
      rw [runCells_set _ _ _ (by omega)] at hst
      have hl0 : 0 < (runsL pre).length := by omega
      generalize hz : ((runsL pre).getD ((runsL pre).length - 1) default) = z at *
      have hzz := z.2.toNat_lt
      have Hz := Lib.hid hz
      have hx1 := x.toNat_lt
      clear hg hn hz
      generalize hm : (runsL pre).length = m at *
      have Hm := Lib.hid hm
      clear hm
      rw [Nat.mul_comm 2] at hlast hfz hst
      by_cases he : z.2.toNat + 1 = x.toNat
      · have hei : (z.2.toNat : Int) + 1 = (x.toNat : Int) := by omega
        have He := Lib.hid he
        clear he
        gi_wp2
        have hkb : KeepB (fun k => k < W0.heap.size ∧ k ≠ w.heap.size + 1) W (W.setCell ⟨g, (m - 1) * 2 + 1, none⟩ (.int .u8 (x.toNat : Int))) :=
          ⟨hst.2.size, fun k hk hl => hst.2.block k hl (fun e => by cases e; omega)⟩
        refine ⟨(KeepsOthers.setCell _ _ _).from _, hkb, ⟨⟨_, hv.kept hst.2 (fun e => by cases e; omega), ?_, trivial⟩, hB.grown hst.2 (by omega) (fun j e => by cases e; omega), Nat.le_trans hle hkb.size⟩⟩
        have ha : addRun (runsL pre) x = (runsL pre).set (m - 1) (z.1, x) := by
          unfold addRun; rw [Hm.out, Hz.out, if_pos ⟨hl0, He.out⟩]
        rw [runsL_snoc, ha, List.length_set, Hm.out]
        exact hst.1
      · have hei : ¬ (z.2.toNat : Int) + 1 = (x.toNat : Int) := by omega
        have He := Lib.hid he
        clear he
        gi_wp2_with (gi_at_builtin; refine wpListIn_append_own _ rfl _ _ 96 rfl W0.heap.size 98 i0 (.agg #[.int .u8 0, .int .u8 0]) 2 2 Tryd.underlying96 hi hz0 hz1 hz2 rfl (by decide) _ _ _ rfl (hrow.alloc _) ⟨W.heap.size, 0, none⟩ 1 1 [.int .u8 (x.toNat : Int), .int .u8 (x.toNat : Int)] rfl rfl (two_cells _ _ _ _) (by simp [Value.oneCell']) (by unfold maxLen; omega) (by omega) (by simp; omega) ?_; intro v' w1 hown' hgrow _; obtain ⟨g', cap', rfl⟩ := ownsRow_succ hown'; obtain ⟨hv1, hv2, hr2, hk2, hp2, hb2⟩ := boxed_appended hv (by decide) hrow hle (by omega) hown' hgrow; have hc1 := hv1.cell; have hf1 := hv1.frozen)
        have ha : addRun (runsL pre) x = runsL pre ++ [(x, x)] := by
          unfold addRun; rw [Hm.out, Hz.out, if_neg (fun h => He.out h.2)]
        refine ⟨hk2.from _, hp2, ⟨⟨_, hv2, ?_, trivial⟩, hB.trans (hb2 _ (by omega)), Nat.le_trans hle hp2.size⟩⟩
        rw [runsL_snoc, ha, List.length_append, runCells_snoc, Hm.out]
        exact hr2
  case done =>
    rintro D ys W hD rfl ⟨⟨v, hv, hrow, _⟩, hB, _⟩ hK
    obtain ⟨a, cap, rfl⟩ : ∃ a cap, v = .slice a (runsL (preB c 4)).length cap := by
      rcases ownsRow_forms' hrow with ⟨hv, h0⟩ | ⟨g, cap, hv⟩
      · exact ⟨none, 0, by rw [hv, h0]⟩
      · exact ⟨_, _, hv⟩
    have hcv := hv.cell
    have hfv := hv.frozen
    gi_wp2
    refine ⟨by simp, .inl ⟨_, _, rfl, run_takeDeferred ((KeepsOthers.setCell _ _ _).same D _ hK rfl), ?_⟩⟩
    have hW2 := hv.set (.slice a (runsL (preB c 4)).length cap)
    have hK2 := (KeepsOthers.setCell W ⟨w.heap.size + 1, 0, none⟩ (.slice a (runsL (preB c 4)).length cap)).same D _ hK rfl
    have hr2 := ownsRow_setCell_other hrow (a := ⟨w.heap.size + 1, 0, none⟩) (fun e => hv.not_row (by decide) hrow e.symm) (.slice a (runsL (preB c 4)).length cap)
    have hB2 := hB.setCell (p := ⟨w.heap.size + 1, 0, none⟩) (by show w.heap.size ≤ w.heap.size + 1; omega) (.slice a (runsL (preB c 4)).length cap)
    have hcE := (hW2.kept (grownBy_putObj' _ D (.deferred none)) (fun e => by cases e; omega)).cell
    refine ⟨.slice a (runsL (preB c 4)).length cap, by simp [results, Tryd.results56, go_sem, hcE], _, rfl, pairs_of_row (ownsRow_putObj hr2 _ hK2 rfl) (by have := runsL_len (preB c 4); omega), hB2.trans (belowK_b (w := w) (Nat.le_refl _) _ D _ _ (by omega) hK2 rfl rfl)⟩
  case stop =>
    rintro D c pre W _ _ h _
    exact h.elim
end Go.Proofs.YtljoajjbhjdonaaDoor
