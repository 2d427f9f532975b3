/- The arguments: a grammar that came in, opened: where its rules and nodes lie, and what of it is bounded. -/
import Derived.Test.YtljoajjbhjdonaaDoorRight
import Derived.Deep.Slices
import Derived.OpenShut
import Derived.SizedLaws
namespace Go.Proofs.YtljoajjbhjdonaaDoor
open Go.RowKit Go.ChangeShapes Go.WideShapes Go.Deep
set_option maxRecDepth 100000

theorem cOfInt : Tryd.prog.cellsOf 3 = 1 := by kernel_rfl
theorem cOfKind : Tryd.prog.cellsOf 37 = 1 := by kernel_rfl
theorem cOfStr : Tryd.prog.cellsOf 9 = 1 := by kernel_rfl
theorem cOfU64 : Tryd.prog.cellsOf 39 = 1 := by kernel_rfl
theorem cOfClass : Tryd.prog.cellsOf 41 = 4 := by kernel_rfl
theorem cOfInts : Tryd.prog.cellsOf 38 = 1 := by kernel_rfl
theorem cOfRule : Tryd.prog.cellsOf 35 = 2 := by kernel_rfl
theorem cOfNode : Tryd.prog.cellsOf 43 = 9 := by kernel_rfl
theorem cOfRules : Tryd.prog.cellsOf 22 = 1 := by kernel_rfl
theorem cOfNodes : Tryd.prog.cellsOf 23 = 1 := by kernel_rfl
theorem cOfGrammar : Tryd.prog.cellsOf 25 = 2 := by kernel_rfl
theorem bOfInt : Tryd.prog.bytesOf 3 = 8 := by kernel_rfl
theorem bOfRule : Tryd.prog.bytesOf 35 = 24 := by kernel_rfl
theorem bOfNode : Tryd.prog.bytesOf 43 = 96 := by kernel_rfl

theorem weightsAll_mem {H : Type} {P : Program} {e : TypeId} : ∀ {l : List (DataW H)} {d : DataW H}, d ∈ l → ∀ n ∈ d.weights P e, n ∈ DataW.weightsAll P e l
  | x :: r, d, h, n, hn => by
    unfold DataW.weightsAll
    rcases List.mem_cons.1 h with e | h
    · exact List.mem_append_left _ (e ▸ hn)
    · exact List.mem_append_right _ (weightsAll_mem h n hn)
/-- No row, no text in it passes the form's reach. -/
def Light {H : Type} (t : TypeId) (d : DataW H) : Prop := ∀ n ∈ d.weights Tryd.prog t, n ≤ 140737488355328
theorem Light.part {H : Type} {t : TypeId} {fs : Array Field} {parts : List (DataW H)} (hu : Tryd.prog.underlying t = some (.struct fs)) (h : Light t (.agg parts)) {j : Nat} {f : Field} {d : DataW H} (hf : fs[j]? = some f) (hd : parts[j]? = some d) : Light f.type d := fun n hn => h n (by
  simp only [DataW.weights, hu]
  exact DataW.weights_mem_each (j := j) (t := f.type) (by simp [hf]) hd n hn)
theorem Light.elem {H : Type} {t e : TypeId} {elems spare : List (DataW H)} (hu : Tryd.prog.underlying t = some (.slice e)) (h : Light t (.slice elems spare)) {d : DataW H} (hd : d ∈ elems) : Light e d := fun n hn => h n (by
  simp only [DataW.weights, hu]
  exact List.mem_cons_of_mem _ (List.mem_append_left _ (weightsAll_mem hd n hn)))
theorem Light.cap {H : Type} {t e : TypeId} {elems spare : List (DataW H)} (hu : Tryd.prog.underlying t = some (.slice e)) (h : Light t (.slice elems spare)) : (elems.length + spare.length) * Tryd.prog.bytesOf e ≤ 140737488355328 := h _ (by
  simp only [DataW.weights, hu]
  exact List.mem_cons_self)
theorem cell_plain {w : World} {a : Addr} {k : Nat} {v : Value} (h : w.cell? (a.add k) = some v) : (k = 0 → a.spot = none) ∧ w.cell? ⟨a.block, a.off + k, none⟩ = some v := by
  by_cases hk : k = 0
  · subst hk
    have e : a.add 0 = a := by simp [Addr.add]
    rw [e] at h
    have hs := World.cell?_spot h
    refine ⟨fun _ => hs, ?_⟩
    obtain ⟨b, o, s⟩ := a
    simp only at hs
    subst hs
    exact h
  · have e : a.add k = ⟨a.block, a.off + k, none⟩ := by simp [Addr.add, hk]
    rw [e] at h
    exact ⟨fun h0 => absurd h0 hk, h⟩
theorem add_block (a : Addr) (k : Nat) : (a.add k).block = a.block := by unfold Addr.add; split <;> rfl
theorem add_off (a : Addr) (k : Nat) : (a.add k).off = a.off + k := by
  unfold Addr.add; split
  · rename_i h; rw [h]; rfl
  · rfl
theorem add_zero (a : Addr) : a.add 0 = a := by simp [Addr.add]
theorem sliceAt_of {a : Addr} {len cap sz : Nat} {E : Nat → Nat → Nat → Prop} (hl : len ≤ cap) (hc : cap ≤ 140737488355328) (h0 : 0 < len → a.spot = none) (h : ∀ i, i < len → E i a.block (a.off + i * sz)) : SliceAt (.slice (some a) len cap) len sz E := by
  refine ⟨some a, cap, rfl, hl, hc, fun i hi => ⟨a.block, a.off, ?_, h i hi⟩⟩
  obtain ⟨b, o, s⟩ := a
  have := h0 (by omega)
  simp only at this
  rw [this]
section
variable {H : Type} {enc : TypeId × Value → H} {w : World}
theorem ints_open {fuel : Nat} {cs : List Value} {x : DataW H × List MemPlace} (h : DataW.trod enc Tryd.prog w 0 (fun _ => true) true fuel 38 cs = some x) (hw : Light 38 x.1) : ∃ v l, cs = [v] ∧ IntsAt w v l := by
  rcases open_slice1 Tryd.underlying38 cOfInt h with ⟨rfl, _⟩ | ⟨a, len, cap, m, n, V, D, Pl, rfl, _, hl, hm, hmm, rfl, hV⟩
  · exact ⟨_, [], rfl, SliceAt.nil⟩
  · obtain rfl : m = cap := by simpa using hmm
    have hcap := Light.cap Tryd.underlying38 hw
    rw [bOfInt] at hcap
    simp only [List.length_map, List.length_range] at hcap
    have h1 : ∀ i, i < m → ∃ z : Int, w.cell? (a.add i) = some (.int .i64 z) := fun i hi => by
      obtain ⟨h1, h2⟩ := hV i hi
      obtain ⟨z, e, _⟩ := DataW.trod_int Tryd.underlying3 h2
      exact ⟨z, by rw [h1, (List.cons.inj e).1]⟩
    obtain ⟨f, hf⟩ := choose_lt h1
    refine ⟨_, (List.range len).map f, rfl, ?_⟩
    have := sliceAt_of (a := a) (len := len) (cap := m) (sz := 1) (E := fun i b o => w.cell? ⟨b, o, none⟩ = some (.int .i64 (((List.range len).map f).getD i 0))) hl (by omega) (fun h0 => (cell_plain (hf 0 (by omega))).1 rfl) fun i hi => by
      have h2 := cell_plain (hf i (by omega))
      rw [Nat.mul_one, h2.2]
      simp [List.getD, hi]
    unfold IntsAt
    rw [show ((List.range len).map f).length = len by simp]
    exact this
theorem rule_open {fuel : Nat} {a : Addr} {cs : List Value} {x : DataW H × List MemPlace} (hc : w.cells? 0 a 2 = some cs) (h : DataW.trod enc Tryd.prog w 0 (fun _ => true) true fuel 35 cs = some x) (hw : Light 35 x.1) :
    ∃ r : Rule, a.spot = none ∧ RuleAt w a.block a.off r ∧ r.name.size ≤ 140737488355328 := by
  obtain ⟨xs, n, _, rfl, _, hlen, hg⟩ := DataW.trod_struct Tryd.underlying35 h
  obtain ⟨_, hl, hat⟩ := World.cells?_some hc
  have g0 : DataW.trod enc Tryd.prog w 0 (fun _ => true) true n 9 (List.take (Tryd.prog.cellsOf 9) (List.drop 0 cs)) = xs[0]? := hg 0 _ rfl
  have g1 : DataW.trod enc Tryd.prog w 0 (fun _ => true) true n 3 (List.take (Tryd.prog.cellsOf 3) (List.drop 1 cs)) = xs[1]? := hg 1 _ rfl
  rw [cOfStr] at g0
  rw [cOfInt] at g1
  match cs, hl, xs, hlen with
  | [c0, c1], _, [y0, y1], _ =>
    obtain ⟨s, e0, e0', _⟩ := DataW.trod_string Tryd.underlying9 (by simpa using g0)
    obtain ⟨z, e1, _⟩ := DataW.trod_int Tryd.underlying3 (by simpa using g1)
    cases e0
    cases e1
    have h0 := cell_plain (hat 0 (by decide))
    have h1 := cell_plain (hat 1 (by decide))
    refine ⟨⟨s, z⟩, h0.1 rfl, ⟨h0.2, h1.2⟩, ?_⟩
    have hl0 := hw.part (j := 0) Tryd.underlying35 rfl (d := y0.1) (by rfl)
    subst e0'
    have := hl0 s.data.toList.length (by simp [DataW.weights])
    simpa using this
theorem node_open {fuel : Nat} {a : Addr} {cs : List Value} {x : DataW H × List MemPlace} (hc : w.cells? 0 a 9 = some cs) (h : DataW.trod enc Tryd.prog w 0 (fun _ => true) true fuel 43 cs = some x) (hw : Light 43 x.1) :
    ∃ r : Node, a.spot = none ∧ NodeAt w a.block a.off r ∧ r.text.size ≤ 140737488355328 ∧ Wd r := by
  obtain ⟨xs, n, _, rfl, _, hlen, hg⟩ := DataW.trod_struct Tryd.underlying43 h
  obtain ⟨_, hl, hat⟩ := World.cells?_some hc
  have g0 : DataW.trod enc Tryd.prog w 0 (fun _ => true) true n 37 (List.take (Tryd.prog.cellsOf 37) (List.drop 0 cs)) = xs[0]? := hg 0 _ rfl
  have g1 : DataW.trod enc Tryd.prog w 0 (fun _ => true) true n 41 (List.take (Tryd.prog.cellsOf 41) (List.drop 1 cs)) = xs[1]? := hg 1 _ rfl
  have g2 : DataW.trod enc Tryd.prog w 0 (fun _ => true) true n 9 (List.take (Tryd.prog.cellsOf 9) (List.drop 5 cs)) = xs[2]? := hg 2 _ rfl
  have g3 : DataW.trod enc Tryd.prog w 0 (fun _ => true) true n 3 (List.take (Tryd.prog.cellsOf 3) (List.drop 6 cs)) = xs[3]? := hg 3 _ rfl
  have g4 : DataW.trod enc Tryd.prog w 0 (fun _ => true) true n 3 (List.take (Tryd.prog.cellsOf 3) (List.drop 7 cs)) = xs[4]? := hg 4 _ rfl
  have g5 : DataW.trod enc Tryd.prog w 0 (fun _ => true) true n 38 (List.take (Tryd.prog.cellsOf 38) (List.drop 8 cs)) = xs[5]? := hg 5 _ rfl
  rw [cOfKind] at g0
  rw [cOfClass] at g1
  rw [cOfStr] at g2
  rw [cOfInt] at g3 g4
  rw [cOfInts] at g5
  match cs, hl, xs, hlen with
  | [c0, c1, c2, c3, c4, c5, c6, c7, c8], _, [y0, y1, y2, y3, y4, y5], _ =>
    obtain ⟨z0, e0, _⟩ := DataW.trod_int Tryd.underlying37 (by simpa using g0)
    obtain ⟨ys, n1, _, _, _, _, hy⟩ := DataW.trod_array Tryd.underlying41 (by simpa using g1)
    obtain ⟨s, e2, e2', _⟩ := DataW.trod_string Tryd.underlying9 (by simpa using g2)
    obtain ⟨z3, e3, _⟩ := DataW.trod_int Tryd.underlying3 (by simpa using g3)
    obtain ⟨z4, e4, _⟩ := DataW.trod_int Tryd.underlying3 (by simpa using g4)
    have hl5 := hw.part (j := 5) Tryd.underlying43 rfl (d := y5.1) (by rfl)
    obtain ⟨kv, kl, e5, hk⟩ := ints_open (by simpa using g5) hl5
    have hu : ∀ i, i < 4 → ∃ y : DataW H × List MemPlace, DataW.trod enc Tryd.prog w 0 (fun _ => true) true n1 39 (([c1, c2, c3, c4].drop i).take 1) = some y := fun i hi => by
      have h1 := hy i hi
      rw [cOfU64, Nat.mul_one, List.getElem?_eq_getElem (by omega)] at h1
      exact ⟨_, h1⟩
    obtain ⟨_, u0⟩ := hu 0 (by decide)
    obtain ⟨_, u1⟩ := hu 1 (by decide)
    obtain ⟨_, u2⟩ := hu 2 (by decide)
    obtain ⟨_, u3⟩ := hu 3 (by decide)
    obtain ⟨k0, f0, _, w0⟩ := DataW.trod_int Tryd.underlying39 u0
    obtain ⟨k1, f1, _, w1⟩ := DataW.trod_int Tryd.underlying39 u1
    obtain ⟨k2, f2, _, w2⟩ := DataW.trod_int Tryd.underlying39 u2
    obtain ⟨k3, f3, _, w3⟩ := DataW.trod_int Tryd.underlying39 u3
    cases e0
    cases e2
    cases e3
    cases e4
    cases e5
    cases f0
    cases f1
    cases f2
    cases f3
    have A0 := cell_plain (show w.cell? (a.add 0) = some _ from hat 0 (by decide))
    have A1 := cell_plain (show w.cell? (a.add 1) = some _ from hat 1 (by decide))
    have A2 := cell_plain (show w.cell? (a.add 2) = some _ from hat 2 (by decide))
    have A3 := cell_plain (show w.cell? (a.add 3) = some _ from hat 3 (by decide))
    have A4 := cell_plain (show w.cell? (a.add 4) = some _ from hat 4 (by decide))
    have A5 := cell_plain (show w.cell? (a.add 5) = some _ from hat 5 (by decide))
    have A6 := cell_plain (show w.cell? (a.add 6) = some _ from hat 6 (by decide))
    have A7 := cell_plain (show w.cell? (a.add 7) = some _ from hat 7 (by decide))
    have A8 := cell_plain (show w.cell? (a.add 8) = some _ from hat 8 (by decide))
    refine ⟨⟨z0, k0, k1, k2, k3, s, z3, z4, kl⟩, A0.1 rfl, ⟨A0.2, A1.2, A2.2, A3.2, A4.2, A5.2, A6.2, A7.2, c8, A8.2, hk⟩, ?_, ?_⟩
    · have hl2 := hw.part (j := 2) Tryd.underlying43 rfl (d := y2.1) (by rfl)
      subst e2'
      have := hl2 s.data.toList.length (by simp [DataW.weights])
      simpa using this
    · have b0 := bounds_u64 w0
      have b1 := bounds_u64 w1
      have b2 := bounds_u64 w2
      have b3 := bounds_u64 w3
      exact ⟨⟨b0.1, by simp only; omega⟩, ⟨b1.1, by simp only; omega⟩, ⟨b2.1, by simp only; omega⟩, b3.1, by simp only; omega⟩
theorem rules_open {fuel : Nat} {cs : List Value} {x : DataW H × List MemPlace} (h : DataW.trod enc Tryd.prog w 0 (fun _ => true) true fuel 22 cs = some x) (hw : Light 22 x.1) :
    ∃ v l, cs = [v] ∧ RulesAt w v l ∧ ∀ r ∈ l, r.name.size ≤ 140737488355328 := by
  rcases open_slice Tryd.underlying22 h with ⟨rfl, _⟩ | ⟨a, len, cap, m, n, D, Pl, rfl, _, hl, hm, hmm, rfl, hV⟩
  · exact ⟨_, [], rfl, SliceAt.nil, by simp⟩
  · obtain rfl : m = cap := by simpa using hmm
    have hcap := Light.cap Tryd.underlying22 hw
    rw [bOfRule] at hcap
    simp only [List.length_map, List.length_range] at hcap
    rw [cOfRule] at hV
    have h1 : ∀ i, i < len → ∃ r : Rule, (i = 0 → a.spot = none) ∧ RuleAt w a.block (a.off + i * 2) r ∧ r.name.size ≤ 140737488355328 := fun i hi => by
      obtain ⟨cs', h1, h2⟩ := hV i (by omega)
      obtain ⟨r, q1, q2, q3⟩ := rule_open h1 h2 (hw.elem Tryd.underlying22 (List.mem_map.2 ⟨i, List.mem_range.2 hi, rfl⟩))
      rw [add_block, add_off] at q2
      exact ⟨r, fun e => by rw [e, Nat.zero_mul, add_zero] at q1; exact q1, q2, q3⟩
    obtain ⟨f, hf⟩ := choose_lt h1
    refine ⟨_, (List.range len).map f, rfl, ?_, ?_⟩
    · have := sliceAt_of (a := a) (len := len) (cap := m) (sz := 2) (E := fun i b o => RuleAt w b o (((List.range len).map f).getD i default)) hl (by omega) (fun h0 => (hf 0 h0).1 rfl) fun i hi => by
        have e : ((List.range len).map f).getD i default = f i := by simp [List.getD, hi]
        rw [e]
        exact (hf i hi).2.1
      unfold RulesAt
      rw [show ((List.range len).map f).length = len by simp]
      exact this
    · intro r hr
      obtain ⟨i, hi, rfl⟩ := List.mem_map.1 hr
      exact (hf i (List.mem_range.1 hi)).2.2
theorem nodes_open {fuel : Nat} {cs : List Value} {x : DataW H × List MemPlace} (h : DataW.trod enc Tryd.prog w 0 (fun _ => true) true fuel 23 cs = some x) (hw : Light 23 x.1) :
    ∃ v l, cs = [v] ∧ NodesAt w v l ∧ (∀ r ∈ l, r.text.size ≤ 140737488355328) ∧ ∀ r ∈ l, Wd r := by
  rcases open_slice Tryd.underlying23 h with ⟨rfl, _⟩ | ⟨a, len, cap, m, n, D, Pl, rfl, _, hl, hm, hmm, rfl, hV⟩
  · exact ⟨_, [], rfl, SliceAt.nil, by simp, by simp⟩
  · obtain rfl : m = cap := by simpa using hmm
    have hcap := Light.cap Tryd.underlying23 hw
    rw [bOfNode] at hcap
    simp only [List.length_map, List.length_range] at hcap
    rw [cOfNode] at hV
    have h1 : ∀ i, i < len → ∃ r : Node, (i = 0 → a.spot = none) ∧ NodeAt w a.block (a.off + i * 9) r ∧ r.text.size ≤ 140737488355328 ∧ Wd r := fun i hi => by
      obtain ⟨cs', h1, h2⟩ := hV i (by omega)
      obtain ⟨r, q1, q2, q3⟩ := node_open h1 h2 (hw.elem Tryd.underlying23 (List.mem_map.2 ⟨i, List.mem_range.2 hi, rfl⟩))
      rw [add_block, add_off] at q2
      exact ⟨r, fun e => by rw [e, Nat.zero_mul, add_zero] at q1; exact q1, q2, q3⟩
    obtain ⟨f, hf⟩ := choose_lt h1
    refine ⟨_, (List.range len).map f, rfl, ?_, ?_, ?_⟩
    · have := sliceAt_of (a := a) (len := len) (cap := m) (sz := 9) (E := fun i b o => NodeAt w b o (((List.range len).map f).getD i default)) hl (by omega) (fun h0 => (hf 0 h0).1 rfl) fun i hi => by
        have e : ((List.range len).map f).getD i default = f i := by simp [List.getD, hi]
        rw [e]
        exact (hf i hi).2.1
      unfold NodesAt
      rw [show ((List.range len).map f).length = len by simp]
      exact this
    · intro r hr
      obtain ⟨i, hi, rfl⟩ := List.mem_map.1 hr
      exact (hf i (List.mem_range.1 hi)).2.2.1
    · intro r hr
      obtain ⟨i, hi, rfl⟩ := List.mem_map.1 hr
      exact (hf i (List.mem_range.1 hi)).2.2.2
/-- A grammar that came in. -/
theorem grammar_open {r : Reach} {b0 : Nat} {v : Value} {d : DataW H} {ps : List MemPlace} (hv : Value.okWide Tryd.prog w r b0 25 v) (h : DataW.Trod enc Tryd.prog w 0 (fun _ => true) true 25 v d ps) (hw : Light 25 d) :
    ∃ rv nv rs ns, v = .agg #[rv, nv] ∧ RulesAt w rv rs ∧ NodesAt w nv ns ∧ Fine rs ns ∧ ∀ x ∈ ns, Wd x := by
  obtain ⟨cs, rfl, hsz⟩ := okWide_struct Tryd.underlying25 hv
  obtain ⟨fuel, hf⟩ := h
  obtain ⟨xs, n, _, hx, _, hlen, hg⟩ := DataW.trod_struct Tryd.underlying25 hf
  rw [cOfGrammar] at hsz
  obtain ⟨l⟩ := cs
  have g0 : DataW.trod enc Tryd.prog w 0 (fun _ => true) true n 22 (List.take (Tryd.prog.cellsOf 22) (List.drop 0 l)) = xs[0]? := hg 0 _ rfl
  have g1 : DataW.trod enc Tryd.prog w 0 (fun _ => true) true n 23 (List.take (Tryd.prog.cellsOf 23) (List.drop 1 l)) = xs[1]? := hg 1 _ rfl
  rw [cOfRules] at g0
  rw [cOfNodes] at g1
  match l, hsz, xs, hlen with
  | [c0, c1], _, [y0, y1], _ =>
    simp only [Prod.mk.injEq] at hx
    obtain ⟨rfl, _⟩ := hx
    obtain ⟨rv, rs, e0, h0, h1⟩ := rules_open (by simpa [Value.cells] using g0) (hw.part (j := 0) Tryd.underlying25 rfl (d := y0.1) (by rfl))
    obtain ⟨nv, ns, e1, h2, h3, h4⟩ := nodes_open (by simpa [Value.cells] using g1) (hw.part (j := 1) Tryd.underlying25 rfl (d := y1.1) (by rfl))
    cases e0
    cases e1
    exact ⟨c0, c1, rs, ns, rfl, h0, h2, ⟨h3, h1⟩, h4⟩
end
end Go.Proofs.YtljoajjbhjdonaaDoor
