/- The ground of this seat's proofs: how a grammar lies in memory, and small laws on maps, arrays and worlds that the walks use. No condition. -/
import Derived.Test.YtljoajjbhjdonaaDoorRows
import Derived.WalkKit
import Derived.WalkSpells
import Derived.WalkLawsBesides
import Derived.Lib.Hide
import Derived.MapKept
import Derived.Laws.EntriesVeiled
import Derived.BigQuiet
import Derived.Deep.QuietTactic
namespace Go.Proofs.YtljoajjbhjdonaaDoor
open Go.RowKit

/-! ### maps that the call lays itself, entry by entry -/
theorem set_alloc_last (w : World) (o o' : Obj) : ({ heap := (w.alloc o).heap.setIfInBounds w.heap.size o', tape := w.tape, drawn := w.drawn, os := w.os, output := w.output } : World) = w.alloc o' := by
  have : (w.heap.push o).setIfInBounds w.heap.size o' = w.heap.push o' := by
    apply Array.ext
    · simp
    · intro i h1 h2
      rw [Array.getElem_setIfInBounds (by simpa using h1), Array.getElem_push, Array.getElem_push]
      by_cases hi : w.heap.size = i
      · subst hi; simp
      · rw [if_neg hi]
        have : i < w.heap.size := by simp at h2; omega
        simp [this]
  show ({ heap := (w.heap.push o).setIfInBounds w.heap.size o', tape := w.tape, drawn := w.drawn, os := w.os, output := w.output } : World) = _
  rw [this]; rfl
theorem run_insert_lay {P : Program} {T k e : TypeId} {d : TypeDesc} (hT : P.underlying T = some (.map k e)) (hk : P.underlying k = some d) (w : World) (es : Array MapEntry) (n : Nat) (key v : Value) (hkey : MapKept.IsKey d key)
    (h : Instr.findNow d key es.toList 0 = some none) :
    (Instr.mapUpdate T (.map (some w.heap.size)) key v).run P (w.alloc (.map es n)) = .ok () (w.alloc (.map (es.push ⟨key, v, n⟩) (n + 1))) := by
  have hb := (MapKept.heap_alloc w (.map es n)).1
  simp [Instr.mapUpdate, run_underlying hT, MapKept.run_getObj_map hb, MapKept.run_checkKey hk hkey, MapKept.run_findKey hk h, MapKept.run_setObj_map _ hb, Result.andThen]
  exact set_alloc_last w _ _
/-- Is a number no key yet? -/
def freshK (q : IntKind) (i : Int) (l : List MapEntry) : Bool := l.all fun e => match e.key with | .int q' j => decide (q' = q) && decide (i ≠ j) | _ => false
theorem freshK_findNow {q : IntKind} {i : Int} {l : List MapEntry} (h : freshK q i l = true) (k : Nat) : Instr.findNow (.int q) (.int q i) l k = some none := by
  induction l generalizing k with
  | nil => rfl
  | cons e l ih =>
    simp only [freshK, List.all_cons, Bool.and_eq_true] at h
    obtain ⟨h1, h2⟩ := h
    split at h1
    · rename_i q' j hj
      simp at h1
      obtain ⟨rfl, h1⟩ := h1
      simp [Instr.findNow, Instr.sameNow, hj]
      have : (i == j) = false := by simpa using h1
      rw [this]
      exact ih h2 _
    · simp at h1
@[go_sem] theorem freshK_nil (q : IntKind) (i : Int) : freshK q i [] = true := by simp [freshK]
@[go_sem] theorem freshK_cons (q : IntKind) (i j : Int) (v : Value) (n : Nat) (l : List MapEntry) : freshK q i (({ key := .int q j, val := v, born := n } : MapEntry) :: l) = (decide (i ≠ j) && freshK q i l) := by simp [freshK]
theorem run_insert_k {P : Program} {T k e : TypeId} {q : IntKind} (hT : P.underlying T = some (.map k e)) (hk : P.underlying k = some (.int q)) (w : World) (l : List MapEntry) (n : Nat) (i : Int) (v : Value)
    (h : freshK q i l = true) :
    (Instr.mapUpdate T (.map (some w.heap.size)) (.int q i) v).run P (w.alloc (.map l.toArray n)) = .ok () (w.alloc (.map (l ++ [({ key := .int q i, val := v, born := n } : MapEntry)]).toArray (n + 1))) := by
  have := run_insert_lay hT hk w l.toArray n (.int q i) v (by simp [MapKept.IsKey]) (freshK_findNow (by simpa using h) 0)
  simpa using this
/-- A look-up in a map of integer keys: what findNow says. -/
theorem run_lookup_k {P : Program} {T k e : TypeId} {q : IntKind} (hT : P.underlying T = some (.map k e)) (hk : P.underlying k = some (.int q)) (w : World) (B : Nat) (es : Array MapEntry) (n : Nat) (i : Int) (j : Nat) (v : Value)
    (hb : w.heap[B]? = some (.map es n)) (h : Instr.findNow (.int q) (.int q i) es.toList 0 = some (some (j, v))) :
    (Instr.lookup T (.map (some B)) (.int q i) false).run P w = .ok v w := by
  simp [Instr.lookup, run_underlying hT, MapKept.run_getObj_map hb, MapKept.run_checkKey hk (show MapKept.IsKey (.int q) (.int q i) by simp [MapKept.IsKey]), MapKept.run_findKey hk h, Result.andThen]
theorem run_lookup_k_none {P : Program} {T k e : TypeId} {q : IntKind} (hT : P.underlying T = some (.map k e)) (hk : P.underlying k = some (.int q)) (w : World) (B : Nat) (es : Array MapEntry) (n : Nat) (i : Int) (z : Value) (hz : (zeroValue e).run P w = .ok z w)
    (hb : w.heap[B]? = some (.map es n)) (h : Instr.findNow (.int q) (.int q i) es.toList 0 = some none) :
    (Instr.lookup T (.map (some B)) (.int q i) false).run P w = .ok z w := by
  simp [Instr.lookup, run_underlying hT, MapKept.run_getObj_map hb, MapKept.run_checkKey hk (show MapKept.IsKey (.int q) (.int q i) by simp [MapKept.IsKey]), MapKept.run_findKey hk h, hz, Result.andThen]
theorem run_lookup_ok {P : Program} {T k e : TypeId} {q : IntKind} (hT : P.underlying T = some (.map k e)) (hk : P.underlying k = some (.int q)) (w : World) (B : Nat) (es : Array MapEntry) (n : Nat) (i : Int) (j : Nat) (v : Value)
    (hb : w.heap[B]? = some (.map es n)) (h : Instr.findNow (.int q) (.int q i) es.toList 0 = some (some (j, v))) :
    (Instr.lookup T (.map (some B)) (.int q i) true).run P w = .ok (.tuple #[v, .bool true]) w := by
  simp [Instr.lookup, run_underlying hT, MapKept.run_getObj_map hb, MapKept.run_checkKey hk (show MapKept.IsKey (.int q) (.int q i) by simp [MapKept.IsKey]), MapKept.run_findKey hk h, Result.andThen]
theorem run_lookup_ok_none {P : Program} {T k e : TypeId} {q : IntKind} (hT : P.underlying T = some (.map k e)) (hk : P.underlying k = some (.int q)) (w : World) (B : Nat) (es : Array MapEntry) (n : Nat) (i : Int) (z : Value) (hz : (zeroValue e).run P w = .ok z w)
    (hb : w.heap[B]? = some (.map es n)) (h : Instr.findNow (.int q) (.int q i) es.toList 0 = some none) :
    (Instr.lookup T (.map (some B)) (.int q i) true).run P w = .ok (.tuple #[z, .bool false]) w := by
  simp [Instr.lookup, run_underlying hT, MapKept.run_getObj_map hb, MapKept.run_checkKey hk (show MapKept.IsKey (.int q) (.int q i) by simp [MapKept.IsKey]), MapKept.run_findKey hk h, hz, Result.andThen]

/-! ### two classes are compared -/
set_option maxHeartbeats 2000000 in
theorem cls_eq_d (d : Nat) (a0 a1 a2 a3 b0 b1 b2 b3 : Int) (w : World) :
    (Op.equalIn (d + 1 + 1) 41 (.agg #[.int .u64 a0, .int .u64 a1, .int .u64 a2, .int .u64 a3]) (.agg #[.int .u64 b0, .int .u64 b1, .int .u64 b2, .int .u64 b3])).run Tryd.prog w
      = .ok (a0 == b0 && (a1 == b1 && (a2 == b2 && a3 == b3))) w := by
  rw [Op.equalIn]
  have e : ∀ a b, (Op.equalIn (d + 1) 39 (.int .u64 a) (.int .u64 b)).run Tryd.prog w = .ok (a == b) w := fun a b => run_equalIn_int w d 39 .u64 .u64 a b Tryd.underlying39
  generalize hE : Op.equalIn (d + 1) 39 = E at e ⊢
  by_cases h0 : a0 = b0 <;> by_cases h1 : a1 = b1 <;> by_cases h2 : a2 = b2 <;> by_cases h3 : a3 = b3 <;> simp [go_sem, List.range'_succ, hE, e, h0, h1, h2, h3]
theorem cls_eq (a0 a1 a2 a3 b0 b1 b2 b3 : Int) (w : World) :
    (Op.equalIn 10000 41 (.agg #[.int .u64 a0, .int .u64 a1, .int .u64 a2, .int .u64 a3]) (.agg #[.int .u64 b0, .int .u64 b1, .int .u64 b2, .int .u64 b3])).run Tryd.prog w
      = .ok (a0 == b0 && (a1 == b1 && (a2 == b2 && a3 == b3))) w := cls_eq_d 9998 ..

/-! ### how things lie in memory -/
/-- Behind a contract that keeps what was: old cells and marks read as before. -/
theorem bcell {W w1 : World} (hb : Below W.heap.size W w1) : (∀ b o, b < W.heap.size → w1.cell? ⟨b, o, none⟩ = W.cell? ⟨b, o, none⟩) ∧ (∀ b o, b < W.heap.size → w1.frozen? ⟨b, o, none⟩ = W.frozen? ⟨b, o, none⟩) :=
  ⟨fun b o h => hb.cell (p := ⟨b, o, none⟩) h, fun b o h => hb.frozen (p := ⟨b, o, none⟩) h⟩
theorem below_chain {a b c : World} (h : Below a.heap.size a b) (k : Below b.heap.size b c) : Below a.heap.size a c := h.trans (k.mono h.size)
theorem below_box (w : World) (o : Obj) : Below w.heap.size w (w.alloc o) := (Below.refl _ _).alloc (Nat.le_refl _) _

theorem below_box2 (w : World) (o o' : Obj) : Below w.heap.size w ((w.alloc o).alloc o') := (below_box w o).alloc (by simp) _
theorem below_box3 (w : World) (o o' o2 : Obj) : Below w.heap.size w (((w.alloc o).alloc o').alloc o2) := (below_box2 w o o').alloc (by simp; omega) _

theorem heap_two (w : World) (o o' : Obj) : ((w.alloc o).alloc o').heap[w.heap.size + 1]? = some o' := by
  have := (MapKept.heap_alloc (w.alloc o) o').1
  simpa using this

/-! ### a region that draws its order, reads, and calls what only makes memory: one walk -/
structure Later (w : World) where
  to : World
  h : Below w.heap.size w to
instance {w : World} : Nonempty (Later w) := ⟨⟨w, Below.refl _ _⟩⟩
theorem Later.of {w : World} {a : Addr} {v : Value} (h : w.cell? a = some v) (x : Later w) : x.to.cell? a = some v := (x.h.cell (World.block_lt_of_cell? w a h)).trans h
theorem wp_region_later {P : Program} {id : Nat} {Q : Exit → Act → World → Prop} {a : Act} {w : World} {l : List Oper} (hm : P.follows .mixedOrders = true) (hB : Region.lexB .any l.toArray = true)
    (h : wpQuiet P l.toArray (fun w' => ∃ x : Later w, w' = x.to) (fun a' => ∀ w', (∃ x : Later w, w' = x.to) → Q .normal a' w') l a) : (Code.region id l.toArray true).wp P Q a w :=
  wp_region_quiet (C := fun w' => ∃ x : Later w, w' = x.to) hm hB ⟨⟨_, (Below.refl _ _).drew⟩, rfl⟩ (by simpa using h)
theorem Calls.later {P : Program} {f : FuncId} {args : Array Value} {w : World} {v : Value} {x : Later w} (h : Calls P f args x.to fun e w' => e = .returned v ∧ Below x.to.heap.size x.to w') :
    Calls P f args x.to fun e w'' => e = .returned v ∧ ∃ y : Later w, w'' = y.to := h.mono fun _ w'' ⟨he, hb⟩ => ⟨he, ⟨w'', below_chain x.h hb⟩, rfl⟩
theorem Calls.later_same {P : Program} {f : FuncId} {args : Array Value} {w : World} {v : Value} {x : Later w} (h : Calls P f args x.to fun e w' => e = .returned v ∧ x.to = w') :
    Calls P f args x.to fun e w'' => e = .returned v ∧ ∃ y : Later w, w'' = y.to := h.mono fun _ _ ⟨he, hb⟩ => ⟨he, x, hb.symm⟩

theorem run_equalIn_func_nil {P : Program} {T : TypeId} {ps rs : Array TypeId} {vd : Bool} (hT : P.underlying T = some (.func ps rs vd)) (fn : Fn) (fi ca : Array Value) (w : World) (d : Nat) : (Op.equalIn (d + 1) T (.func fn fi ca) .nilFunc).run P w = .ok false w := by
  simp [Op.equalIn, run_underlying hT, Result.andThen]
theorem run_equalIn_nil_nil {P : Program} {T : TypeId} {ps rs : Array TypeId} {vd : Bool} (hT : P.underlying T = some (.func ps rs vd)) (w : World) (d : Nat) : (Op.equalIn (d + 1) T .nilFunc .nilFunc).run P w = .ok true w := by
  simp [Op.equalIn, run_underlying hT, Result.andThen]
theorem run_neq_func_nil {P : Program} {T : TypeId} {ps rs : Array TypeId} {vd : Bool} (hT : P.underlying T = some (.func ps rs vd)) (fn : Fn) (fi ca : Array Value) (w : World) : (binOp .neq T (.func fn fi ca) .nilFunc).run P w = .ok (.bool true) w := by
  simp only [binOp]
  simp [Op.equal, Op.maxDepth, run_equalIn_func_nil hT fn fi ca w 9999]
theorem run_eql_func_nil {P : Program} {T : TypeId} {ps rs : Array TypeId} {vd : Bool} (hT : P.underlying T = some (.func ps rs vd)) (fn : Fn) (fi ca : Array Value) (w : World) : (binOp .eql T (.func fn fi ca) .nilFunc).run P w = .ok (.bool false) w := by
  simp only [binOp]
  simp [Op.equal, Op.maxDepth, run_equalIn_func_nil hT fn fi ca w 9999]
theorem run_neq_nil_nil {P : Program} {T : TypeId} {ps rs : Array TypeId} {vd : Bool} (hT : P.underlying T = some (.func ps rs vd)) (w : World) : (binOp .neq T .nilFunc .nilFunc).run P w = .ok (.bool false) w := by
  simp only [binOp]
  simp [Op.equal, Op.maxDepth, run_equalIn_nil_nil hT w 9999]
theorem run_eql_nil_nil {P : Program} {T : TypeId} {ps rs : Array TypeId} {vd : Bool} (hT : P.underlying T = some (.func ps rs vd)) (w : World) : (binOp .eql T .nilFunc .nilFunc).run P w = .ok (.bool true) w := by
  simp only [binOp]
  simp [Op.equal, Op.maxDepth, run_equalIn_nil_nil hT w 9999]

structure Node where
  kind : Int
  c0 : Int
  c1 : Int
  c2 : Int
  c3 : Int
  text : ByteArray
  rule : Int
  level : Int
  kids : List Int
instance : Inhabited Node := ⟨⟨0, 0, 0, 0, 0, ⟨#[]⟩, 0, 0, []⟩⟩
structure Rule where
  name : ByteArray
  body : Int
instance : Inhabited Rule := ⟨⟨⟨#[]⟩, 0⟩⟩

/-- A slice of n things of sz cells each; E says what stands at a place. -/
def SliceAt (v : Value) (n sz : Nat) (E : Nat → Nat → Nat → Prop) : Prop :=
  ∃ a c, v = .slice a n c ∧ n ≤ c ∧ c ≤ 140737488355328 ∧ ∀ i, i < n → ∃ b o, a = some ⟨b, o, none⟩ ∧ E i b (o + i * sz)
theorem SliceAt.mk {b o n c sz : Nat} {E : Nat → Nat → Nat → Prop} (h1 : n ≤ c) (h2 : c ≤ 140737488355328) (h : ∀ i, i < n → E i b (o + i * sz)) : SliceAt (.slice (some ⟨b, o, none⟩) n c) n sz E :=
  ⟨_, _, rfl, h1, h2, fun i hi => ⟨b, o, rfl, h i hi⟩⟩
theorem SliceAt.nil {sz : Nat} {E : Nat → Nat → Nat → Prop} : SliceAt (.slice none 0 0) 0 sz E := ⟨_, _, rfl, Nat.le_refl _, by omega, fun i hi => by omega⟩
theorem SliceAt.imp {v : Value} {n sz : Nat} {E F : Nat → Nat → Nat → Prop} (h : SliceAt v n sz E) (hh : ∀ i b o, i < n → E i b o → F i b o) : SliceAt v n sz F :=
  let ⟨a, c, h1, h2, h3, h4⟩ := h
  ⟨a, c, h1, h2, h3, fun i hi => let ⟨b, o, e, he⟩ := h4 i hi; ⟨b, o, e, hh i b _ hi he⟩⟩
/-- It is empty, or its address is known. -/
theorem SliceAt.cases {v : Value} {n sz : Nat} {E : Nat → Nat → Nat → Prop} (h : SliceAt v n sz E) :
    (n = 0 ∧ ∃ a c, v = .slice a 0 c) ∨ (0 < n ∧ ∃ b o c, v = .slice (some ⟨b, o, none⟩) n c ∧ n ≤ c ∧ c ≤ 140737488355328 ∧ ∀ i, i < n → E i b (o + i * sz)) := by
  obtain ⟨a, c, rfl, h2, h3, h4⟩ := h
  by_cases hn : n = 0
  · subst hn; exact .inl ⟨rfl, _, _, rfl⟩
  · obtain ⟨b, o, rfl, _⟩ := h4 0 (by omega)
    refine .inr ⟨by omega, b, o, c, rfl, h2, h3, fun i hi => ?_⟩
    obtain ⟨b', o', e, he⟩ := h4 i hi
    cases e
    exact he
theorem SliceAt.le {v : Value} {n sz : Nat} {E : Nat → Nat → Nat → Prop} (h : SliceAt v n sz E) : n ≤ 140737488355328 := by
  obtain ⟨a, c, rfl, h2, h3, h4⟩ := h; omega

def IntsAt (w : World) (v : Value) (l : List Int) : Prop := SliceAt v l.length 1 fun i b o => w.cell? ⟨b, o, none⟩ = some (.int .i64 (l.getD i 0))
def NodeAt (w : World) (b o : Nat) (x : Node) : Prop :=
  w.cell? ⟨b, o, none⟩ = some (.int .i64 x.kind) ∧ w.cell? ⟨b, o + 1, none⟩ = some (.int .u64 x.c0) ∧ w.cell? ⟨b, o + 2, none⟩ = some (.int .u64 x.c1) ∧
  w.cell? ⟨b, o + 3, none⟩ = some (.int .u64 x.c2) ∧ w.cell? ⟨b, o + 4, none⟩ = some (.int .u64 x.c3) ∧ w.cell? ⟨b, o + 5, none⟩ = some (.string x.text) ∧
  w.cell? ⟨b, o + 6, none⟩ = some (.int .i64 x.rule) ∧ w.cell? ⟨b, o + 7, none⟩ = some (.int .i64 x.level) ∧ ∃ v, w.cell? ⟨b, o + 8, none⟩ = some v ∧ IntsAt w v x.kids
def NodesAt (w : World) (v : Value) (l : List Node) : Prop := SliceAt v l.length 9 fun i b o => NodeAt w b o (l.getD i default)
def RuleAt (w : World) (b o : Nat) (r : Rule) : Prop := w.cell? ⟨b, o, none⟩ = some (.string r.name) ∧ w.cell? ⟨b, o + 1, none⟩ = some (.int .i64 r.body)
def RulesAt (w : World) (v : Value) (l : List Rule) : Prop := SliceAt v l.length 2 fun i b o => RuleAt w b o (l.getD i default)

section
variable {w w' : World} (hb : Below w.heap.size w w')
include hb
theorem cell_below {a : Addr} {v : Value} (h : w.cell? a = some v) : w'.cell? a = some v := (hb.cell (World.block_lt_of_cell? w a h)).trans h
theorem IntsAt.below {v : Value} {l : List Int} (h : IntsAt w v l) : IntsAt w' v l := SliceAt.imp h fun _ _ _ _ h => cell_below hb h
theorem NodeAt.below {b o : Nat} {x : Node} (h : NodeAt w b o x) : NodeAt w' b o x := by
  obtain ⟨h0, h1, h2, h3, h4, h5, h6, h7, v, h8, h9⟩ := h
  exact ⟨cell_below hb h0, cell_below hb h1, cell_below hb h2, cell_below hb h3, cell_below hb h4, cell_below hb h5, cell_below hb h6, cell_below hb h7, v, cell_below hb h8, h9.below hb⟩
theorem NodesAt.below {v : Value} {l : List Node} (h : NodesAt w v l) : NodesAt w' v l := SliceAt.imp h fun _ _ _ _ h => NodeAt.below hb h
theorem RuleAt.below {b o : Nat} {x : Rule} (h : RuleAt w b o x) : RuleAt w' b o x := ⟨cell_below hb h.1, cell_below hb h.2⟩
theorem RulesAt.below {v : Value} {l : List Rule} (h : RulesAt w v l) : RulesAt w' v l := SliceAt.imp h fun _ _ _ _ h => RuleAt.below hb h
end

theorem ret_int {k : IntKind} {a b : Int} (h : a = b) : Ending.returned (.int k a) = .returned (.int k b) := by rw [h]
theorem ret_bool {a b : Bool} (h : a = b) : Ending.returned (.bool a) = .returned (.bool b) := by rw [h]

end Go.Proofs.YtljoajjbhjdonaaDoor
