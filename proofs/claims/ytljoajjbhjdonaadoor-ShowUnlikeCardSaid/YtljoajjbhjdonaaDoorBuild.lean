/- strings.Builder, alone or at the head of a struct that the call has made: copyCheck, WriteByte, WriteString, Len, String. Condition: what is held and what is written take at most 2^47 bytes together. -/
import Derived.Test.YtljoajjbhjdonaaDoorBase
import Derived.Lib.Builder
import Derived.Shelf.Strings.Builder1
namespace Go.Proofs.YtljoajjbhjdonaaDoor
open Go.RowKit
set_option maxRecDepth 100000

/-- A builder at the head of block b, which the call has made (n0: the first block of the call's own); behind it in the block: rest. It holds the bytes l. -/
def Bld (T : TypeId) (rest : List Value) (n0 b : Nat) (l : List UInt8) (w : World) : Prop :=
  n0 ≤ b ∧ n0 ≤ w.heap.size ∧ ∃ p v, (p = .pointer none ∨ p = .pointer (some ⟨b, 0, none⟩)) ∧ w.heap[b]? = some (.cells (p :: v :: rest).toArray T (0, 0)) ∧ w.ownsRow n0 5 1 v l.length (Lib.byteCells l) ∧ v.ownBlock ≠ some b
/-- T is the type of such a block. -/
def BT (T : TypeId) (k : Nat) : Prop := liesAt Tryd.prog Tryd.prog.depth T ((2 + k) / Tryd.prog.cellsOf T) 0 52 1 = true ∧ T ≠ 5
theorem bt_self : BT 52 0 := ⟨by kernel_rfl, by decide⟩
/-- What a write leaves alone: all below n0, and each block that is neither the builder's own nor a row of bytes. -/
structure Kept (n0 b : Nat) (w w' : World) : Prop where
  below : Below n0 w w'
  rest : ∀ k, k < w.heap.size → k ≠ b → (∀ c f, w.heap[k]? ≠ some (.cells c 5 f)) → w'.heap[k]? = w.heap[k]?
theorem Kept.refl (n0 b : Nat) (w : World) : Kept n0 b w w := ⟨Below.refl _ _, fun _ _ _ _ => rfl⟩
theorem Kept.trans {n0 b : Nat} {w w1 w2 : World} (h : Kept n0 b w w1) (k : Kept n0 b w1 w2) : Kept n0 b w w2 :=
  ⟨h.below.trans k.below, fun i hi hb hc => by
    have e := h.rest i hi hb hc
    rw [k.rest i (Nat.lt_of_lt_of_le hi h.below.size) hb (by rw [e]; exact hc), e]⟩
theorem Kept.of_below {n0 b : Nat} {w w' : World} (h : Below w.heap.size w w') (hn : n0 ≤ w.heap.size) : Kept n0 b w w' := ⟨h.mono hn, fun k hk _ _ => h.block k hk⟩
theorem Kept.block {n0 b : Nat} {w w' : World} (h : Kept n0 b w w') {k : Nat} {c : Array Value} {T : TypeId} {f : Nat × Nat} (hk : w.heap[k]? = some (.cells c T f)) (hb : k ≠ b) (hT : T ≠ 5) : w'.heap[k]? = some (.cells c T f) := by
  rw [h.rest k (Array.getElem?_eq_some_iff.1 hk).1 hb (fun c' f' e => by rw [hk] at e; cases e; exact hT rfl)]
  exact hk
theorem Bld.lt {T : TypeId} {rest : List Value} {n0 b : Nat} {l : List UInt8} {w : World} (h : Bld T rest n0 b l w) : b < w.heap.size := by
  obtain ⟨_, _, p, v, _, hb, _⟩ := h
  exact (Array.getElem?_eq_some_iff.1 hb).1
/-- A builder stays what it is, while only new memory is made. -/
theorem Bld.later {T : TypeId} {rest : List Value} {n0 b : Nat} {l : List UInt8} {w w' : World} (h : Bld T rest n0 b l w) (hb : Below w.heap.size w w') : Bld T rest n0 b l w' := by
  have hlt := h.lt
  obtain ⟨h1, h2, p, v, h3, h4, h5, h6⟩ := h
  refine ⟨h1, Nat.le_trans h2 hb.size, p, v, h3, (hb.block b hlt).trans h4, h5.kept (row := none) ⟨hb.os, hb.tape, hb.output, hb.size, fun k hk _ => hb.block k hk⟩ ?_, h6⟩
  by_cases e : v.ownBlock = none
  · exact .inl e
  · exact .inr e
/-- What stands behind it in its block. -/
theorem Bld.cell {T : TypeId} {rest : List Value} {n0 b : Nat} {l : List UInt8} {w : World} (h : Bld T rest n0 b l w) (i : Nat) : w.cell? ⟨b, 2 + i, none⟩ = rest[i]? := by
  obtain ⟨_, _, p, v, _, hb, _⟩ := h
  have e : 2 + i = i + 1 + 1 := by omega
  simp [World.cell?, hb, e]
theorem Bld.fresh (T : TypeId) (rest : List Value) (w : World) (n0 : Nat) (h : n0 ≤ w.heap.size) : Bld T rest n0 w.heap.size [] (w.alloc (.cells (.pointer none :: .slice none 0 0 :: rest).toArray T)) :=
  ⟨h, by simp; omega, _, _, .inl rfl, (MapKept.heap_alloc w _).1, World.ownsRow_nil _ _ _ _, by simp [Value.ownBlock]⟩

theorem infoByte : (Tryd.prog.info? 5).map (fun i => (i.zero, i.size, i.bytes)) = some (some (.int .u8 0), 1, 1) := by kernel_rfl
theorem sizeBuilder : (Tryd.prog.info? 52).map (·.size) = some 2 := by kernel_rfl

set_option maxHeartbeats 1000000 in
theorem copyCheck_used (b : Nat) (w : World) (h0 : w.cell? ⟨b, 0, none⟩ = some (.pointer (some ⟨b, 0, none⟩))) :
    Calls Tryd.prog 31 #[.pointer (some ⟨b, 0, none⟩)] w fun e w' => e = .returned (.tuple #[]) ∧ w' = w := by
  obtain ⟨j, hj, _⟩ := Option.map_eq_some_iff.1 sizeBuilder
  go_enter Tryd.func31, Tryd.ntmps31
  go_wp2
  rw [Lib.run_neq_ptr_same w _ Tryd.underlying49 hj]
  go_wp2
  go_end0
  exact ⟨rfl, rfl⟩
set_option maxHeartbeats 1000000 in
theorem copyCheck_fresh {T : TypeId} {k : Nat} (hT : BT T k) (b : Nat) (w : World) (h0 : w.cell? ⟨b, 0, none⟩ = some (.pointer none)) (hsh : w.shape? b = some (T, 2 + k)) (hfz : w.frozen? ⟨b, 0, none⟩ = false) :
    Calls Tryd.prog 31 #[.pointer (some ⟨b, 0, none⟩)] w fun e w' => e = .returned (.tuple #[]) ∧ w' = w.setCell ⟨b, 0, none⟩ (.pointer (some ⟨b, 0, none⟩)) := by
  obtain ⟨j, hj, hjs⟩ := Option.map_eq_some_iff.1 sizeBuilder
  go_enter Tryd.func31, Tryd.ntmps31
  go_wp2
  rw [Lib.run_to_unsafe w ⟨b, 0, none⟩ Tryd.underlying49 Tryd.underlying93 hj (by rw [hjs]; decide) hsh (by show 0 < 2 + k; omega)]
  simp only [Result.andThen]
  rw [Oper.upon_value]
  go_wp2
  rw [run_callFunc_extern Tryd.func48 (by kernel_rfl) (by kernel_rfl) (by kernel_rfl) (e := Extern.AbiNoEscape.same) (by kernel_rfl)]
  rw [Lib.run_noEscape]
  simp only [Result.andThen]
  rw [Oper.upon_value]
  go_wp2
  rw [Lib.run_from_unsafe w ⟨b, 0, none⟩ Tryd.underlying93 Tryd.underlying49 hj hsh hT.1]
  simp only [Result.andThen]
  rw [Oper.upon_value]
  go_wp2
  go_end0
  exact ⟨rfl, rfl⟩
theorem Kept.setCell {n0 b : Nat} {w w' : World} (h : Kept n0 b w w') (hn : n0 ≤ b) (o : Nat) (v : Value) : Kept n0 b w (w'.setCell ⟨b, o, none⟩ v) :=
  ⟨h.below.setCell (p := ⟨b, o, none⟩) hn v, fun k hk hb hc => by rw [Below.heap_setCell _ _ _ _ (by show k ≠ b; exact hb)]; exact h.rest k hk hb hc⟩
theorem own_cells {w : World} {base : Nat} {e : TypeId} {v : Value} {n : Nat} {xs : List Value} (h : w.ownsRow base e 1 v n xs) {g : Nat} (hg : v.ownBlock = some g) : base ≤ g ∧ ∃ c f, w.heap[g]? = some (.cells c e f) := by
  rcases h.2 with ⟨rfl, _⟩ | ⟨g', cap, cur, rfl, hb, hh, _⟩
  · simp [Value.ownBlock] at hg
  · simp [Value.ownBlock] at hg; subst hg; exact ⟨hb, cur, _, hh⟩
theorem Kept.grown {n0 b : Nat} {w w1 w2 : World} (h : Kept n0 b w w1) {v : Value} {n : Nat} {xs : List Value} (hown : w1.ownsRow n0 5 1 v n xs) (hg : w1.grownBy w2 v.ownBlock) (hn : n0 ≤ w1.heap.size) : Kept n0 b w w2 := by
  refine h.trans ⟨(Below.refl n0 w1).grown hg hn (fun k hk => (own_cells hown hk).1), fun k hk hb hc => hg.block k hk (fun e => ?_)⟩
  obtain ⟨_, c, f, hh⟩ := own_cells hown e.symm
  exact hc c f hh
theorem Bld.set_addr {T : TypeId} {rest : List Value} {n0 b : Nat} {l : List UInt8} {w : World} (h : Bld T rest n0 b l w) : Bld T rest n0 b l (w.setCell ⟨b, 0, none⟩ (.pointer (some ⟨b, 0, none⟩))) := by
  obtain ⟨h1, h2, p, v, h3, h4, h5, h6⟩ := h
  exact ⟨h1, by simpa using h2, _, v, .inr rfl, by simp [World.setCell, Array.getElem?_modify, h4], ownsRow_setCell_other h5 h6 _, h6⟩
theorem copyCheck_calls {T : TypeId} {rest : List Value} (hT : BT T rest.length) {n0 b : Nat} {l : List UInt8} (w : World) (h : Bld T rest n0 b l w) :
    Calls Tryd.prog 31 #[.pointer (some ⟨b, 0, none⟩)] w fun e w' => e = .returned (.tuple #[]) ∧ Bld T rest n0 b l w' ∧ Kept n0 b w w' ∧ w.heap.size ≤ w'.heap.size := by
  obtain ⟨h1, h2, p, v, h3, h4, h5, h6⟩ := id h
  rcases h3 with rfl | rfl
  · refine (copyCheck_fresh hT b w (by simp [World.cell?, h4]) (by simp [World.shape?, h4]; omega) (by simp [World.frozen?, h4])).mono ?_
    rintro e w' ⟨rfl, rfl⟩
    exact ⟨rfl, h.set_addr, (Kept.refl _ _ _).setCell h1 _ _, by simp⟩
  · refine (copyCheck_used b w (by simp [World.cell?, h4])).mono ?_
    rintro e w' ⟨rfl, rfl⟩
    exact ⟨rfl, h, Kept.refl _ _ _, Nat.le_refl _⟩
theorem Bld.put {T : TypeId} {rest : List Value} {n0 b : Nat} {l' : List UInt8} {w : World} {p v v' : Value} (hT : T ≠ 5) (h1 : n0 ≤ b) (h2 : n0 ≤ w.heap.size) (hp : p = .pointer none ∨ p = .pointer (some ⟨b, 0, none⟩)) (hb : w.heap[b]? = some (.cells (p :: v :: rest).toArray T (0, 0)))
    (hown : w.ownsRow n0 5 1 v' l'.length (Lib.byteCells l')) : Bld T rest n0 b l' (w.setCell ⟨b, 1, none⟩ v') := by
  have hne : v'.ownBlock ≠ some b := fun e => by
    obtain ⟨_, c, f, hh⟩ := own_cells hown e
    rw [hb] at hh; cases hh; exact hT rfl
  exact ⟨h1, by simpa using h2, p, v', hp, by simp [World.setCell, Array.getElem?_modify, hb], ownsRow_setCell_other hown hne _, hne⟩

set_option maxHeartbeats 2000000 in
/-- (*strings.Builder).WriteString. -/
theorem WriteString_calls {T : TypeId} {rest : List Value} (hT : BT T rest.length) {n0 b : Nat} {l : List UInt8} (s : ByteArray) (w : World) (h : Bld T rest n0 b l w) (hlen : l.length + s.size ≤ 140737488355328) :
    Calls Tryd.prog 20 #[.pointer (some ⟨b, 0, none⟩), .string s] w fun e w' => e = .returned (.tuple #[.int .i64 s.size, .nilIface]) ∧ Bld T rest n0 b (l ++ s.data.toList) w' ∧ Kept n0 b w w' := by
  obtain ⟨i0, hi, hz0, hz1, hz2⟩ := info_parts infoByte
  go_enter Tryd.func20, Tryd.ntmps20
  go_wp2_with (go_at_call 31; refine (copyCheck_calls hT w h).mono ?_)
  rintro e w1 ⟨rfl, h1, hk1, hs1⟩
  obtain ⟨hB, hB2, p, v, hp, hbk, hown, hne⟩ := h1
  have c1 : w1.cell? ⟨b, 1, none⟩ = some v := by simp [World.cell?, hbk]
  go_wp2_with (at_builtin; refine Lib.wpList_append_own_string _ rfl _ _ 50 9 rfl n0 5 i0 Tryd.underlying50 Tryd.underlying9 hi hz0 hz1 hz2 _ _ _ rfl hown s rfl ?c3 ?c4 ?c5 ?_)
  case c3 => unfold maxLen; omega
  case c4 => omega
  case c5 => omega
  intro v' w2 hown' hgrow _
  have hlt : b < w1.heap.size := (Array.getElem?_eq_some_iff.1 hbk).1
  have hb2 : w2.heap[b]? = some (.cells (p :: v :: rest).toArray T (0, 0)) := by
    rw [hgrow.block b hlt (fun e => hne e.symm)]
    exact hbk
  have d1 : w2.cell? ⟨b, 1, none⟩ = some v := by simp [World.cell?, hb2]
  have f1 : w2.frozen? ⟨b, 1, none⟩ = false := by simp [World.frozen?, hb2]
  have hk2 := hk1.grown hown hgrow hB2
  have hs2 := hgrow.size
  obtain ⟨ao, n', cap, rfl⟩ : ∃ ao n' cap, v' = .slice ao n' cap := by
    rcases hown'.2 with ⟨hv, _⟩ | ⟨g, cap, cur, hv, _⟩
    · exact ⟨_, _, _, hv⟩
    · exact ⟨_, _, _, hv⟩
  have hfin : Bld T rest n0 b (l ++ s.data.toList) (w2.setCell ⟨b, 1, none⟩ (.slice ao n' cap)) := by
    refine Bld.put hT.2 hB (by omega) hp hb2 ?_
    have e1 : (l ++ s.data.toList).length = l.length + s.size := by rw [List.length_append, Array.length_toList]; rfl
    have e2 : Lib.byteCells (l ++ s.data.toList) = Lib.byteCells l ++ Lib.strCells s := by simp [Lib.byteCells, Lib.strCells]
    rw [e1, e2]
    exact hown'
  have hk3 := hk2.setCell hB 1 (.slice ao n' cap)
  have Hf := Lib.hid hfin
  clear hfin hown' hgrow hb2 hbk hown h
  go_wp2
  go_ret2
  exact ⟨rfl, Hf.out, hk3⟩

set_option maxHeartbeats 2000000 in
/-- (*strings.Builder).WriteByte. -/
theorem WriteByte_calls {T : TypeId} {rest : List Value} (hT : BT T rest.length) {n0 b : Nat} {l : List UInt8} (c : UInt8) (w : World) (h : Bld T rest n0 b l w) (hlen : l.length + 1 ≤ 140737488355328) :
    Calls Tryd.prog 30 #[.pointer (some ⟨b, 0, none⟩), .int .u8 (c.toNat : Int)] w fun e w' => e = .returned .nilIface ∧ Bld T rest n0 b (l ++ [c]) w' ∧ Kept n0 b w w' := by
  obtain ⟨i0, hi, hz0, hz1, hz2⟩ := info_parts infoByte
  go_enter Tryd.func30, Tryd.ntmps30
  go_wp2_with (go_at_call 31; refine (copyCheck_calls hT w h).mono ?_)
  rintro e w1 ⟨rfl, h1, hk1, hs1⟩
  obtain ⟨hB, hB2, p, v, hp, hbk, hown, hne⟩ := h1
  have c1 : w1.cell? ⟨b, 1, none⟩ = some v := by simp [World.cell?, hbk]
  go_wp2_with (at_builtin; refine wpList_append_own _ rfl _ _ 50 rfl n0 5 i0 (.int .u8 0) 1 1 Tryd.underlying50 hi hz0 hz1 hz2 rfl (by decide) _ _ _ rfl (hown.alloc _) ⟨w1.heap.size, 0, none⟩ 1 1 [.int .u8 (c.toNat : Int)] rfl rfl ?c1 ?c2 ?c3 ?c4 ?c5 ?_)
  case c1 =>
    intro j u hj
    match j, hj with
    | 0, hj => simp at hj; subst hj; simp [Addr.add]
  case c2 => intro u hu; simp at hu; subst hu; rfl
  case c3 => unfold maxLen; omega
  case c4 => omega
  case c5 => simp; omega
  intro v' w2 hown' hgrow _
  have hlt : b < w1.heap.size := (Array.getElem?_eq_some_iff.1 hbk).1
  have hb2 : w2.heap[b]? = some (.cells (p :: v :: rest).toArray T (0, 0)) := by
    rw [hgrow.block b (by simp; omega) (fun e => hne e.symm), Lib.alloc_old w1 _ b hlt]
    exact hbk
  have d1 : w2.cell? ⟨b, 1, none⟩ = some v := by simp [World.cell?, hb2]
  have f1 : w2.frozen? ⟨b, 1, none⟩ = false := by simp [World.frozen?, hb2]
  have hk2 := (hk1.trans (Kept.of_below (below_box w1 (.cells #[.int .u8 (c.toNat : Int)] 5)) hB2)).grown (hown.alloc _) hgrow (by simp; omega)
  have hs2 := hgrow.size
  obtain ⟨g, cap, rfl⟩ : ∃ g cap, v' = .slice (some ⟨g, 0, none⟩) (l.length + 1) cap := by
    rcases hown'.2 with ⟨_, h0⟩ | ⟨g, cap, cur, hv, _⟩
    · omega
    · exact ⟨g, cap, hv⟩
  have hfin : Bld T rest n0 b (l ++ [c]) (w2.setCell ⟨b, 1, none⟩ (.slice (some ⟨g, 0, none⟩) (l.length + 1) cap)) := by
    refine Bld.put hT.2 hB (by simp at hs2; omega) hp hb2 ?_
    have e2 : Lib.byteCells (l ++ [c]) = Lib.byteCells l ++ [.int .u8 (c.toNat : Int)] := by simp [Lib.byteCells]
    rw [e2, List.length_append]
    exact hown'
  have hk3 := hk2.setCell hB 1 (.slice (some ⟨g, 0, none⟩) (l.length + 1) cap)
  have Hf := Lib.hid hfin
  clear hfin hown' hgrow hb2 hbk hown h
  go_wp2
  go_ret
  exact ⟨rfl, Hf.out, hk3⟩

/-- (*strings.Builder).Len. -/
theorem Len_calls {T : TypeId} {rest : List Value} {n0 b : Nat} {l : List UInt8} (w : World) (h : Bld T rest n0 b l w) (_hl : l.length ≤ 140737488355328) :
    Calls Tryd.prog 13 #[.pointer (some ⟨b, 0, none⟩)] w fun e w' => e = .returned (.int .i64 (l.length : Nat)) ∧ w = w' := by
  obtain ⟨_, _, p, v, _, hb, hown, _⟩ := h
  obtain ⟨a, cap, rfl⟩ : ∃ a cap, v = .slice a l.length cap := by
    rcases hown.2 with ⟨hv, h0⟩ | ⟨g, cap, cur, hv, _⟩
    · exact ⟨none, 0, by rw [hv, h0]⟩
    · exact ⟨_, _, hv⟩
  have c1 : w.cell? ⟨b, 1, none⟩ = some (.slice a l.length cap) := by simp [World.cell?, hb]
  go_enter Tryd.func13, Tryd.ntmps13
  go_wp2
  go_ret
  exact ⟨rfl, rfl⟩

set_option maxHeartbeats 1000000 in
/-- (*strings.Builder).String of a builder that holds a byte. -/
theorem String_calls {T : TypeId} {rest : List Value} {n0 b : Nat} {l : List UInt8} (w : World) (h : Bld T rest n0 b l w) (h0 : l ≠ []) :
    Calls Tryd.prog 14 #[.pointer (some ⟨b, 0, none⟩)] w fun e w' => e = .returned (.string ⟨l.toArray⟩) ∧ Below n0 w w' := by
  obtain ⟨hB, hB2, p, v, hp, hbk, hown, hne⟩ := h
  have hl0 : l.length ≠ 0 := by simpa using h0
  obtain ⟨g, cap, cur, rfl, hbg, hg, hnc, hcm, hcs, htake⟩ : ∃ g cap cur, v = .slice (some ⟨g, 0, none⟩) l.length cap ∧ n0 ≤ g ∧ w.heap[g]? = some (.cells cur 5 (0, 0)) ∧ l.length ≤ cap ∧ cap ≤ maxLen ∧ cur.size = cap * 1 ∧ cur.toList.take (l.length * 1) = Lib.byteCells l := by
    rcases hown.2 with ⟨_, hz⟩ | ⟨g, cap, cur, hv, r⟩
    · exact absurd hz hl0
    · exact ⟨g, cap, cur, hv, r⟩
  have c1 : w.drew.cell? ⟨b, 1, none⟩ = some (.slice (some ⟨g, 0, none⟩) l.length cap) := by
    have : w.drew.heap[b]? = some (.cells (p :: .slice (some ⟨g, 0, none⟩) l.length cap :: rest).toArray T (0, 0)) := hbk
    simp [World.cell?, this]
  have hSD : (Builtin.unsafeSliceData_ #[50] 68 #[.slice (some ⟨g, 0, none⟩) l.length cap]).run Tryd.prog w.drew = .ok (.pointer (some ⟨g, 0, none⟩)) w.drew :=
    Lib.run_unsafeSliceData_row _ _ _ _ _ _ (by omega)
  have hUS : (Builtin.unsafeString_ #[68, 3] 9 #[.pointer (some ⟨g, 0, none⟩), .int .i64 l.length]).run Tryd.prog w.drew = .ok (.string ⟨l.toArray⟩) (w.drew.freeze ⟨g, 0, none⟩ l.length) := by
    refine Lib.run_unsafeString_row w.drew 68 3 9 5 Tryd.underlying68 (by kernel_rfl) g cur.size (by have hg' : w.drew.heap[g]? = some (.cells cur 5 (0, 0)) := hg; simp [World.shape?, hg']) l h0 (by omega) (by unfold maxLen at hcm; omega) ?_
    intro j x hx
    have := hown.cells (g := g) rfl j (.int .u8 x.toNat) (by simp [Lib.byteCells, hx])
    exact this
  go_enter Tryd.func14, Tryd.ntmps14
  go_wp2
  go_region
  all_goals (go_wp2; go_ret; exact ⟨rfl, Lib.below_freeze (Below.drew (Below.refl n0 w)) (p := ⟨g, 0, none⟩) hbg _⟩)
end Go.Proofs.YtljoajjbhjdonaaDoor
