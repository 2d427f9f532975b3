/- (*strings.Builder).WriteByte as a deferred call. -/
import Derived.Defers
import Derived.Test.YtljoajjbhjdonaaDoorBuild
namespace Go.Proofs.YtljoajjbhjdonaaDoor
open Go.RowKit
set_option maxRecDepth 100000

set_option maxHeartbeats 2000000 in
/-- (*strings.Builder).WriteByte, as a deferred call. -/
theorem WriteByte_deferred {T : TypeId} {rest : List Value} (hT : BT T rest.length) {n0 b : Nat} {l : List UInt8} (c : UInt8) (u : FrameMode) (w : World) (h : Bld T rest n0 b l w) (hlen : l.length + 1 ≤ 140737488355328) :
    CallsD Tryd.prog 30 #[.pointer (some ⟨b, 0, none⟩), .int .u8 (c.toNat : Int)] u w fun e u' w' => u' = u ∧ (e = .returned .nilIface ∧ Bld T rest n0 b (l ++ [c]) w' ∧ Kept n0 b w w') := by
  obtain ⟨i0, hi, hz0, hz1, hz2⟩ := info_parts infoByte
  go_enter_d Tryd.func30, Tryd.ntmps30
  go_wp2_with (go_at_call 31; refine (copyCheck_calls hT w h).mono ?_)
  rintro e w1 ⟨rfl, h1, hk1, hs1⟩
  obtain ⟨hB, hB2, p, v, hp, hbk, hown, hne⟩ := h1
  have c1 : w1.cell? ⟨b, 1, none⟩ = some v := by simp [World.cell?, hbk]
  go_wp2_with (at_builtin; refine wpList_append_own _ rfl _ _ 50 rfl n0 5 i0 (.int .u8 0) 1 1 Tryd.underlying50 hi hz0 hz1 hz2 rfl (by decide) _ _ _ rfl (hown.alloc _) ⟨w1.heap.size, 0, none⟩ 1 1 [.int .u8 (c.toNat : Int)] rfl rfl ?c1 ?c2 ?c3 ?c4 ?c5 ?_)
  case c1 =>
    intro j u hj
    match j, hj with
    | 0, hj => simp at hj; subst hj; simp [Addr.add]
  case c2 => intro u hu; simp at hu; subst hu; rfl
  case c3 => unfold maxLen; omega
  case c4 => omega
  case c5 => simp; omega
  intro v' w2 hown' hgrow _
  have hlt : b < w1.heap.size := (Array.getElem?_eq_some_iff.1 hbk).1
  have hb2 : w2.heap[b]? = some (.cells (p :: v :: rest).toArray T (0, 0)) := by
    rw [hgrow.block b (by simp; omega) (fun e => hne e.symm), Lib.alloc_old w1 _ b hlt]
    exact hbk
  have d1 : w2.cell? ⟨b, 1, none⟩ = some v := by simp [World.cell?, hb2]
  have f1 : w2.frozen? ⟨b, 1, none⟩ = false := by simp [World.frozen?, hb2]
  have hk2 := (hk1.trans (Kept.of_below (below_box w1 (.cells #[.int .u8 (c.toNat : Int)] 5)) hB2)).grown (hown.alloc _) hgrow (by simp; omega)
  have hs2 := hgrow.size
  obtain ⟨g, cap, rfl⟩ : ∃ g cap, v' = .slice (some ⟨g, 0, none⟩) (l.length + 1) cap := by
    rcases hown'.2 with ⟨_, h0⟩ | ⟨g, cap, cur, hv, _⟩
    · omega
    · exact ⟨g, cap, hv⟩
  have hfin : Bld T rest n0 b (l ++ [c]) (w2.setCell ⟨b, 1, none⟩ (.slice (some ⟨g, 0, none⟩) (l.length + 1) cap)) := by
    refine Bld.put hT.2 hB (by simp at hs2; omega) hp hb2 ?_
    have e2 : Lib.byteCells (l ++ [c]) = Lib.byteCells l ++ [.int .u8 (c.toNat : Int)] := by simp [Lib.byteCells]
    rw [e2, List.length_append]
    exact hown'
  have hk3 := hk2.setCell hB 1 (.slice (some ⟨g, 0, none⟩) (l.length + 1) cap)
  have Hf := Lib.hid hfin
  clear hfin hown' hgrow hb2 hbk hown h
  go_wp2
  go_ret
  exact ⟨rfl, Hf.out, hk3⟩

end Go.Proofs.YtljoajjbhjdonaaDoor
