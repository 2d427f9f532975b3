/- class: the bytes of a class, one by one (set.all): the iterator's contract. Condition: the deBruijn table is there. -/
import Derived.RangeFuncNested
import Derived.RangeFuncBound
import Derived.RangeFuncCalls
import Derived.RangeFuncLeaves
import Derived.Shelf.Abstract
import Derived.Shelf.RegionOpen
import Derived.WalkKit
import Derived.OwnWalkIn
import Derived.TacticsInMore
import Derived.LoopNIn
import Derived.LoopIn
import Derived.Sort.QuietIn
import Derived.Sort.LoopGhostIn
import Derived.Test.YtljoajjbhjdonaaDoorEsc
namespace Go.Proofs.YtljoajjbhjdonaaDoor
open Go.RowKit Go.Shelf
attribute [local go_sem] Oper.semAt_some
set_option maxRecDepth 100000

theorem and_pred_lt {x : Nat} (h : x ≠ 0) : x &&& (x - 1) < x := Nat.lt_of_le_of_lt Nat.and_le_right (by omega)
/-- The places of the bits of a number, rising. -/
def lowL (x : Nat) : List Nat := if h : x = 0 then [] else Lib.ctz 64 x :: lowL (x &&& (x - 1))
termination_by x
decreasing_by exact and_pred_lt h
theorem ctz_lt {x : Nat} (h : x ≠ 0) (h2 : x < 18446744073709551616) : Lib.ctz 64 x < 64 := by
  unfold Lib.ctz; rw [if_neg h]; obtain ⟨m, _, h3⟩ := Lib.ctzFrom_spec 64 x (by omega) h2; exact h3
def wordB (k : Nat) (x : Nat) : List UInt8 := (lowL x).map fun j => (64 * k + j).toUInt8
theorem wordB_zero (k : Nat) : wordB k 0 = [] := by unfold wordB; rw [lowL]; rfl
theorem wordB_cons (k : Nat) {x : Nat} (h : x ≠ 0) : wordB k x = (64 * k + Lib.ctz 64 x).toUInt8 :: wordB k (x &&& (x - 1)) := by unfold wordB; rw [lowL, dif_neg h]; rfl
/-- The bytes of the first k words. -/
def preB (c : Nat → Nat) (k : Nat) : List UInt8 := (List.range k).flatMap fun i => wordB i (c i)
theorem preB_succ (c : Nat → Nat) (k : Nat) : preB c (k + 1) = preB c k ++ wordB k (c k) := by simp [preB, List.range_succ]
theorem preB_le (c : Nat → Nat) {a b : Nat} (h : a ≤ b) : (preB c a).length ≤ (preB c b).length := by
  induction h with
  | refl => exact Nat.le_refl _
  | step _ ih => rw [preB_succ]; simp; omega
theorem preB_prefix (c : Nat → Nat) {a b : Nat} (h : a ≤ b) : preB c a <+: preB c b := by
  induction h with
  | refl => exact List.prefix_refl _
  | step _ ih => rw [preB_succ]; exact ih.trans (List.prefix_append _ _)
/-- Some blocks lie as they lay. -/
structure KeepB (p : Nat → Prop) (w w' : World) : Prop where
  size : w.heap.size ≤ w'.heap.size
  same : ∀ k, p k → k < w.heap.size → w'.heap[k]? = w.heap[k]?
theorem KeepB.refl (p : Nat → Prop) (w : World) : KeepB p w w := ⟨Nat.le_refl _, fun _ _ _ => rfl⟩
theorem KeepB.trans {p : Nat → Prop} {a b c : World} (h : KeepB p a b) (k : KeepB p b c) : KeepB p a c := ⟨Nat.le_trans h.size k.size, fun i hi hl => (k.same i hi (Nat.lt_of_lt_of_le hl h.size)).trans (h.same i hi hl)⟩
theorem KeepB.cell {p : Nat → Prop} {w w' : World} (h : KeepB p w w') {b o : Nat} {v : Value} (hb : p b) (hv : w.cell? ⟨b, o, none⟩ = some v) : w'.cell? ⟨b, o, none⟩ = some v := by
  have e := h.same b hb (World.block_lt_of_cell? _ _ hv)
  simp only [World.cell?] at hv ⊢
  rw [e]; exact hv
theorem KeepB.drewN {p : Nat → Prop} {w w' : World} (h : KeepB p w w') (q : Nat) : KeepB p w (w'.drewN q) := ⟨h.size, h.same⟩
theorem KeepB.tab {p : Nat → Prop} {w w' : World} (h : KeepB p w w') {g : Nat} (hb : p g) (hT : TabAt g Lib.deBruijn64tab w) : TabAt g Lib.deBruijn64tab w' := fun j hj => h.cell hb (hT j hj)

set_option maxHeartbeats 4000000 in
theorem all1_in (p : Nat → Prop) (l Bb Bs os : Nat) (c : Nat → Nat) (hc : ∀ k, c k < 18446744073709551616) (hps : p Bs) (hpg : p 0) (J Jx : List UInt8 → World → Prop)
    (hY : ∀ pre (x : UInt8) W, J pre W → pre.length < (preB c 4).length → YieldAt Fence.wide 2 Tryd.prog l #[.int .u8 (x.toNat : Int)] W fun e W' =>
      (e = .returned (.bool true) ∧ J (pre ++ [x]) W' ∧ KeepB p W W') ∨ (e = .returned (.bool false) ∧ Jx (pre ++ [x]) W'))
    (hJd : ∀ pre W q, J pre W → J pre (World.drewN W q)) (W : World) (hBb : W.cell? ⟨Bb, 0, none⟩ = some (.pointer (some ⟨Bs, os, none⟩))) (hs : ∀ k, k < 4 → W.cell? ⟨Bs, os + k, none⟩ = some (.int .u64 (c k : Nat))) (hT : TabAt 0 Lib.deBruijn64tab W) (h0 : J [] W) :
    CallsIn Fence.wide 3 Tryd.prog 71 #[.func (.yield l) #[] #[], .pointer (some ⟨Bb, 0, none⟩)] W fun e W' => (∃ v, e = .returned v) ∧
      ((∃ ys, ys = preB c 4 ∧ J ys W') ∨ (∃ pre, pre <+: preB c 4 ∧ Jx pre W')) := by
  refine callsIn_of_wp Tryd.func71 rfl trivial ?_ rfl
  simp only [Tryd.ntmps71, List.size_toArray, List.length_cons, List.length_nil, Nat.reduceAdd, Nat.reduceSub, Array.replicate_succ, Array.replicate_zero, List.push_toArray, List.append_toArray, List.nil_append, List.cons_append]
  gi_wp2
  gi_loopw [6] (fun s6 wr => ∃ k : Nat, k ≤ 4 ∧ s6 = .int .i64 k ∧ J (preB c k) wr ∧ KeepB p W wr) (fun s6 _ => 4 - (intOf s6).toNat)
  case atStart => exact ⟨0, by omega, rfl, h0, KeepB.refl _ _⟩
  case round =>
    obtain ⟨k, hk, rfl, hJk, hKk⟩ := hrel
    by_cases hlt : k < 4
    · have hcell := hKk.cell hps (hs k hlt)
      have hkz : (k : Int) < 4 := by omega
      have hkd : decide ((k : Int) < 4) = true := decide_eq_true hkz
      gi_wp2
      gi_quiet (fail)
      have hJk2 := hJd _ _ nq hJk
      have hKk2 := hKk.drewN nq
      have hTk := hKk2.tab hpg hT
      have hc1 := hc k
      generalize hW : World.drewN wr nq = wk at *
      clear hW hJk hKk hcell
      gi_wp2
      gi_loopw [4] (fun s4 wr => ∃ (q : Nat) (pre : List UInt8), s4 = .int .u64 q ∧ q < 18446744073709551616 ∧ pre ++ wordB k q = preB c (k + 1) ∧ J pre wr ∧ KeepB p W wr) (fun s4 _ => (intOf s4).toNat)
      case atStart => exact ⟨c k, preB c k, rfl, hc1, (preB_succ c k).symm, hJk2, hKk2⟩
      case round =>
        clear hJk2 hKk2 hTk
        obtain ⟨q, pre, rfl, hq, hpre, hJq, hKq⟩ := hrel
        have hTq := hKq.tab hpg hT
        by_cases hq0 : q = 0
        · subst hq0
          rw [wordB_zero, List.append_nil] at hpre
          gi_wp2
          go_roundw
          case rel => exact ⟨k + 1, by omega, by simp, hpre ▸ hJq, hKq⟩
          case measure => simp [intOf]; omega
        · have hq1 : (q : Int) ≠ 0 := by omega
          have hlt2 := ctz_lt hq0 hq
          rw [wordB_cons k hq0] at hpre
          have hlen : pre.length < (preB c 4).length := by
            have h1 := congrArg List.length hpre
            have h2 : (preB c (k + 1)).length ≤ (preB c 4).length := preB_le c (by omega)
            simp at h1
            omega
          obtain ⟨fn, tmps, assign, body, hy, hR⟩ := hY pre (64 * k + Lib.ctz 64 q).toUInt8 wr hJq hlen
          have hxe : (((64 * k + Lib.ctz 64 q).toUInt8.toNat : Nat) : Int) = 64 * (k : Int) + (Lib.ctz 64 q : Nat) := by
            simp only [Nat.toUInt8, UInt8.toNat_ofNat', Nat.reducePow]; omega
          rw [hxe] at hy
          gi_wp2_with (refine ⟨trivial, ?_⟩; gi_at_call 72; refine (callsIn_wide.2 (Tryd.bits_TrailingZeros64 q hq _ (fun _ => hTq))).mono ?_; rintro e w1 ⟨rfl, rfl⟩)
          have hand : bits BinOp.and IntKind.u64 (q : Int) ((q : Int) - 1) = ((q &&& (q - 1) : Nat) : Int) := by
            have e := bits_and_u64_nat q (q - 1) (by omega) (by omega)
            rw [show ((q - 1 : Nat) : Int) = (q : Int) - 1 by omega] at e
            exact e
          refine hR.mono ?_
          rintro e W3 (⟨rfl, hJ3, hk3⟩ | ⟨rfl, hJx3⟩)
          · gi_wp2
            go_roundw
            case rel =>
              refine ⟨q &&& (q - 1), _, rfl, ?_, ?_, hJ3, hKq.trans hk3⟩
              · have := and_pred_lt hq0; omega
              · rw [List.append_assoc]; exact hpre
            case measure => have := and_pred_lt hq0; simp [intOf]; exact this
          · gi_wp2
            refine bodyPost_ret (results_none rfl _ _ _) rfl ?_
            refine ⟨⟨_, rfl⟩, .inr ⟨_, ?_, hJx3⟩⟩
            refine List.IsPrefix.trans ⟨wordB k (q &&& (q - 1)), by rw [List.append_assoc]; exact hpre⟩ (preB_prefix c (by omega))
    · obtain rfl : k = 4 := by omega
      gi_wp2
      go_end0
      exact ⟨⟨_, rfl⟩, .inl ⟨_, rfl, hJk⟩⟩
theorem bits_stops (p : Nat → Prop) (Bb Bs os : Nat) (c : Nat → Nat) (hc : ∀ k, c k < 18446744073709551616) (hps : p Bs) (hpg : p 0) (w : World)
    (hBb : w.cell? ⟨Bb, 0, none⟩ = some (.pointer (some ⟨Bs, os, none⟩))) (hs : ∀ k, k < 4 → w.cell? ⟨Bs, os + k, none⟩ = some (.int .u64 (c k : Nat))) (hT : TabAt 0 Lib.deBruijn64tab w) :
    SeqStopsK Fence.wide 3 Tryd.prog 71 #[.pointer (some ⟨Bb, 0, none⟩)] (fun x : UInt8 => #[Value.int .u8 (x.toNat : Int)]) (KeepB p) (fun ys => ys = preB c 4) (fun pre => pre <+: preB c 4) (preB c 4).length w := fun l J Jx W hW hJ _ hY h0 => by
  refine all1_in p l Bb Bs os c hc hps hpg J Jx hY (fun pre W' q h => hJ _ _ _ none h ⟨rfl, rfl, rfl, Nat.le_refl _, fun _ _ _ => rfl⟩ (fun _ e => by cases e)) W (cell_below hW hBb) (fun k hk => cell_below hW (hs k hk)) (TabAt.later hT hW) h0
theorem all_calls (b : Nat) (o : Nat) (w : World) : Calls Tryd.prog 63 #[.pointer (some ⟨b, o, none⟩)] w fun e w' => e = .returned (.func (.func 71) #[] #[.pointer (some ⟨w.heap.size, 0, none⟩)]) ∧ w' = w.alloc (.cells #[.pointer (some ⟨b, o, none⟩)] 120) := by
  go_enter Tryd.func63, Tryd.ntmps63
  go_wp2
  go_ret
  exact ⟨rfl, rfl⟩
end Go.Proofs.YtljoajjbhjdonaaDoor
