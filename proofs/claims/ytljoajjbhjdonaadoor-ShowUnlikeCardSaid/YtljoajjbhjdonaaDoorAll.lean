/- escape.All: bytes written. Condition: the deBruijn table is there; at least one byte, at most 2^40. -/
import Derived.Test.YtljoajjbhjdonaaDoorEsc
import Derived.Deep.LoopGhost
import Derived.Deep.Light
namespace Go.Proofs.YtljoajjbhjdonaaDoor
open Go.RowKit
set_option maxRecDepth 100000

def BytesAt (w : World) (v : Value) (l : List UInt8) : Prop := ∃ a c, v = .slice a l.length c ∧ ∀ i, i < l.length → ∃ b o, a = some ⟨b, o, none⟩ ∧ w.cell? ⟨b, o + i, none⟩ = some (.int .u8 ((l.getD i 0).toNat : Int))
def allL (p : Int) (l : List UInt8) : List UInt8 := l.flatMap (oneL p)
theorem oneL_len (p : Int) (c : UInt8) : 1 ≤ (oneL p c).length ∧ (oneL p c).length ≤ 4 := by
  unfold oneL; split; · simp
  split; · simp
  split <;> simp
theorem allL_take (p : Int) (l : List UInt8) (i : Nat) (hi : i < l.length) : allL p (l.take (i + 1)) = allL p (l.take i) ++ oneL p (l.getD i 0) := by
  have e : l.take (i + 1) = l.take i ++ [l.getD i 0] := by rw [List.take_add_one, List.getD_eq_getElem?_getD, List.getElem?_eq_getElem hi]; simp
  rw [e]; simp [allL]
theorem allL_len (p : Int) : ∀ l : List UInt8, (allL p l).length ≤ 4 * l.length
  | [] => by simp [allL]
  | c :: l => by
    have := allL_len p l
    have h := (oneL_len p c).2
    simp only [allL, List.flatMap_cons, List.length_append, List.length_cons] at *
    omega
theorem allL_ne (p : Int) {l : List UInt8} (h : 1 ≤ l.length) : allL p l ≠ [] := by
  cases l with
  | nil => simp at h
  | cons c l =>
    intro e
    have := congrArg List.length e
    have h := (oneL_len p c).1
    simp only [allL, List.flatMap_cons, List.length_append, List.length_nil] at this
    omega
set_option maxHeartbeats 2000000 in
theorem All_calls (p : Int) (hp : p = 1 ∨ p = 2) (l : List UInt8) (v : Value) (w : World) (hT : TabAt 0 Lib.deBruijn64tab w) (hv : BytesAt w v l) (h1 : 1 ≤ l.length) (h2 : l.length ≤ 1099511627776) :
    Calls Tryd.prog 58 #[.int .i64 p, v] w fun e w' => e = .returned (.string ⟨(allL p l).toArray⟩) ∧ Below w.heap.size w w' := by
  obtain ⟨a, c, rfl, hc⟩ := hv
  generalize hn : l.length = n at *
  have hB0 := Bld.fresh 52 [] w w.heap.size (Nat.le_refl _)
  go_enter Tryd.func58, Tryd.ntmps58
  go_wp2
  go_loopg [7, 10, 11, 12, 13, 14, 15, 16, 17, 18] n (fun g s7 s10 s11 s12 s13 s14 s15 s16 s17 s18 wr => ∃ i : Nat, g = n - i ∧ i ≤ n ∧ s10 = .int .i64 i ∧ Aside (Bld 52 [] w.heap.size w.heap.size (allL p (l.take i)) wr) ∧ Below w.heap.size w wr)
  case atStart => exact ⟨0, by omega, by omega, rfl, (by simpa [allL] using hB0 : Bld _ _ _ _ _ _), below_box _ _⟩
  case round =>
    obtain ⟨i, rfl, hi, rfl, A, hb⟩ := hrel
    by_cases hil : i < n
    · obtain ⟨b1, o1, rfl, hR1⟩ := hc i hil
      have hR := cell_below hb hR1
      generalize hx : l.getD i 0 = x at hR
      have Hx := Lib.hid hx
      have hO := One_calls p hp x wr (TabAt.later hT hb)
      have hlen : (allL p (l.take i)).length + (oneL p x).toArray.size ≤ 140737488355328 := by
        have := allL_len p (l.take i)
        have h4 := (oneL_len p x).2
        simp only [List.length_take, List.size_toArray] at *
        omega
      clear hR1 hx
      go_wp2_with (first | (go_at_call 57; refine hO.mono ?_; rintro e w1 ⟨rfl, hb1⟩) | (go_at_call 20; refine (WriteString_calls bt_self _ _ (A.out.later hb1) hlen).mono ?_; rintro e w2 ⟨rfl, hB2, hk2⟩))
      go_roundg (n - (i + 1))
      case measure => go_light; omega
      case rel =>
        go_light
        refine ⟨i + 1, rfl, by omega, by go_num, ?_, hb.trans ((hb1.mono hb.size).trans hk2.below)⟩
        rw [allL_take p l i (by omega), Hx.out]
        exact hB2
    · have e : l.take i = l := List.take_of_length_le (by omega)
      have hB := A.out
      rw [e] at hB
      go_wp2_with (go_at_call 14; refine (String_calls _ hB (allL_ne p (by omega))).mono ?_; rintro e w1 ⟨rfl, hb1⟩)
      go_ret
      exact ⟨rfl, hb.trans hb1⟩
end Go.Proofs.YtljoajjbhjdonaaDoor
