/- strconv.FormatUint in base 16 below 256. -/
import Derived.Test.YtljoajjbhjdonaaDoorBase
import Derived.Test.YtljoajjbhjdonaaDoorShelf
import Derived.LoopN
import Derived.Laws.Bits64b
namespace Go.Proofs.YtljoajjbhjdonaaDoor
open Go.RowKit
set_option maxRecDepth 100000

theorem pow2_calls (w : World) : Calls Tryd.prog 93 #[.int .i64 16] w fun e w' => e = .returned (.bool true) ∧ w = w' := by
  go_enter Tryd.func93, Tryd.ntmps93
  go_wp2
  go_ret
  exact ⟨rfl, rfl⟩
theorem tz16_calls (w : World) (hT : TabAt 0 Lib.deBruijn64tab w) : Calls Tryd.prog 94 #[.int .u64 16] w fun e w' => e = .returned (.int .i64 4) ∧ w = w' := by
  have h4 : ((Lib.ctz 64 16 : Nat) : Int) = 4 := by decide
  go_enter Tryd.func94, Tryd.ntmps94
  go_wp2_with (go_at_call 72; refine (Tryd.bits_TrailingZeros64 16 (by omega) w (fun _ => hT)).mono ?_)
  rintro e w1 ⟨rfl, rfl⟩
  go_wp2
  go_ret
  exact ⟨ret_int h4, rfl⟩
theorem run_string1 (w : World) (b o cap : Nat) (x : UInt8) (h : w.cell? ⟨b, o, none⟩ = some (.int .u8 (x.toNat : Int))) :
    (convert 50 9 (.slice (some ⟨b, o, none⟩) 1 cap)).run Tryd.prog w = .ok (.string ⟨#[x]⟩) w := by
  refine run_convert_bytes_back w _ _ 5 ⟨b, o, none⟩ cap [x] Tryd.underlying50 Tryd.underlying5 Tryd.underlying9 ?_
  intro j hj
  match j, hj with
  | 0, _ => exact h
theorem run_string2 (w : World) (b o cap : Nat) (x y : UInt8) (h : w.cell? ⟨b, o, none⟩ = some (.int .u8 (x.toNat : Int))) (h2 : w.cell? ⟨b, o + 1, none⟩ = some (.int .u8 (y.toNat : Int))) :
    (convert 50 9 (.slice (some ⟨b, o, none⟩) 2 cap)).run Tryd.prog w = .ok (.string ⟨#[x, y]⟩) w := by
  refine run_convert_bytes_back w _ _ 5 ⟨b, o, none⟩ cap [x, y] Tryd.underlying50 Tryd.underlying5 Tryd.underlying9 ?_
  intro j hj
  match j, hj with
  | 0, _ => exact h
  | 1, _ => exact h2
def digs : Array UInt8 := #[48, 49, 50, 51, 52, 53, 54, 55, 56, 57, 97, 98, 99, 100, 101, 102, 103, 104, 105, 106, 107, 108, 109, 110, 111, 112, 113, 114, 115, 116, 117, 118, 119, 120, 121, 122]
/-- A digit of base 16. -/
def dig (u : Nat) : UInt8 := digs[u]?.getD 0
theorem dig_get (u : Nat) (hu : u < 16) {h} : (⟨digs⟩ : ByteArray)[u]'h = dig u := by
  have h2 : u < digs.size := by simp [digs]; omega
  show digs[u] = _
  simp [dig, Array.getElem?_eq_getElem h2]
theorem size142 : Tryd.zeroCells142.size = 65 := by kernel_rfl
theorem cell_set (w : World) (c : Array Value) (T : TypeId) (j : Nat) (v : Value) (h : j < c.size) : (w.alloc (.cells (c.setIfInBounds j v) T)).cell? ⟨w.heap.size, j, none⟩ = some v := by
  rw [World.cell?_alloc_mark, Array.getElem?_setIfInBounds_self_of_lt h]
set_option maxHeartbeats 4000000 in
theorem fb_low (u : Nat) (hu : u < 16) (w : World) (hT : TabAt 0 Lib.deBruijn64tab w) : Calls Tryd.prog 84 #[.slice none 0 0, .int .u64 u, .int .i64 16, .bool false, .bool false] w fun e w' => e = .returned (.tuple #[.slice none 0 0, .string ⟨#[dig u]⟩]) ∧ Below w.heap.size w w' := by
  have hT' : ∀ o, TabAt 0 Lib.deBruijn64tab (w.alloc o) := fun o j hj => cell_below (below_box w o) (hT j hj)
  go_enter Tryd.func84, Tryd.ntmps84
  go_wp2_with (go_at_call 93; refine (pow2_calls _).mono ?_)
  rintro e w1 ⟨rfl, rfl⟩
  go_wp2_with (go_at_call 94; refine (tz16_calls _ (hT' _)).mono ?_)
  rintro e w1 ⟨rfl, rfl⟩
  go_wp2
  refine wp_loop_rounds 1 ?_
  rw [rounds_succ]
  go_wp2
  have hd : ∀ h, (⟨digs⟩ : ByteArray)[u]'h = dig u := fun h => dig_get u hu
  unfold digs at hd
  simp only [hd]
  rw [run_string1 (w.alloc (.cells (Tryd.zeroCells142.setIfInBounds 64 (.int .u8 ((dig u).toNat : Int))) 142)) _ 64 1 (dig u) (cell_set _ _ _ _ _ (by rw [size142]; decide))]
  simp only [Result.andThen]
  rw [Oper.upon_value]
  go_wp2
  go_ret2
  exact ⟨rfl, below_box _ _⟩
set_option maxHeartbeats 4000000 in
theorem fb_high (u : Nat) (h16 : 16 ≤ u) (hu : u < 256) (w : World) (hT : TabAt 0 Lib.deBruijn64tab w) : Calls Tryd.prog 84 #[.slice none 0 0, .int .u64 u, .int .i64 16, .bool false, .bool false] w fun e w' => e = .returned (.tuple #[.slice none 0 0, .string ⟨#[dig (u / 16), dig (u % 16)]⟩]) ∧ Below w.heap.size w w' := by
  have hT' : ∀ o, TabAt 0 Lib.deBruijn64tab (w.alloc o) := fun o j hj => cell_below (below_box w o) (hT j hj)
  go_enter Tryd.func84, Tryd.ntmps84
  go_wp2_with (go_at_call 93; refine (pow2_calls _).mono ?_)
  rintro e w1 ⟨rfl, rfl⟩
  go_wp2_with (go_at_call 94; refine (tz16_calls _ (hT' _)).mono ?_)
  rintro e w1 ⟨rfl, rfl⟩
  have hand : bits BinOp.and IntKind.u64 (u : Int) 15 = ((u % 16 : Nat) : Int) := by
    have e := bits_and_u64_nat u 15 (by omega) (by omega)
    rw [show u &&& 15 = u % 16 from Nat.and_two_pow_sub_one_eq_mod u 4] at e
    exact e
  go_wp2
  refine wp_loop_rounds 2 ?_
  rw [rounds_succ]
  go_wp2
  rw [rounds_succ]
  go_wp2
  have hd : ∀ h, (⟨digs⟩ : ByteArray)[u % 16]'h = dig (u % 16) := fun h => dig_get _ (by omega)
  have hd2 : ∀ h, (⟨digs⟩ : ByteArray)[u / 16]'h = dig (u / 16) := fun h => dig_get _ (by omega)
  unfold digs at hd hd2
  simp only [hd, hd2]
  rw [run_string2 (w.alloc (.cells ((Tryd.zeroCells142.setIfInBounds 64 (.int .u8 ((dig (u % 16)).toNat : Int))).setIfInBounds 63 (.int .u8 ((dig (u / 16)).toNat : Int))) 142)) _ 63 2 (dig (u / 16)) (dig (u % 16)) (cell_set _ _ _ _ _ (by rw [Array.size_setIfInBounds, size142]; decide))
    (by rw [World.cell?_alloc_mark, Array.getElem?_setIfInBounds_ne (by decide), Array.getElem?_setIfInBounds_self_of_lt (by rw [size142]; decide)])]
  simp only [Result.andThen]
  rw [Oper.upon_value]
  go_wp2
  go_ret2
  exact ⟨rfl, below_box _ _⟩
/-- A number below 256 in base 16. -/
def hexL (u : Nat) : List UInt8 := if u < 16 then [dig u] else [dig (u / 16), dig (u % 16)]
theorem fb_calls (u : Nat) (hu : u < 256) (w : World) (hT : TabAt 0 Lib.deBruijn64tab w) : Calls Tryd.prog 84 #[.slice none 0 0, .int .u64 u, .int .i64 16, .bool false, .bool false] w fun e w' => e = .returned (.tuple #[.slice none 0 0, .string ⟨(hexL u).toArray⟩]) ∧ Below w.heap.size w w' := by
  by_cases h : u < 16
  · have e : hexL u = [dig u] := by simp [hexL, h]
    rw [e]; exact fb_low u h w hT
  · have e : hexL u = [dig (u / 16), dig (u % 16)] := by simp [hexL, h]
    rw [e]; exact fb_high u (by omega) hu w hT
theorem fu_calls (u : Nat) (hu : u < 256) (w : World) (hT : TabAt 0 Lib.deBruijn64tab w) : Calls Tryd.prog 74 #[.int .u64 u, .int .i64 16] w fun e w' => e = .returned (.string ⟨(hexL u).toArray⟩) ∧ Below w.heap.size w w' := by
  go_enter Tryd.func74, Tryd.ntmps74
  go_wp2_with (go_at_call 84; refine (fb_calls u hu _ hT).mono ?_)
  rintro e w1 ⟨rfl, hb⟩
  go_wp2
  go_ret
  exact ⟨rfl, hb⟩
theorem FormatUint_calls (u : Nat) (hu : u < 256) (w : World) (hT : TabAt 0 Lib.deBruijn64tab w) : Calls Tryd.prog 67 #[.int .u64 u, .int .i64 16] w fun e w' => e = .returned (.string ⟨(hexL u).toArray⟩) ∧ Below w.heap.size w w' := by
  go_enter Tryd.func67, Tryd.ntmps67
  go_wp2_with (go_at_call 74; refine (fu_calls u hu _ hT).mono ?_)
  rintro e w1 ⟨rfl, hb⟩
  go_wp2
  go_ret
  exact ⟨rfl, hb⟩
end Go.Proofs.YtljoajjbhjdonaaDoor
