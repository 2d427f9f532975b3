/- Package escape, the writing side: a byte written (One), bytes written (All), at one of the two places. Condition: the deBruijn table is there; what is written takes at most 2^47 bytes. -/
import Derived.Test.YtljoajjbhjdonaaDoorBuild
import Derived.Test.YtljoajjbhjdonaaDoorHex
namespace Go.Proofs.YtljoajjbhjdonaaDoor
open Go.RowKit
set_option maxRecDepth 100000

def namedS (p : Int) : ByteArray := if p = 1 then ⟨#[92, 34]⟩ else ⟨#[92, 93, 45]⟩
/-- Whether a byte stands for itself. -/
def bareB (p : Int) (c : UInt8) : Bool := (decide (32 ≤ c.toNat) && decide (c.toNat ≤ 126)) && decide (Lib.indexByte (namedS p).data.toList c < 0)
theorem named_calls (p : Int) (hp : p = 1 ∨ p = 2) (w : World) : Calls Tryd.prog 64 #[.int .i64 p] w fun e w' => e = .returned (.tuple #[.string (namedS p), .bool true]) ∧ w = w' := by
  rcases hp with rfl | rfl
  · go_enter Tryd.func64, Tryd.ntmps64
    go_wp2
    go_ret2
    exact ⟨rfl, rfl⟩
  · go_enter Tryd.func64, Tryd.ntmps64
    go_wp2
    go_ret2
    exact ⟨rfl, rfl⟩
theorem u8_back (c : UInt8) : ((c.toNat : Int)).toNat.toUInt8 = c := by simp
set_option maxHeartbeats 1000000 in
theorem ebare_calls (p : Int) (hp : p = 1 ∨ p = 2) (c : UInt8) (w : World) : Calls Tryd.prog 66 #[.int .i64 p, .int .u8 (c.toNat : Int)] w fun e w' => e = .returned (.bool (bareB p c)) ∧ w = w' := by
  have hc := c.toNat_lt
  by_cases h1 : 32 ≤ c.toNat
  · by_cases h2 : c.toNat ≤ 126
    · have hh : bareB p c = decide (Lib.indexByte (namedS p).data.toList c < 0) := by simp [bareB, h1, h2]
      go_enter Tryd.func66, Tryd.ntmps66
      go_wp2_with (go_at_call 64; refine (named_calls p hp _).mono ?_)
      rintro e w1 ⟨rfl, rfl⟩
      go_wp2_with (go_at_call 73; refine (Tryd.strings_IndexByte (namedS p) _ _).mono ?_)
      rintro e w1 ⟨rfl, rfl⟩
      rw [u8_back]
      go_wp2
      go_ret
      exact ⟨ret_bool (by first | exact hh.symm | rfl), rfl⟩
    · have hh : bareB p c = false := by simp [bareB, h2]
      go_enter Tryd.func66, Tryd.ntmps66
      go_wp2_with (go_at_call 64; refine (named_calls p hp _).mono ?_)
      rintro e w1 ⟨rfl, rfl⟩
      go_wp2
      go_ret
      exact ⟨ret_bool (by first | exact hh.symm | rfl), rfl⟩
  · have hh : bareB p c = false := by simp [bareB, h1]
    go_enter Tryd.func66, Tryd.ntmps66
    go_wp2_with (go_at_call 64; refine (named_calls p hp _).mono ?_)
    rintro e w1 ⟨rfl, rfl⟩
    go_wp2
    go_ret
    exact ⟨ret_bool (by first | exact hh.symm | rfl), rfl⟩
def shortObj : Obj := .map #[⟨.int .u8 10, .int .u8 110, 0⟩, ⟨.int .u8 13, .int .u8 114, 1⟩, ⟨.int .u8 9, .int .u8 116, 2⟩] 3
theorem short_calls (w : World) : Calls Tryd.prog 65 #[] w fun e w' => e = .returned (.map (some w.heap.size)) ∧ w' = w.alloc shortObj := by
  have hmm := @run_makeMap Tryd.prog
  have hins := run_insert_k (P := Tryd.prog) Tryd.underlying112 Tryd.underlying5 w
  go_enter Tryd.func65, Tryd.ntmps65
  go_wp2
  go_ret
  exact ⟨rfl, rfl⟩
/-- The letter of a byte; 0: none. -/
def letterN (c : UInt8) : Nat := if c.toNat = 10 then 110 else if c.toNat = 13 then 114 else if c.toNat = 9 then 116 else 0
theorem short_look (W : World) (B : Nat) (hb : W.heap[B]? = some shortObj) (c : UInt8) : (Instr.lookup 112 (.map (some B)) (.int .u8 (c.toNat : Int)) true).run Tryd.prog W = .ok (.tuple #[.int .u8 (letterN c : Nat), .bool (decide (letterN c ≠ 0))]) W := by
  by_cases h1 : c.toNat = 10
  · rw [h1, show letterN c = 110 by simp [letterN, h1]]
    exact run_lookup_ok (P := Tryd.prog) Tryd.underlying112 Tryd.underlying5 _ _ _ _ _ _ _ hb (by rfl)
  by_cases h2 : c.toNat = 13
  · rw [h2, show letterN c = 114 by simp [letterN, h2]]
    exact run_lookup_ok (P := Tryd.prog) Tryd.underlying112 Tryd.underlying5 _ _ _ _ _ _ _ hb (by rfl)
  by_cases h3 : c.toNat = 9
  · rw [h3, show letterN c = 116 by simp [letterN, h3]]
    exact run_lookup_ok (P := Tryd.prog) Tryd.underlying112 Tryd.underlying5 _ _ _ _ _ _ _ hb (by rfl)
  · rw [show letterN c = 0 by simp [letterN, h1, h2, h3]]
    refine run_lookup_ok_none (P := Tryd.prog) Tryd.underlying112 Tryd.underlying5 _ _ _ _ _ (.int .u8 0) (Tryd.zeroValue5 _) hb (freshK_findNow ?_ 0)
    simp [freshK]; omega
/-- A byte written. -/
def oneL (p : Int) (c : UInt8) : List UInt8 :=
  if bareB p c then [c] else if letterN c ≠ 0 then [92, (letterN c).toUInt8] else if 32 ≤ c.toNat ∧ c.toNat ≤ 126 then [92, c] else [92, 120, dig (c.toNat / 16), dig (c.toNat % 16)]
theorem TabAt.later {g : Nat} {w w' : World} (h : TabAt g Lib.deBruijn64tab w) (hb : Below w.heap.size w w') : TabAt g Lib.deBruijn64tab w' := fun j hj => cell_below hb (h j hj)
theorem cell_two0 (w : World) (o : Obj) (c : Array Value) (T : TypeId) (j : Nat) : ((w.alloc o).alloc (.cells c T)).cell? ⟨w.heap.size + 1, j, none⟩ = c[j]? := by
  have e : (w.alloc o).heap.size = w.heap.size + 1 := by simp
  rw [← e]
  exact World.cell?_alloc_mark (w.alloc o) c T (0, 0) j
theorem num_byte (c : UInt8) (x : Nat) (hx : x < 256) (h : (c.toNat : Int) = x) : c = x.toUInt8 := by
  have : c.toNat = x := by omega
  subst this; simp
set_option maxHeartbeats 2000000 in
theorem One_bare (p : Int) (hp : p = 1 ∨ p = 2) (c : UInt8) (hb : bareB p c = true) (w : World) : Calls Tryd.prog 57 #[.int .i64 p, .int .u8 (c.toNat : Int)] w fun e w' => e = .returned (.string ⟨#[c]⟩) ∧ Below w.heap.size w w' := by
  go_enter Tryd.func57, Tryd.ntmps57
  go_wp2_with (go_at_call 64; refine (named_calls p hp _).mono ?_)
  rintro e w1 ⟨rfl, rfl⟩
  go_wp2_with (go_at_call 65; refine (short_calls _).mono ?_)
  rintro e w1 ⟨rfl, rfl⟩
  have hlook := short_look (w.alloc shortObj) w.heap.size (MapKept.heap_alloc w _).1 c
  go_wp2_with (go_at_call 66; refine (ebare_calls p hp c _).mono ?_)
  rintro e w1 ⟨rfl, rfl⟩
  go_wp2
  rw [run_string1 ((w.alloc shortObj).alloc (.cells #[.int .u8 (c.toNat : Int)] 5)) _ 0 1 c (by rw [cell_two0]; rfl)]
  simp only [Result.andThen]
  rw [Oper.upon_value]
  go_wp2
  go_ret
  exact ⟨rfl, below_box2 _ _ _⟩
set_option maxHeartbeats 2000000 in
theorem One_letter (p : Int) (hp : p = 1 ∨ p = 2) (c : UInt8) (hb : bareB p c = false) (hl : letterN c ≠ 0) (w : World) : Calls Tryd.prog 57 #[.int .i64 p, .int .u8 (c.toNat : Int)] w fun e w' => e = .returned (.string ⟨#[92, (letterN c).toUInt8]⟩) ∧ Below w.heap.size w w' := by
  have hx : letterN c < 256 := by unfold letterN; (repeat' split) <;> omega
  have hl2 : ¬ letterN c = 0 := hl
  have hl3 : ∀ _ : Unit, (((letterN c).toUInt8.toNat : Nat) : Int) = (letterN c : Int) := fun _ => by simp; omega
  go_enter Tryd.func57, Tryd.ntmps57
  go_wp2_with (go_at_call 64; refine (named_calls p hp _).mono ?_)
  rintro e w1 ⟨rfl, rfl⟩
  go_wp2_with (go_at_call 65; refine (short_calls _).mono ?_)
  rintro e w1 ⟨rfl, rfl⟩
  have hlook := short_look (w.alloc shortObj) w.heap.size (MapKept.heap_alloc w _).1 c
  go_wp2_with (go_at_call 66; refine (ebare_calls p hp c _).mono ?_)
  rintro e w1 ⟨rfl, rfl⟩
  go_wp2
  rw [run_string2 ((w.alloc shortObj).alloc (.cells #[.int .u8 92, .int .u8 (letterN c : Int)] 5)) _ 0 2 92 (letterN c).toUInt8 (by rw [cell_two0]; rfl) (by rw [cell_two0, hl3 ()]; rfl)]
  simp only [Result.andThen]
  rw [Oper.upon_value]
  go_wp2
  go_ret
  exact ⟨rfl, below_box2 _ _ _⟩
set_option maxHeartbeats 2000000 in
theorem One_sign (p : Int) (hp : p = 1 ∨ p = 2) (c : UInt8) (hb : bareB p c = false) (hl : letterN c = 0) (h1 : 32 ≤ c.toNat) (h2 : c.toNat ≤ 126) (w : World) : Calls Tryd.prog 57 #[.int .i64 p, .int .u8 (c.toNat : Int)] w fun e w' => e = .returned (.string ⟨#[92, c]⟩) ∧ Below w.heap.size w w' := by
  go_enter Tryd.func57, Tryd.ntmps57
  go_wp2_with (go_at_call 64; refine (named_calls p hp _).mono ?_)
  rintro e w1 ⟨rfl, rfl⟩
  go_wp2_with (go_at_call 65; refine (short_calls _).mono ?_)
  rintro e w1 ⟨rfl, rfl⟩
  have hlook := short_look (w.alloc shortObj) w.heap.size (MapKept.heap_alloc w _).1 c
  go_wp2_with (go_at_call 66; refine (ebare_calls p hp c _).mono ?_)
  rintro e w1 ⟨rfl, rfl⟩
  go_wp2
  rw [run_string2 ((w.alloc shortObj).alloc (.cells #[.int .u8 92, .int .u8 (c.toNat : Int)] 5)) _ 0 2 92 c (by rw [cell_two0]; rfl) (by rw [cell_two0]; rfl)]
  simp only [Result.andThen]
  rw [Oper.upon_value]
  go_wp2
  go_ret
  exact ⟨rfl, below_box2 _ _ _⟩
set_option maxHeartbeats 2000000 in
theorem One_hex (p : Int) (hp : p = 1 ∨ p = 2) (c : UInt8) (hb : bareB p c = false) (hl : letterN c = 0) (h1 : ¬ (32 ≤ c.toNat ∧ c.toNat ≤ 126)) (w : World) (hT : TabAt 0 Lib.deBruijn64tab w) : Calls Tryd.prog 57 #[.int .i64 p, .int .u8 (c.toNat : Int)] w fun e w' => e = .returned (.string ⟨#[92, 120, dig (c.toNat / 16), dig (c.toNat % 16)]⟩) ∧ Below w.heap.size w w' := by
  have hc := c.toNat_lt
  go_enter Tryd.func57, Tryd.ntmps57
  go_wp2_with (go_at_call 64; refine (named_calls p hp _).mono ?_)
  rintro e w1 ⟨rfl, rfl⟩
  go_wp2_with (go_at_call 65; refine (short_calls _).mono ?_)
  rintro e w1 ⟨rfl, rfl⟩
  have hlook := short_look (w.alloc shortObj) w.heap.size (MapKept.heap_alloc w _).1 c
  go_wp2_with (go_at_call 66; refine (ebare_calls p hp c _).mono ?_)
  rintro e w1 ⟨rfl, rfl⟩
  have hF := FormatUint_calls c.toNat hc (w.alloc shortObj) (TabAt.later hT (below_box _ _))
  by_cases h3 : 32 ≤ c.toNat
  · have h4 : ¬ c.toNat ≤ 126 := fun h => h1 ⟨h3, h⟩
    have e1 : hexL c.toNat = [dig (c.toNat / 16), dig (c.toNat % 16)] := by unfold hexL; rw [if_neg (by omega)]
    rw [e1] at hF
    go_wp2_with (first | (go_at_call 67; refine hF.mono ?_; rintro e w1 ⟨rfl, hb1⟩) | (go_at_call 68; refine (Tryd.strings_Repeat_zero _ _).mono ?_; rintro e w2 ⟨rfl, rfl⟩))
    go_ret
    exact ⟨rfl, below_chain (below_box _ _) hb1⟩
  · by_cases h5 : c.toNat < 16
    · have e1 : hexL c.toNat = [dig (c.toNat % 16)] := by unfold hexL; rw [if_pos h5, Nat.mod_eq_of_lt h5]
      have e2 : dig (c.toNat / 16) = 48 := by rw [Nat.div_eq_of_lt h5]; rfl
      rw [e1] at hF
      go_wp2_with (first | (go_at_call 67; refine hF.mono ?_; rintro e w1 ⟨rfl, hb1⟩) | (go_at_call 68; refine (Tryd.strings_Repeat_one _ _).mono ?_; rintro e w2 ⟨rfl, rfl⟩))
      go_ret
      exact ⟨by rw [e2]; rfl, below_chain (below_box _ _) hb1⟩
    · have e1 : hexL c.toNat = [dig (c.toNat / 16), dig (c.toNat % 16)] := by unfold hexL; rw [if_neg h5]
      rw [e1] at hF
      go_wp2_with (first | (go_at_call 67; refine hF.mono ?_; rintro e w1 ⟨rfl, hb1⟩) | (go_at_call 68; refine (Tryd.strings_Repeat_zero _ _).mono ?_; rintro e w2 ⟨rfl, rfl⟩))
      go_ret
      exact ⟨rfl, below_chain (below_box _ _) hb1⟩
theorem One_calls (p : Int) (hp : p = 1 ∨ p = 2) (c : UInt8) (w : World) (hT : TabAt 0 Lib.deBruijn64tab w) : Calls Tryd.prog 57 #[.int .i64 p, .int .u8 (c.toNat : Int)] w fun e w' => e = .returned (.string ⟨(oneL p c).toArray⟩) ∧ Below w.heap.size w w' := by
  unfold oneL
  by_cases hb : bareB p c = true
  · rw [if_pos hb]; exact One_bare p hp c hb w
  · rw [if_neg hb]
    have hb' : bareB p c = false := by simpa using hb
    by_cases hl : letterN c ≠ 0
    · rw [if_pos hl]; exact One_letter p hp c hb' hl w
    · rw [if_neg hl]
      have hl' : letterN c = 0 := by simpa using hl
      by_cases h1 : 32 ≤ c.toNat ∧ c.toNat ≤ 126
      · rw [if_pos h1]; exact One_sign p hp c hb' hl' h1.1 h1.2 w
      · rw [if_neg h1]; exact One_hex p hp c hb' hl' h1 w hT
end Go.Proofs.YtljoajjbhjdonaaDoor
