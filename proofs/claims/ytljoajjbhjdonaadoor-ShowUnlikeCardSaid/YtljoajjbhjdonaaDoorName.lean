/- Package gram: Name: whether a text is a name, as a plain Bool function of its bytes. No condition. -/
import Derived.Test.YtljoajjbhjdonaaDoorGram2
import Derived.Test.YtljoajjbhjdonaaDoorShelf
import Derived.Laws.EntriesVeiled
namespace Go.Proofs.YtljoajjbhjdonaaDoor
open Go.RowKit
set_option maxRecDepth 100000

def letterZ (x : Int) : Bool := (decide (97 ≤ x) && decide (x ≤ 122)) || (decide (65 ≤ x) && decide (x ≤ 90)) || decide (x = 95)
def oddZ (x : Int) : Bool := !letterZ x && (decide (x < 48) || decide (57 < x))
def nameB (s : ByteArray) : Bool := (decide (0 < s.size) && decide (s.size ≤ 32)) && (s.data.toList.all (fun c => !oddZ (c.toNat : Int)) && letterZ ((s.data.toList.headD 0).toNat : Int))

theorem decode_low (s : ByteArray) (i : Nat) (h : (s.get! i).toNat < 128) : Utf8.decode s i = ((s.get! i).toNat, 1) := by
  simp [Utf8.decode, h]
theorem decode_high (s : ByteArray) (i : Nat) (h : ¬ (s.get! i).toNat < 128) : 128 ≤ (Utf8.decode s i).1 := by
  unfold Utf8.decode
  simp only [Nat.add_zero, Utf8.runeError]
  rw [if_neg h]
  split
  · split <;> simp_all
  · split
    · split <;> simp_all <;> omega
    · split
      · split <;> simp_all <;> omega
      · simp
theorem oddZ_high {n : Nat} (h : 128 ≤ n) : oddZ n = true := by
  simp [oddZ, letterZ]; omega
theorem idx_odd (s : ByteArray) : ∀ (f pos : Nat), s.size - pos ≤ f → ((Lib.idxFuncFrom (fun r => oddZ (r : Int)) true s f pos < 0) ↔ ∀ j, pos ≤ j → j < s.size → oddZ ((s.get! j).toNat : Int) = false) := by
  intro f
  induction f with
  | zero => intro pos h; simp [Lib.idxFuncFrom]; intro j h1 h2; omega
  | succ f ih =>
    intro pos h
    unfold Lib.idxFuncFrom
    by_cases hp : pos < s.size
    · rw [if_pos hp]
      by_cases hl : (s.get! pos).toNat < 128
      · rw [decode_low s pos hl]
        by_cases ho : oddZ ((s.get! pos).toNat : Int) = true
        · simp only [ho, if_true]
          constructor
          · intro h; omega
          · intro hh; have := hh pos (Nat.le_refl _) hp; simp [ho] at this
        · simp only [ho, if_false, Bool.false_eq_true]
          rw [ih (pos + 1) (by omega)]
          constructor
          · intro hh j h1 h2
            by_cases e : j = pos
            · subst e; simpa using ho
            · exact hh j (by omega) h2
          · intro hh j h1 h2; exact hh j (by omega) h2
      · have hd := decode_high s pos hl
        simp only [oddZ_high hd, if_true]
        constructor
        · intro h; omega
        · intro hh
          have := hh pos (Nat.le_refl _) hp
          rw [oddZ_high (by omega)] at this; simp at this
    · rw [if_neg hp]
      simp; intro j h1 h2; omega
theorem get_bang (s : ByteArray) (j : Nat) (h : j < s.data.toList.length) : s.get! j = s.data.toList[j] := by
  cases s with
  | mk bs =>
    show bs[j]! = bs.toList[j]
    have h' : j < bs.size := by simpa using h
    rw [getElem!_pos bs j h']
    rfl
theorem idx_name (s : ByteArray) : (Lib.idxFunc (fun r => oddZ (r : Int)) true s < 0) ↔ s.data.toList.all (fun c => !oddZ (c.toNat : Int)) = true := by
  unfold Lib.idxFunc
  rw [idx_odd s s.size 0 (by omega), List.all_eq_true]
  constructor
  · intro h c hc
    obtain ⟨j, hj, rfl⟩ := List.getElem_of_mem hc
    have := h j (Nat.zero_le _) (by simpa using hj)
    have e : s.get! j = s.data.toList[j] := get_bang s j hj
    rw [e] at this; simpa using this
  · intro h j _ hj
    have e : s.get! j = s.data.toList[j]'(by simpa using hj) := get_bang s j (by simpa using hj)
    have := h (s.data.toList[j]'(by simpa using hj)) (List.getElem_mem _)
    rw [e]; simpa using this

theorem letter_calls (x : Int) (w : World) : Calls Tryd.prog 34 #[.int .i32 x] w fun e w' => e = .returned (.bool (letterZ x)) ∧ w = w' := by
  go_enter Tryd.func34, Tryd.ntmps34
  go_wp2
  all_goals
    go_ret
    refine ⟨ret_bool ?_, rfl⟩
    unfold letterZ
    rw [Bool.eq_iff_iff]
    simp <;> omega
theorem odd_calls (x : Int) (B : Nat) (w : World) (hB : w.cell? ⟨B, 0, none⟩ = some (.func (.func 34) #[] #[])) : Calls Tryd.prog 35 #[.int .i32 x, .pointer (some ⟨B, 0, none⟩)] w fun e w' => e = .returned (.bool (oddZ x)) ∧ w = w' := by
  go_enter Tryd.func35, Tryd.ntmps35
  go_wp2_with (go_at_call 34; refine (letter_calls _ _).mono ?_; rintro e w' ⟨rfl, rfl⟩)
  all_goals
    go_ret
    refine ⟨ret_bool ?_, rfl⟩
    unfold oddZ
    rw [Bool.eq_iff_iff]
    simp_all
    try omega
theorem odd_pred (B : Nat) (w : World) (hB : w.cell? ⟨B, 0, none⟩ = some (.func (.func 34) #[] #[])) :
    PredAt Tryd.prog 35 #[.pointer (some ⟨B, 0, none⟩)] encR (fun r => oddZ (r : Int)) w := fun W r hb => by
  unfold FnGives
  refine (odd_calls (r : Int) B W (cell_below hb hB)).mono ?_
  rintro e w' ⟨rfl, rfl⟩
  exact ⟨rfl, 0, rfl⟩

set_option maxHeartbeats 1000000 in
theorem Name_calls (s : ByteArray) (hs : s.size ≤ 140737488355328) (w : World) : Calls Tryd.prog 27 #[.string s] w fun e w' => e = .returned (.bool (nameB s)) ∧ Below w.heap.size w w' := by
  have hmf : ∀ (fn : Fn) (first cap : Array Value) (w : World), (Instr.makeFunc fn first cap).run Tryd.prog w = .ok (.func fn first cap) w := fun _ _ _ _ => rfl
  have hC := fun (W : World) (hc : W.cell? ⟨w.heap.size, 0, none⟩ = some (.func (.func 34) #[] #[])) =>
    Tryd.strings_IndexFunc 35 #[.pointer (some ⟨w.heap.size, 0, none⟩)] (enters_of Tryd.func35 (by kernel_rfl) rfl) _ s W (odd_pred w.heap.size W hc)
  by_cases h0 : s.size = 0
  · have h1 : s.toList = [] := toList_nil.2 h0
    have H0 := Lib.hid h0
    clear h0 hC
    go_enter Tryd.func27, Tryd.ntmps27
    go_wp2
    refine wp_region_later (by kernel_rfl) (by kernel_rfl) ?_
    repeat (go_big_quiet_step (fail))
    refine wpQuiet_nil ?_
    rintro _ ⟨⟨w2, hb2⟩, rfl⟩
    go_wp2
    go_ret
    refine ⟨ret_bool ?_, below_chain (below_box _ _) hb2⟩
    simp [nameB, H0.out]
  · have h1 : s.toList ≠ [] := fun h => h0 (toList_nil.1 h)
    have h1' : s.toList.isEmpty = false := by simpa using h1
    have H0 := Lib.hid h0
    have H1 := Lib.hid h1
    clear h0 h1
    by_cases h2 : s.size ≤ 32
    · have h2z : ((s.size : Int) ≤ 32) := by omega
      have hpos : 0 < s.size := by have := H0.out; omega
      have hposz : (0 : Int) < (s.size : Int) := by omega
      generalize hI : Lib.idxFunc (fun r => oddZ (r : Int)) true s = I at hC
      have HI := Lib.hid hI
      clear hI
      have hbox : ∀ x : Later (w.alloc (.cells #[.func (.func 34) #[] #[]] 88)), x.to.cell? ⟨w.heap.size, 0, none⟩ = some (.func (.func 34) #[] #[]) := Later.of (by simp)
      by_cases h3 : I < 0
      · go_enter Tryd.func27, Tryd.ntmps27
        go_wp2
        refine wp_region_later (by kernel_rfl) (by kernel_rfl) ?_
        repeat (go_big_quiet_step ((first | (go_at_call 36; exact Calls.later (hC _ (hbox _))) | (go_at_call 34; exact Calls.later_same (letter_calls _ _)))))
        refine wpQuiet_nil ?_
        rintro _ ⟨⟨w2, hb2⟩, rfl⟩
        go_wp2
        go_ret
        refine ⟨ret_bool ?_, below_chain (below_box _ _) hb2⟩
        have hall : s.data.toList.all (fun c => !oddZ (c.toNat : Int)) = true := (idx_name s).1 (by rw [HI.out]; exact h3)
        have h0' := H0.out
        have hhd : s.data.toList.headD 0 = s[0] := by
          cases hl : s.data.toList with
          | nil => exact absurd (by rw [← ByteArray.size_data, ← Array.length_toList, hl]; rfl) h0'
          | cons c l =>
            show c = s.data[0]
            have : s.data.toList[0]'(by rw [hl]; simp) = c := by simp [hl]
            simpa using this.symm
        have hw : wrap32 (s[0].toNat : Int) = (s[0].toNat : Int) := by
          have := s[0].toNat_lt
          unfold wrap32; omega
        unfold nameB
        rw [hall, hhd, hw]
        simp [hpos, h2]
      · have h3' : decide (I < 0) = false := by simpa using h3
        have H3 := Lib.hid h3
        clear h3
        go_enter Tryd.func27, Tryd.ntmps27
        go_wp2
        refine wp_region_later (by kernel_rfl) (by kernel_rfl) ?_
        repeat (go_big_quiet_step ((first | (go_at_call 36; exact Calls.later (hC _ (hbox _))) | (go_at_call 34; exact Calls.later_same (letter_calls _ _)))))
        refine wpQuiet_nil ?_
        rintro _ ⟨⟨w2, hb2⟩, rfl⟩
        go_wp2
        go_ret
        refine ⟨ret_bool ?_, below_chain (below_box _ _) hb2⟩
        have hall : ¬ s.data.toList.all (fun c => !oddZ (c.toNat : Int)) = true := fun h => by have h4 := (idx_name s).2 h; rw [HI.out] at h4; have := H3.out; omega
        have hall' : s.data.toList.all (fun c => !oddZ (c.toNat : Int)) = false := by simpa using hall
        simp only [nameB, hall', Bool.false_and, Bool.and_false]
    · have h2z : decide ((s.size : Int) ≤ 32) = false := by simp; omega
      have H2 := Lib.hid h2
      clear h2 hC
      go_enter Tryd.func27, Tryd.ntmps27
      go_wp2
      refine wp_region_later (by kernel_rfl) (by kernel_rfl) ?_
      repeat (go_big_quiet_step (fail))
      refine wpQuiet_nil ?_
      rintro _ ⟨⟨w2, hb2⟩, rfl⟩
      go_wp2
      go_ret
      refine ⟨ret_bool ?_, below_chain (below_box _ _) hb2⟩
      simp [nameB, H2.out]
end Go.Proofs.YtljoajjbhjdonaaDoor
