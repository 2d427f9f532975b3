/- Package show, the writer: set (a class, as its runs). -/
import Derived.Test.YtljoajjbhjdonaaDoorShow1
import Derived.Test.YtljoajjbhjdonaaDoorBits
namespace Go.Proofs.YtljoajjbhjdonaaDoor
open Go.RowKit
set_option maxRecDepth 100000
attribute [local go_sem ↓] Go.wp_at_zero Go.wp_at_succ

/-- A node's class is four words. -/
def Wd (x : Node) : Prop := (0 ≤ x.c0 ∧ x.c0 < 18446744073709551616) ∧ (0 ≤ x.c1 ∧ x.c1 < 18446744073709551616) ∧ (0 ≤ x.c2 ∧ x.c2 < 18446744073709551616) ∧ 0 ≤ x.c3 ∧ x.c3 < 18446744073709551616
def clsW (x : Node) (k : Nat) : Nat := (if k = 0 then x.c0 else if k = 1 then x.c1 else if k = 2 then x.c2 else if k = 3 then x.c3 else 0).toNat
theorem clsW_lt {x : Node} (h : Wd x) (k : Nat) : clsW x k < 18446744073709551616 := by
  obtain ⟨h0, h1, h2, h3⟩ := h
  unfold clsW; (repeat' split) <;> omega
/-- A run, written. -/
def runT (r : UInt8 × UInt8) : List UInt8 := oneL 2 r.1 ++ (if r.2.toNat = r.1.toNat then [] else if r.2.toNat = r.1.toNat + 1 then oneL 2 r.2 else 45 :: oneL 2 r.2)
theorem runT_len (r : UInt8 × UInt8) : (runT r).length ≤ 9 := by
  have h1 := (oneL_len 2 r.1).2
  have h2 := (oneL_len 2 r.2).2
  unfold runT; (repeat' split) <;> simp <;> omega
theorem runs_len : ∀ l : List (UInt8 × UInt8), (l.flatMap runT).length ≤ 9 * l.length
  | [] => by simp
  | r :: l => by have h1 := runT_len r; have h2 := runs_len l; simp only [List.flatMap_cons, List.length_append, List.length_cons]; omega
def setR (x : Node) : List (UInt8 × UInt8) := runsL (preB (clsW x) 4)
def setT (x : Node) : List UInt8 := 91 :: ((setR x).flatMap runT ++ [93])
theorem setR_len {x : Node} (h : Wd x) : (setR x).length ≤ 256 := Nat.le_trans (runsL_len _) (preB_len _ (clsW_lt h) 4)
theorem setT_len {x : Node} (h : Wd x) : (setT x).length ≤ 2306 := by
  have h1 := setR_len h
  have h2 := runs_len (setR x)
  unfold setT; simp only [List.length_cons, List.length_append, List.length_nil]; omega
theorem take_flat (l : List (UInt8 × UInt8)) (i : Nat) (hi : i < l.length) : (l.take (i + 1)).flatMap runT = (l.take i).flatMap runT ++ runT (l.getD i default) := by
  have e : l.take (i + 1) = l.take i ++ [l.getD i default] := by rw [List.take_add_one, List.getD_eq_getElem?_getD, List.getElem?_eq_getElem hi]; simp
  rw [e]; simp
theorem take_len (l : List (UInt8 × UInt8)) (i : Nat) (hl : l.length ≤ 256) : ((l.take i).flatMap runT).length ≤ 2304 := by
  have h2 := runs_len (l.take i)
  rw [List.length_take] at h2; omega

set_option maxHeartbeats 4000000 in
theorem set_calls' {w0 : World} {rs : List Rule} {ns : List Node} {rv nv : Value} {b : Nat} {l : List UInt8} (hG : Gr w0 rs ns rv nv) (i : Nat) (hi : i < ns.length) (hW : Wd (ns.getD i default)) (w : World) (hb : Below w0.heap.size w0 w) (h : Wt w0 rv nv b l w) (hlen : l.length + 4000 ≤ 140737488355328) :
    Calls Tryd.prog 41 #[.pointer (some ⟨b, 0, none⟩), .int .i64 i] w (Wrote w0 rv nv b l (setT (ns.getD i default)) w) := by
  obtain ⟨a, c, rfl, hc1, hc2, hc⟩ := id hG.nodes
  obtain ⟨nb, no, rfl, hN⟩ := hc i hi
  have hT := TabAt.later hG.tab hb
  generalize ns.getD i default = x at *
  obtain ⟨p0, p1, p2, p3, p4, p5, p6, p7, kv, p8, hkv⟩ := hN
  have hRl := setR_len hW
  obtain ⟨x0, h0⟩ : ∃ n : Nat, x.c0 = n := ⟨x.c0.toNat, by have := hW.1; omega⟩
  obtain ⟨x1, h1⟩ : ∃ n : Nat, x.c1 = n := ⟨x.c1.toNat, by have := hW.2.1; omega⟩
  obtain ⟨x2, h2⟩ : ∃ n : Nat, x.c2 = n := ⟨x.c2.toNat, by have := hW.2.2.1; omega⟩
  obtain ⟨x3, h3⟩ : ∃ n : Nat, x.c3 = n := ⟨x.c3.toNat, by have := hW.2.2.2; omega⟩
  have hRuns := fun W (hb' : Below w0.heap.size w0 W) => Runs_calls (clsW x) (clsW_lt hW) (by have := preB_len (clsW x) (clsW_lt hW) 4; omega) W (TabAt.later hG.tab hb')
  have e0 : clsW x 0 = x0 := by simp [clsW, h0]
  have e1 : clsW x 1 = x1 := by simp [clsW, h1]
  have e2 : clsW x 2 = x2 := by simp [clsW, h2]
  have e3 : clsW x 3 = x3 := by simp [clsW, h3]
  rw [e0, e1, e2, e3] at hRuns
  rw [h0] at p1; rw [h1] at p2; rw [h2] at p3; rw [h3] at p4
  have hset : setT x = 91 :: ((setR x).flatMap runT ++ [93]) := rfl
  have hle := runsL_le (preB (clsW x) 4)
  have hRe : runsL (preB (clsW x) 4) = setR x := rfl
  simp only [hRe] at hRuns hle
  rw [hset]
  clear hset hRe e0 e1 e2 e3 h0 h1 h2 h3 p0 p5 p6 p7 p8 hkv hW
  generalize setR x = R at *
  generalize hn : ns.length = n at *
  have hiz : (i : Int) < (n : Int) := by omega
  have hi0 : (0 : Int) ≤ (i : Int) := by omega
  have hw1 := WriteByte_calls bt_writer 91 w h (by omega)
  go_enter Tryd.func41, Tryd.ntmps41
  go_wp2_with (first
    | (go_at_call 30; refine hw1.mono ?_; rintro e w1 ⟨rfl, hB1, hk1⟩; have hb1 := hb.trans hk1.below; have q := hB1.cell 1; have q1 := cell_below hb1 p1; have q2 := cell_below hb1 p2; have q3 := cell_below hb1 p3; have q4 := cell_below hb1 p4)
    | (go_at_call 56; refine (hRuns _ hb1).mono ?_; rintro e w2 ⟨v, rfl, ⟨ra, rc, rfl, hr1, hr2⟩, hb2⟩))
  have hB2 := hB1.later hb2
  have hk2 := hk1.trans (Kept.of_below hb2 hB1.2.1)
  generalize hm : R.length = m at *
  go_loopw [23] (fun s23 wr => ∃ i : Nat, i ≤ m ∧ s23 = .int .i64 i ∧ Bld 54 [rv, .slice (some ⟨nb, no, none⟩) n c] w0.heap.size b (l ++ 91 :: (R.take i).flatMap runT) wr ∧ Kept w0.heap.size b w wr ∧
    (R = [] ∨ ∃ g cur, ra = some ⟨g, 0, none⟩ ∧ g ≠ b ∧ wr.heap[g]? = some (.cells cur 98 (0, 0)) ∧ ∀ i, i < m → cur[i * 2]? = some (.int .u8 ((R.getD i default).1.toNat : Int)) ∧ cur[i * 2 + 1]? = some (.int .u8 ((R.getD i default).2.toNat : Int)))) (fun s23 _ => m - (intOf s23).toNat)
  case atStart =>
    refine ⟨0, by omega, rfl, by simpa using hB2, hk2, ?_⟩
    rcases hr2 with h0 | ⟨g, cur, hra, hg, hcur⟩
    · exact .inl h0
    · refine .inr ⟨g, cur, hra, fun e => ?_, hg, hcur⟩
      subst e
      obtain ⟨_, _, p, v, _, hbb, _⟩ := hB2
      rw [hbb] at hg; cases hg
  case round =>
    clear hr2 hb2 hB2 hk2 hB1 hk1 q q1 q2 q3 q4 hRuns hw1
    obtain ⟨j, hj, rfl, hBj, hkj, hRj⟩ := hrel
    by_cases hjm : j < m
    · obtain ⟨g, cur, rfl, hgb, hg, hcur⟩ : ∃ g cur, ra = some ⟨g, 0, none⟩ ∧ g ≠ b ∧ wr.heap[g]? = some (.cells cur 98 (0, 0)) ∧ ∀ i, i < m → cur[i * 2]? = some (.int .u8 ((R.getD i default).1.toNat : Int)) ∧ cur[i * 2 + 1]? = some (.int .u8 ((R.getD i default).2.toNat : Int)) := by
        rcases hRj with h0 | h
        · rw [h0] at hm; simp at hm; omega
        · exact h
      have hc1 := cell_blk hg (hcur j hjm).1
      have hc2 := cell_blk hg (hcur j hjm).2
      have hmem : R.getD j default ∈ R := by rw [List.getD_eq_getElem?_getD, List.getElem?_eq_getElem (by omega)]; exact List.getElem_mem _
      have hlr := hle _ hmem
      have htk := take_len R j (by omega)
      have hnx := take_flat R j (by omega)
      have Hnx := Lib.hid hnx
      generalize hr : R.getD j default = r at hc1 hc2 hlr hnx
      have Hr := Lib.hid hr
      have hrl := runT_len r
      have hr1 := r.1.toNat_lt
      have hr2 := r.2.toNat_lt
      have hjz : (j : Int) < (m : Int) := by omega
      clear hr hnx hRj hmem
      obtain ⟨o, ho⟩ : ∃ o, Obj.cells #[.int .u8 (r.1.toNat : Int), .int .u8 (r.2.toNat : Int)] 98 = o := ⟨_, rfl⟩
      have hob := below_box wr o
      have g0 : (wr.alloc o).cell? ⟨wr.heap.size, 0, none⟩ = some (.int .u8 (r.1.toNat : Int)) := by rw [← ho, World.cell?_alloc_mark]; rfl
      have g1 : (wr.alloc o).cell? ⟨wr.heap.size, 1, none⟩ = some (.int .u8 (r.2.toNat : Int)) := by rw [← ho, World.cell?_alloc_mark]; rfl
      have k0 : ∀ x : Later (wr.alloc o), x.to.cell? ⟨wr.heap.size, 0, none⟩ = some (.int .u8 (r.1.toNat : Int)) := Later.of g0
      have k1 : ∀ x : Later (wr.alloc o), x.to.cell? ⟨wr.heap.size, 1, none⟩ = some (.int .u8 (r.2.toNat : Int)) := Later.of g1
      have hO := fun (x : Later (wr.alloc o)) (y : UInt8) => One_calls 2 (.inr rfl) y x.to (TabAt.later hG.tab (hb.trans (hkj.below.trans ((hob.mono hBj.2.1).trans (x.h.mono (by simp; have := hBj.2.1; omega))))))
      go_wp2
      refine wp_region_later (by kernel_rfl) (by kernel_rfl) ?_
      repeat (go_big_quiet_step ((first | (go_at_call 57; exact Calls.later (hO _ _)))))
      refine wpQuiet_nil ?_
      rintro _ ⟨⟨w2, hb2⟩, rfl⟩
      have s0 := cell_below hb2 g0
      have s1 := cell_below hb2 g1
      have hbj := below_chain hob hb2
      have hBl := hBj.later hbj
      have l1 := oneL_len 2 r.1
      have l2 := oneL_len 2 r.2
      have hLl : (l ++ 91 :: (R.take j).flatMap runT).length + 20 ≤ 140737488355328 := by simp only [List.length_append, List.length_cons]; omega
      have z1 : ({ data := (oneL 2 r.1).toArray } : ByteArray).size = (oneL 2 r.1).length := by rw [bsize]
      have z2 : ({ data := (oneL 2 r.2).toArray } : ByteArray).size = (oneL 2 r.2).length := by rw [bsize]
      by_cases hA : r.2.toNat = r.1.toNat
      · have dA : ((r.2.toNat : Int) - (r.1.toNat : Int) == 0) = true := by simp; omega
        have dz : (r.2.toNat : Int) - (r.1.toNat : Int) = 0 := by omega
        have HA := Lib.hid hA
        clear hA
        go_wp2_with (go_at_call 20; refine (WriteString_calls bt_writer _ _ hBl (by rw [z1]; omega)).mono ?_; rintro e w3 ⟨rfl, hB3, hk3⟩)
        refine ⟨⟨j + 1, by omega, by simp, ?_, hkj.trans ((Kept.of_below hbj hBj.2.1).trans hk3), .inr ⟨g, cur, rfl, hgb, hk3.block ((hbj.block g (Array.getElem?_eq_some_iff.1 hg).1).trans hg) hgb (by decide), hcur⟩⟩, by simp [intOf]; omega⟩
        have e : runT r = oneL 2 r.1 := by unfold runT; rw [if_pos HA.out, List.append_nil]
        rw [Hnx.out, Hr.out, e]
        simpa using hB3
      · by_cases hC : r.2.toNat = r.1.toNat + 1
        · have dz : (r.2.toNat : Int) - (r.1.toNat : Int) = 1 := by omega
          have HA := Lib.hid hA
          have HC := Lib.hid hC
          clear hA hC
          go_wp2_with (go_at_call 20; refine (WriteString_calls bt_writer _ _ hBl (by rw [ByteArray.size_append, z1, z2]; omega)).mono ?_; rintro e w3 ⟨rfl, hB3, hk3⟩)
          refine ⟨⟨j + 1, by omega, by simp, ?_, hkj.trans ((Kept.of_below hbj hBj.2.1).trans hk3), .inr ⟨g, cur, rfl, hgb, hk3.block ((hbj.block g (Array.getElem?_eq_some_iff.1 hg).1).trans hg) hgb (by decide), hcur⟩⟩, by simp [intOf]; omega⟩
          have e : runT r = oneL 2 r.1 ++ oneL 2 r.2 := by unfold runT; rw [if_neg HA.out, if_pos HC.out]
          rw [Hnx.out, Hr.out, e]
          simpa using hB3
        · have dz : ¬ (r.2.toNat : Int) - (r.1.toNat : Int) = 0 := by omega
          have dy : ¬ (r.2.toNat : Int) - (r.1.toNat : Int) = 1 := by omega
          have HA := Lib.hid hA
          have HC := Lib.hid hC
          clear hA hC
          go_wp2_with (go_at_call 20; refine (WriteString_calls bt_writer _ _ hBl (by rw [ByteArray.size_append, ByteArray.size_append, z1, z2]; simp only [ByteArray.size, List.size_toArray, List.length_cons, List.length_nil]; omega)).mono ?_; rintro e w3 ⟨rfl, hB3, hk3⟩)
          refine ⟨⟨j + 1, by omega, by simp, ?_, hkj.trans ((Kept.of_below hbj hBj.2.1).trans hk3), .inr ⟨g, cur, rfl, hgb, hk3.block ((hbj.block g (Array.getElem?_eq_some_iff.1 hg).1).trans hg) hgb (by decide), hcur⟩⟩, by simp [intOf]; omega⟩
          have e : runT r = oneL 2 r.1 ++ 45 :: oneL 2 r.2 := by unfold runT; rw [if_neg HA.out, if_neg HC.out]
          rw [Hnx.out, Hr.out, e]
          simpa using hB3
    · obtain rfl : j = m := by omega
      have hwl := WriteByte_calls bt_writer 93 wr hBj (by have := take_len R j (by omega); simp only [List.length_append, List.length_cons]; omega)
      go_wp2_with (go_at_call 30; refine hwl.mono ?_; rintro e w3 ⟨rfl, hB3, hk3⟩)
      go_end0
      rw [List.take_of_length_le (by omega)] at hB3
      exact ⟨rfl, by simpa using hB3, hkj.trans hk3⟩
end Go.Proofs.YtljoajjbhjdonaaDoor
