/- Package gram: of: the sizes and heights of nodes that stand in preorder, or none; as a plain function over the list of nodes. Condition: at most 2048 nodes. -/
import Derived.Test.YtljoajjbhjdonaaDoorGram2
import Derived.Deep.LoopGhost
import Derived.Deep.OwnRows
import Derived.Deep.Cut
import Derived.Deep.DeepCutAuto
import Derived.Deep.Light
import Derived.BigQuiet
import Derived.Deep.QuietTactic
namespace Go.Proofs.YtljoajjbhjdonaaDoor
open Go.RowKit
set_option maxRecDepth 100000

/-- A node's kids, one behind the other: where the next one has to stand, and how high they are. -/
def kw (base : Nat) (l : List (Nat × Nat)) : List Int → Nat → Nat → Option (Nat × Nat)
  | [], r, h => some (r, h)
  | k :: ks, r, h => if k = ((base + r : Nat) : Int) ∧ r < l.length then kw base l ks (r + (l.getD r (0, 0)).1) (max h (l.getD r (0, 0)).2) else none
/-- Of each node how many it has, how high it is; the first one stands at n. -/
def ofL : Nat → List Node → Option (List (Nat × Nat))
  | _, [] => some []
  | n, x :: rest => match ofL (n + 1) rest with
    | none => none
    | some l => match kw (n + 1) l x.kids 0 0 with
      | none => none
      | some (r, h) => some ((r + 1, h + 1) :: l)

def OfOk (l : List (Nat × Nat)) : Prop := ∀ i, i < l.length → 1 ≤ (l.getD i (0, 0)).1 ∧ i + (l.getD i (0, 0)).1 ≤ l.length ∧ (l.getD i (0, 0)).2 ≤ l.length
theorem kw_ok {base : Nat} {l : List (Nat × Nat)} (hl : OfOk l) {ks : List Int} : ∀ {r h r' h' : Nat}, r ≤ l.length → h ≤ l.length → kw base l ks r h = some (r', h') → r' ≤ l.length ∧ h' ≤ l.length := by
  induction ks with
  | nil => intro r h r' h' hr hh he; simp [kw] at he; omega
  | cons k ks ih =>
    intro r h r' h' hr hh he
    simp only [kw] at he
    split at he
    · rename_i hc
      obtain ⟨h1, h2, h3⟩ := hl r hc.2
      exact ih h2 (by omega) he
    · cases he
theorem ofL_ok : ∀ {xs : List Node} {n : Nat} {l : List (Nat × Nat)}, ofL n xs = some l → l.length = xs.length ∧ OfOk l := by
  intro xs
  induction xs with
  | nil => intro n l h; simp [ofL] at h; subst h; exact ⟨rfl, fun i hi => by simp at hi⟩
  | cons x xs ih =>
    intro n l h
    simp only [ofL] at h
    split at h
    · cases h
    · rename_i l' hl'
      obtain ⟨h1, h2⟩ := ih hl'
      split at h
      · cases h
      · rename_i r hh hk
        cases h
        obtain ⟨h3, h4⟩ := kw_ok h2 (Nat.zero_le _) (Nat.zero_le _) hk
        refine ⟨by simp [h1], fun i hi => ?_⟩
        cases i with
        | zero => simp; omega
        | succ i =>
          obtain ⟨a, b, c⟩ := h2 i (by simpa using hi)
          simp at a b c ⊢
          omega

theorem infoInt : (Tryd.prog.info? 3).map (fun i => (i.zero, i.size, i.bytes)) = some (some (.int .i64 0), 1, 8) := by kernel_rfl

/-- What stands in the two rows, when the nodes from m on are done. -/
def rowF (sel : Nat × Nat → Nat) (m : Nat) (l : List (Nat × Nat)) : Nat → Value := fun j => if m ≤ j then .int .i64 (sel (l.getD (j - m) (0, 0)) : Nat) else .int .i64 0
structure OfW (w wx : World) (bs bh n : Nat) (f g : Nat → Value) : Prop where
  below : Below w.heap.size w wx
  lt1 : w.heap.size < bs
  lt2 : w.heap.size < bh
  ne : bs ≠ bh
  t : wx.heap[w.heap.size]? = some (.cells #[.slice (some ⟨bs, 0, none⟩) n n, .slice (some ⟨bh, 0, none⟩) n n] 60)
  rs : wx.rowIs bs 3 n f
  rh : wx.rowIs bh 3 n g
theorem cell_two {w : World} {b : Nat} {u v : Value} {t : TypeId} (h : w.heap[b]? = some (.cells #[u, v] t)) : w.cell? ⟨b, 0, none⟩ = some u ∧ w.cell? ⟨b, 1, none⟩ = some v ∧ ∀ o, w.frozen? ⟨b, o, none⟩ = false := by
  simp [World.cell?, World.frozen?, h]

theorem OfW.congr {w wx : World} {bs bh n : Nat} {f g f' g' : Nat → Value} (h : OfW w wx bs bh n f g) (e1 : ∀ i, i < n → f i = f' i) (e2 : ∀ i, i < n → g i = g' i) : OfW w wx bs bh n f' g' :=
  ⟨h.below, h.lt1, h.lt2, h.ne, h.t, h.rs.congr e1, h.rh.congr e2⟩
theorem OfW.drew {w wx : World} {bs bh n : Nat} {f g : Nat → Value} (h : OfW w wx bs bh n f g) : OfW w wx.drew bs bh n f g := ⟨h.below.drew, h.lt1, h.lt2, h.ne, h.t, h.rs.drew, h.rh.drew⟩
theorem OfW.drewN {w wx : World} {bs bh n : Nat} {f g : Nat → Value} (h : OfW w wx bs bh n f g) (q : Nat) : OfW w (wx.drewN q) bs bh n f g := ⟨below_drewN h.below q, h.lt1, h.lt2, h.ne, h.t, h.rs, h.rh⟩
theorem rowIs_made_at (w : World) (z : Value) (n : Nat) (t : TypeId) (b : Nat) (hb : b = w.heap.size) : (w.alloc (.cells (madeCells #[z] n) t)).rowIs b t n (fun _ => z) := by
  subst hb; exact World.rowIs_made w z n t
theorem alloc_block {w : World} {o o' : Obj} {k : Nat} (h : w.heap[k]? = some o') : (w.alloc o).heap[k]? = some o' := by
  rw [Below.heap_alloc w o k (Array.getElem?_eq_some_iff.1 h).1]; exact h
theorem of_start (w : World) (n : Nat) (bs bh : Nat) (h : (bs = w.heap.size + 1 ∧ bh = w.heap.size + 1 + 1) ∨ (bs = w.heap.size + 1 + 1 ∧ bh = w.heap.size + 1)) :
    OfW w (((w.alloc (.cells #[.slice (some ⟨bs, 0, none⟩) n n, .slice (some ⟨bh, 0, none⟩) n n] 60)).alloc (.cells (madeCells #[.int .i64 0] n) 3)).alloc (.cells (madeCells #[.int .i64 0] n) 3)).drew bs bh n (fun _ => .int .i64 0) (fun _ => .int .i64 0) := by
  have ht := (MapKept.heap_alloc w (.cells #[.slice (some ⟨bs, 0, none⟩) n n, .slice (some ⟨bh, 0, none⟩) n n] 60)).1
  refine ⟨(below_box3 _ _ _ _).drew, by omega, by omega, by omega, alloc_block (alloc_block ht), ?_, ?_⟩
  · rcases h with ⟨rfl, rfl⟩ | ⟨rfl, rfl⟩
    · exact ((rowIs_made_at _ _ _ _ _ (by simp)).alloc _).drew
    · exact (rowIs_made_at _ _ _ _ _ (by simp)).drew
  · rcases h with ⟨rfl, rfl⟩ | ⟨rfl, rfl⟩
    · exact (rowIs_made_at _ _ _ _ _ (by simp)).drew
    · exact ((rowIs_made_at _ _ _ _ _ (by simp)).alloc _).drew
/-- The struct itself is stored once more, as it was. -/
theorem OfW.again {w wx : World} {bs bh n : Nat} {f g : Nat → Value} (h : OfW w wx bs bh n f g) :
    OfW w ((wx.setCell ⟨w.heap.size, 0, none⟩ (.slice (some ⟨bs, 0, none⟩) n n)).setCell ⟨w.heap.size, 1, none⟩ (.slice (some ⟨bh, 0, none⟩) n n)) bs bh n f g := by
  have l1 := h.lt1
  have l2 := h.lt2
  refine ⟨(h.below.setCell (Nat.le_refl _) _).setCell (Nat.le_refl _) _, h.lt1, h.lt2, h.ne, ?_, (h.rs.setOther (by show bs ≠ w.heap.size; omega) _).setOther (by show bs ≠ w.heap.size; omega) _, (h.rh.setOther (by show bh ≠ w.heap.size; omega) _).setOther (by show bh ≠ w.heap.size; omega) _⟩
  have := h.t
  simp [World.setCell, Array.getElem?_modify, this]
theorem OfW.put {w wx : World} {bs bh n : Nat} {f g : Nat → Value} (h : OfW w wx bs bh n f g) (i : Nat) (u v : Value) :
    OfW w ((wx.setCell ⟨bs, i, none⟩ u).setCell ⟨bh, i, none⟩ v) bs bh n (fun j => if j = i then u else f j) (fun j => if j = i then v else g j) := by
  have l1 := h.lt1
  have l2 := h.lt2
  have hne := h.ne
  refine ⟨(h.below.setCell (by show w.heap.size ≤ bs; omega) _).setCell (by show w.heap.size ≤ bh; omega) _, h.lt1, h.lt2, h.ne, ?_, (h.rs.set i u).setOther hne _, (h.rh.setOther (fun e => hne e.symm) u).set i v⟩
  rw [Below.heap_setCell _ _ _ _ (by show w.heap.size ≠ bh; omega), Below.heap_setCell _ _ _ _ (by show w.heap.size ≠ bs; omega)]
  exact h.t
theorem ofL_none : ∀ (n : Nat) (xs : List Node), n ≤ xs.length → ofL n (xs.drop n) = none → ofL 0 xs = none := by
  intro n
  induction n with
  | zero => intro xs _ h; simpa using h
  | succ n ih =>
    intro xs hn h
    refine ih xs (by omega) ?_
    rw [List.drop_eq_getElem_cons (by omega)]
    simp [ofL, h]
/-- The nodes from n on are done. -/
theorem OfW.step {w wx : World} {bs bh n : Nat} {m : Nat} {l : List (Nat × Nat)} (h : OfW w wx bs bh n (rowF (·.1) (m + 1) l) (rowF (·.2) (m + 1) l)) (r hh : Nat) {u v : Value} (hu : u = .int .i64 ((r + 1 : Nat) : Int)) (hv : v = .int .i64 ((hh + 1 : Nat) : Int)) :
    OfW w ((wx.setCell ⟨bs, m, none⟩ u).setCell ⟨bh, m, none⟩ v) bs bh n (rowF (·.1) m ((r + 1, hh + 1) :: l)) (rowF (·.2) m ((r + 1, hh + 1) :: l)) := by
  refine (h.put m u v).congr ?_ ?_ <;>
  · intro j _
    unfold rowF
    by_cases e : j = m
    · subst e; simp [hu, hv]
    · rw [if_neg e]
      by_cases e2 : m + 1 ≤ j
      · rw [if_pos e2, if_pos (by omega)]
        obtain ⟨d, rfl⟩ : ∃ d, j = m + 1 + d := ⟨j - (m + 1), by omega⟩
        have : m + 1 + d - m = d + 1 := by omega
        simp [this]
      · rw [if_neg e2, if_neg (by omega)]
def OfPost (xs : List Node) (w : World) (e : Ending) (w' : World) : Prop := ∃ bs bh f g, OfW w w' bs bh xs.length f g ∧
      e = .returned (.tuple #[.agg #[.slice (some ⟨bs, 0, none⟩) xs.length xs.length, .slice (some ⟨bh, 0, none⟩) xs.length xs.length], .bool (ofL 0 xs).isSome]) ∧
      ∀ l, ofL 0 xs = some l → f = rowF (·.1) 0 l ∧ g = rowF (·.2) 0 l
set_option maxHeartbeats 2000000 in
theorem of_calls (xs : List Node) (v : Value) (w : World) (hv : NodesAt w v xs) (hn : xs.length ≤ 2048) :
    Calls Tryd.prog 26 #[v] w (OfPost xs w) := by
  obtain ⟨a, c, rfl, hc1, hc2, hcells⟩ := hv
  have hmk := run_make_row' (P := Tryd.prog) 38 3 (.int .i64 0) 8 Tryd.underlying38 infoInt rfl .i64 .i64 xs.length (by omega) (by omega)
  go_enter Tryd.func26, Tryd.ntmps26
  go_upto_region 1 with (fail)
  go_cut [] (fun wx => ∃ bs bh, OfW w wx bs bh xs.length (fun _ => .int .i64 0) (fun _ => .int .i64 0))
  case first =>
    go_region
    all_goals
      go_wp2_with fail
      go_meet
    · exact ⟨w.heap.size + 1, w.heap.size + 1 + 1, of_start w _ _ _ (.inl ⟨rfl, rfl⟩)⟩
    · exact ⟨w.heap.size + 1 + 1, w.heap.size + 1, of_start w _ _ _ (.inr ⟨rfl, rfl⟩)⟩
  case rest =>
    obtain ⟨bs, bh, hO⟩ := hcut
    clear hmk
    go_wp2
    go_loopg [4] xs.length (fun g s4 wr => ∃ (m : Nat) (z : Int) (l : List (Nat × Nat)), g = m ∧ m ≤ xs.length ∧ s4 = .int .i64 z ∧ Aside (z + 1 = m) ∧ Aside (ofL m (xs.drop m) = some l) ∧ OfW w wr bs bh xs.length (rowF (·.1) m l) (rowF (·.2) m l))
    case atStart =>
      refine ⟨xs.length, _, [], rfl, Nat.le_refl _, rfl, show _ = _ by omega, show _ = _ by simp [ofL], hO.congr ?_ ?_⟩ <;> (intro i hi; simp [rowF])
    case round =>
      obtain ⟨m, z, l, rfl, hm, rfl, Az, Al, hO1⟩ := hrel
      clear hO
      have t0 := (cell_two hO1.t).1
      have t1 := (cell_two hO1.t).2.1
      have tf := (cell_two hO1.t).2.2
      cases gk with
      | zero =>
        obtain rfl : z = -1 := by have := Az.out; omega
        have hl : ofL 0 xs = some l := by simpa using Al.out
        have Hl := Lib.hid hl
        clear hl
        go_wp2
        refine bodyPost_ret (v := .tuple #[.agg #[.slice (some ⟨bs, 0, none⟩) xs.length xs.length, .slice (some ⟨bh, 0, none⟩) xs.length xs.length], .bool true]) ?_ rfl ⟨bs, bh, _, _, hO1.again, ?_, ?_⟩
        · have q := cell_two hO1.again.t
          simp [results, Tryd.results26, go_sem, q.1, q.2.1]
        · rw [Hl.out]; rfl
        · intro l' h'; rw [Hl.out] at h'; cases h'; exact ⟨rfl, rfl⟩
      | succ n =>
        obtain rfl : z = (n : Int) := by have := Az.out; omega
        obtain ⟨b, o, rfl, hN⟩ := hcells n (by omega)
        have hN1 := NodeAt.below hO1.below hN
        obtain ⟨_, _, _, _, _, _, _, _, kv, hk8, hkids⟩ := hN1
        obtain ⟨ka, kc, rfl, hkc1, hkc2, hkcells⟩ := hkids
        generalize hx : xs.getD n default = x at *
        have Hx := Lib.hid hx
        clear hx hN
        have hlen := (ofL_ok Al.out)
        have hl1 : l.length = xs.length - (n + 1) := by simpa using hlen.1
        have Hl1 := Lib.hid hl1
        have Hok := Lib.hid hlen.2
        clear hlen hl1
        go_wp2
        obtain ⟨wo, hwo⟩ : ∃ wo : World, wo = wr := ⟨_, rfl⟩
        go_loopg [5, 6, 31] x.kids.length (fun g s5 s6 s31 wi => ∃ (i r ht q : Nat), g = x.kids.length - i ∧ i ≤ x.kids.length ∧ s31 = .int .i64 i ∧ s5 = .int .i64 q ∧ s6 = .int .i64 ht ∧ Aside (q = n + 1 + r) ∧ q ≤ xs.length ∧ ht ≤ xs.length ∧
            Aside (kw (n + 1) l (x.kids.drop i) r ht = kw (n + 1) l x.kids 0 0) ∧ OfW w wi bs bh xs.length (rowF (·.1) (n + 1) l) (rowF (·.2) (n + 1) l) ∧ Below wo.heap.size wo wi)
        case atStart => exact ⟨0, 0, 0, n + 1, by omega, by omega, by go_num, by go_num, rfl, show _ = _ by omega, by omega, by omega, show _ = _ by simp, hO1, by rw [hwo]; exact Below.refl _ _⟩
        case round =>
          obtain ⟨i, r, ht, q, rfl, hi, rfl, rfl, rfl, Aq, hq, hh, Ak, hO2, hB2⟩ := hrel
          subst hwo
          clear t0 t1 tf hO1
          have t0 := (cell_two hO2.t).1
          have t1 := (cell_two hO2.t).2.1
          have tf := (cell_two hO2.t).2.2
          by_cases hil : i < x.kids.length
          · obtain ⟨kb, ko, rfl, hkc⟩ := hkcells i hil
            have hkc1 := cell_below hB2 hkc
            have hdrop := Lib.hid (List.drop_eq_getElem_cons hil)
            generalize hkk : x.kids.getD i 0 = k at hkc1
            have Hkk := Lib.hid hkk
            clear hkk hkc
            simp only [Nat.mul_one] at hkc1
            by_cases hgo : k = q ∧ q < xs.length
            · obtain ⟨rfl, hql⟩ := hgo
              have hqz : (q : Int) < (xs.length : Int) := by omega
              have hqr := Aq.out
              have hl1 := Hl1.out
              have hrl : r < l.length := by omega
              obtain ⟨p1, p2, p3⟩ := Hok.out r hrl
              have c1 : wr.cell? ⟨bs, q, none⟩ = some (.int .i64 (((l.getD r (0, 0)).1 : Nat) : Int)) := by
                rw [hO2.rs.cell hql]; unfold rowF; rw [if_pos (by omega), show q - (n + 1) = r by omega]
              have c2 : wr.cell? ⟨bh, q, none⟩ = some (.int .i64 (((l.getD r (0, 0)).2 : Nat) : Int)) := by
                rw [hO2.rh.cell hql]; unfold rowF; rw [if_pos (by omega), show q - (n + 1) = r by omega]
              have hstep : kw (n + 1) l (x.kids.drop i) r ht = kw (n + 1) l (x.kids.drop (i + 1)) (r + (l.getD r (0, 0)).1) (max ht (l.getD r (0, 0)).2) := by
                rw [hdrop.out]
                have : x.kids[i] = (q : Int) := by have := Hkk.out; simpa [List.getD, List.getElem?_eq_getElem hil] using this
                rw [this, kw, if_pos ⟨by omega, hrl⟩]
              have Hstep := Lib.hid hstep
              generalize (l.getD r (0, 0)).1 = s1 at *
              generalize (l.getD r (0, 0)).2 = s2 at *
              have hs1 : q + s1 ≤ xs.length := by omega
              have hs2 : s2 ≤ xs.length := by omega
              have Hr := Lib.hid hqr
              clear hqr hl1 hstep p1 p2 p3 hdrop
              go_wp2
              go_quiet (fail)
              go_wp2
              all_goals
                go_roundg (x.kids.length - (i + 1))
                case measure => go_light; omega
                case rel =>
                  go_light
                  refine ⟨i + 1, r + s1, max ht s2, q + s1, rfl, by omega, by go_num, by go_num, ?_, show _ = _ by (have := Hr.out; omega), hs1, by omega, show _ = _ by rw [← Hstep.out]; exact Ak.out, ?_, ?_⟩
                  · congr 1; omega
                  · exact hO2.drewN _
                  · exact below_drewN hB2 _
            · have hnone : ofL 0 xs = none := by
                refine ofL_none n xs (by omega) ?_
                rw [List.drop_eq_getElem_cons (by omega)]
                simp only [ofL, Al.out]
                have hxe : xs[n]'(by omega) = x := by have := Hx.out; simpa [List.getD, List.getElem?_eq_getElem (show n < xs.length by omega)] using this
                rw [hxe, ← Ak.out, hdrop.out]
                have : x.kids[i] = k := by have := Hkk.out; simpa [List.getD, List.getElem?_eq_getElem hil] using this
                rw [this]
                simp only [kw]
                rw [if_neg (by have := Aq.out; have := Hl1.out; intro hc; exact hgo ⟨by omega, by omega⟩)]
              have Hnone := Lib.hid hnone
              clear hnone
              by_cases hkq : k = q
              · subst hkq
                have hql : ¬ q < xs.length := fun h => hgo ⟨rfl, h⟩
                clear hgo
                go_wp2
                refine bodyPost_ret (v := .tuple #[.agg #[.slice (some ⟨bs, 0, none⟩) xs.length xs.length, .slice (some ⟨bh, 0, none⟩) xs.length xs.length], .bool false]) ?_ rfl ⟨bs, bh, _, _, hO2.again, ?_, ?_⟩
                · have q := cell_two hO2.again.t
                  simp [results, Tryd.results26, go_sem, q.1, q.2.1]
                · rw [Hnone.out]; rfl
                · intro l' h'; rw [Hnone.out] at h'; cases h'
              · have hkq' : (k != (q : Int)) = true := by rw [bne_iff_ne]; exact hkq
                have Hkq := Lib.hid hkq
                clear hgo hkq
                go_wp2
                refine bodyPost_ret (v := .tuple #[.agg #[.slice (some ⟨bs, 0, none⟩) xs.length xs.length, .slice (some ⟨bh, 0, none⟩) xs.length xs.length], .bool false]) ?_ rfl ⟨bs, bh, _, _, hO2.again, ?_, ?_⟩
                · have q := cell_two hO2.again.t
                  simp [results, Tryd.results26, go_sem, q.1, q.2.1]
                · rw [Hnone.out]; rfl
                · intro l' h'; rw [Hnone.out] at h'; cases h'
          · have hrl : r ≤ xs.length := by have := Aq.out; omega
            have hnz : (n : Int) < (xs.length : Int) := by omega
            have hn0 : n < xs.length := by omega
            have c1 := hO2.rs.cell hn0
            have c2 := hO2.rh.cell hn0
            have f1 := hO2.rs.frozen n
            have f2 := hO2.rh.frozen n
            have e1 : rowF (·.1) (n + 1) l n = .int .i64 0 := by unfold rowF; rw [if_neg (by omega)]
            have e2 : rowF (·.2) (n + 1) l n = .int .i64 0 := by unfold rowF; rw [if_neg (by omega)]
            rw [e1] at c1
            rw [e2] at c2
            have Hne := Lib.hid hO2.ne
            have hne1 := hO2.lt1
            have hne2 := hO2.lt2
            clear e1 e2
            have g1 : ∀ v, (wr.setCell ⟨bs, n, none⟩ v).cell? ⟨bh, n, none⟩ = some (.int .i64 0) := fun v => by
              rw [World.cell?_setCell_other _ _ _ _ (fun e => Hne.out (congrArg Addr.block e))]; exact c2
            have g2 : ∀ v, (wr.setCell ⟨bh, n, none⟩ v).cell? ⟨bs, n, none⟩ = some (.int .i64 0) := fun v => by
              rw [World.cell?_setCell_other _ _ _ _ (fun e => Hne.out (congrArg Addr.block e).symm)]; exact c1
            go_wp2
            go_region
            go_wp2
            go_roundg n
            case measure => go_light; omega
            case rel =>
              go_light
              have hAl : ofL n (xs.drop n) = some ((r + 1, ht + 1) :: l) := by
                rw [List.drop_eq_getElem_cons hn0]
                have hxe : xs[n] = x := by have := Hx.out; simpa [List.getD, List.getElem?_eq_getElem hn0] using this
                have hkw : kw (n + 1) l x.kids 0 0 = some (r, ht) := by rw [← Ak.out, List.drop_of_length_le (by omega)]; rfl
                simp only [ofL, Al.out, hxe, hkw]
              have hqr := Aq.out
              exact ⟨n, (n : Int) - 1, (r + 1, ht + 1) :: l, rfl, by omega, rfl, show _ = _ by omega, hAl, (hO2.step r ht (by rw [hqr]; congr 1; omega) (by congr 1)).drew⟩
end Go.Proofs.YtljoajjbhjdonaaDoor
