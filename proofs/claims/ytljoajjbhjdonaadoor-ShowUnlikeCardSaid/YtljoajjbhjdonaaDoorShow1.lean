/- Package show, the writer: signs, empty, dot, text, call. -/
import Derived.Test.YtljoajjbhjdonaaDoorRuns
import Derived.Test.YtljoajjbhjdonaaDoorAll
import Derived.Test.YtljoajjbhjdonaaDoorGram3
import Derived.Deep.RegionHeld3
import Derived.Deep.DrawnRows
namespace Go.Proofs.YtljoajjbhjdonaaDoor
open Go.RowKit
set_option maxRecDepth 100000
attribute [local go_sem ↓] Go.wp_at_zero Go.wp_at_succ

theorem bt_writer : BT 54 2 := ⟨by kernel_rfl, by decide⟩
/-- A grammar in memory as the calls find it. -/
structure Gr (w0 : World) (rs : List Rule) (ns : List Node) (rv nv : Value) : Prop where
  rules : RulesAt w0 rv rs
  nodes : NodesAt w0 nv ns
  tab : TabAt 0 Lib.deBruijn64tab w0
def signB (k : Int) : ByteArray := if k = 8 then ⟨#[42]⟩ else if k = 9 then ⟨#[43]⟩ else if k = 10 then ⟨#[63]⟩ else if k = 11 then ⟨#[33]⟩ else ⟨#[38]⟩
theorem sign_calls (k : Int) (hk : 8 ≤ k ∧ k ≤ 12) (w : World) : Calls Tryd.prog 61 #[.int .i64 k] w fun e w' => e = .returned (.string (signB k)) ∧ w = w' := by
  have : k = 8 ∨ k = 9 ∨ k = 10 ∨ k = 11 ∨ k = 12 := by omega
  rcases this with rfl | rfl | rfl | rfl | rfl <;>
  · go_enter Tryd.func61, Tryd.ntmps61
    go_wp2
    go_ret
    exact ⟨rfl, rfl⟩
abbrev Wt (w0 : World) (rv nv : Value) (b : Nat) (l : List UInt8) (w : World) : Prop := Bld 54 [rv, nv] w0.heap.size b l w
def Wrote (w0 : World) (rv nv : Value) (b : Nat) (l t : List UInt8) (w : World) (e : Ending) (w' : World) : Prop := e = .returned (.tuple #[]) ∧ Wt w0 rv nv b (l ++ t) w' ∧ Kept w0.heap.size b w w'
theorem empty_calls {w0 : World} {rv nv : Value} {b : Nat} {l : List UInt8} (n : Int) (w : World) (h : Wt w0 rv nv b l w) (hlen : l.length + 2 ≤ 140737488355328) :
    Calls Tryd.prog 39 #[.pointer (some ⟨b, 0, none⟩), .int .i64 n] w (Wrote w0 rv nv b l [40, 41] w) := by
  go_enter Tryd.func39, Tryd.ntmps39
  go_wp2_with (go_at_call 20; refine (WriteString_calls bt_writer ⟨#[40, 41]⟩ _ h hlen).mono ?_; rintro e w1 ⟨rfl, hB1, hk1⟩)
  go_end0
  exact ⟨rfl, hB1, hk1⟩
theorem dot_calls {w0 : World} {rv nv : Value} {b : Nat} {l : List UInt8} (n : Int) (w : World) (h : Wt w0 rv nv b l w) (hlen : l.length + 1 ≤ 140737488355328) :
    Calls Tryd.prog 40 #[.pointer (some ⟨b, 0, none⟩), .int .i64 n] w (Wrote w0 rv nv b l [46] w) := by
  have hw := WriteByte_calls bt_writer 46 _ h hlen
  go_enter Tryd.func40, Tryd.ntmps40
  go_wp2_with (go_at_call 30; refine hw.mono ?_; rintro e w1 ⟨rfl, hB1, hk1⟩)
  go_end0
  exact ⟨rfl, hB1, hk1⟩
def textT (s : ByteArray) : List UInt8 := 34 :: (allL 1 s.data.toList ++ [34])
abbrev rowW (w : World) (s : ByteArray) (cap : Nat) : World := (w.alloc (.cells (bytesRow s cap) 5 ((bytesRow s cap).size, (bytesRow s cap).size + 1))).drew.drew
theorem bytes_of_row (w : World) (s : ByteArray) (cap : Nat) : BytesAt (rowW w s cap) (.slice (some ⟨w.heap.size, 0, none⟩) s.size cap) s.data.toList := by
  refine ⟨_, cap, by simp, fun i hi => ⟨w.heap.size, 0, rfl, ?_⟩⟩
  have hi' : i < s.data.size := by simpa using hi
  show (w.alloc _).cell? _ = _
  rw [Nat.zero_add, World.cell?_alloc_mark, bytesRow_at s cap i hi']
  simp [List.getD_eq_getElem?_getD, Array.getElem?_eq_getElem hi']
theorem below_row (w : World) (s : ByteArray) (cap : Nat) : Below w.heap.size w (rowW w s cap) := (below_box w _).drew.drew
theorem bsize (b : ByteArray) : b.size = b.data.toList.length := by simp
theorem add_run (a b : ByteArray) (h : a.size + b.size ≤ 9223372036854775807) : ∀ W, (binOp .add 9 (.string a) (.string b)).run Tryd.prog W = .ok (.string (a ++ b)) W := fun W => by
  simp only [binOp]; exact run_string_add_sum W a b h
theorem quote_size (m : List UInt8) : (({ data := #[34] } : ByteArray) ++ { data := m.toArray } ++ { data := #[34] }).size = (34 :: (m ++ [34])).length := by
  have e : ∀ b : ByteArray, b.size = b.data.toList.length := fun b => by simp
  rw [e]; simp
theorem quote_list (m : List UInt8) : (({ data := #[34] } : ByteArray) ++ { data := m.toArray } ++ { data := #[34] }).data.toList = 34 :: (m ++ [34]) := by
  simp
set_option maxHeartbeats 4000000 in
theorem text_calls' {w0 : World} {rs : List Rule} {ns : List Node} {rv nv : Value} {b : Nat} {l : List UInt8} (hG : Gr w0 rs ns rv nv) (i : Nat) (hi : i < ns.length) (h1 : 1 ≤ (ns.getD i default).text.size) (h2 : (ns.getD i default).text.size ≤ 64) (w : World) (hb : Below w0.heap.size w0 w) (h : Wt w0 rv nv b l w) (hlen : l.length + (textT (ns.getD i default).text).length ≤ 140737488355328) :
    Calls Tryd.prog 42 #[.pointer (some ⟨b, 0, none⟩), .int .i64 i] w (Wrote w0 rv nv b l (textT (ns.getD i default).text) w) := by
  obtain ⟨a, c, rfl, hc1, hc2, hc⟩ := id hG.nodes
  obtain ⟨nb, no, rfl, hN⟩ := hc i hi
  have hT := TabAt.later hG.tab hb
  generalize ns.getD i default = x at *
  obtain ⟨-, -, -, -, -, p50, -⟩ := hN
  have p5 := cell_below hb p50
  have hnodes := h.cell 1
  simp only [List.getElem?_cons_succ, List.getElem?_cons_zero, Nat.reduceAdd] at hnodes
  generalize hn : ns.length = n at *
  have hiz : (i : Int) < (n : Int) := by omega
  have hi0 : (0 : Int) ≤ (i : Int) := by omega
  have hconv := run_bytes_of_string (P := Tryd.prog) w.drew 9 50 5 x.text Tryd.underlying9 Tryd.underlying50 Tryd.underlying5
  have hz1 : 1 ≤ x.text.data.toList.length := by simpa using h1
  have hz2 : x.text.data.toList.length ≤ 1099511627776 := by simp; omega
  obtain ⟨cap, hcap⟩ : ∃ cap, grownCap w.drew x.text.size 0 5 = cap := ⟨_, rfl⟩
  rw [hcap] at hconv
  have hrow := bytes_of_row w x.text cap
  have hbw := below_row w x.text cap
  have hAll := All_calls 1 (.inl rfl) _ _ _ (TabAt.later hT hbw) hrow hz1 hz2
  have hsz : (allL 1 x.text.data.toList).length ≤ 1099511627776 := by
    have := allL_len 1 x.text.data.toList
    simp only [Array.length_toList, ByteArray.size_data] at *; omega
  have hadd1 := add_run ⟨#[34]⟩ ⟨(allL 1 x.text.data.toList).toArray⟩ (by rw [bsize, bsize]; simp; omega)
  have hadd2 := add_run (⟨#[34]⟩ ++ ⟨(allL 1 x.text.data.toList).toArray⟩) ⟨#[34]⟩ (by rw [bsize, bsize]; simp; omega)
  go_enter Tryd.func42, Tryd.ntmps42
  go_wp2
  go_region_with
    (first
      | (go_at_call 58; refine hAll.mono ?_; rintro e w1 ⟨rfl, hb1⟩; have hb2 := below_chain hbw hb1; have k1 := cell_below hb2 hnodes; have k2 := cell_below hb2 p5)
      | (go_at_call 20; refine (WriteString_calls bt_writer _ _ (h.later hb2) (by rw [quote_size]; exact hlen)).mono ?_; rintro e w2 ⟨rfl, hB3, hk3⟩; have k3 := hB3.cell 1; have k4 := cell_below (hb.trans ((hb2.mono hb.size).trans hk3.below)) p50))
  all_goals go_wp2
  go_end0
  rw [quote_list] at hB3
  exact ⟨rfl, hB3, (Kept.of_below hb2 hb.size).trans hk3⟩
theorem cell_blk {w : World} {b : Nat} {c : Array Value} {T : TypeId} {f : Nat × Nat} (h : w.heap[b]? = some (.cells c T f)) {j : Nat} {v : Value} (hv : c[j]? = some v) : w.cell? ⟨b, j, none⟩ = some v := by
  simp [World.cell?, h, hv]
def callT (rs : List Rule) (x : Node) : List UInt8 := (rs.getD x.rule.toNat default).name.data.toList ++ (if 0 < x.level then 58 :: Lib.decDigits x.level.toNat else [])
set_option maxHeartbeats 4000000 in
theorem call_calls' {w0 : World} {rs : List Rule} {ns : List Node} {rv nv : Value} {b : Nat} {l : List UInt8} (hG : Gr w0 rs ns rv nv) (i : Nat) (hi : i < ns.length) (h1 : 0 ≤ (ns.getD i default).rule ∧ (ns.getD i default).rule < rs.length) (h2 : 0 ≤ (ns.getD i default).level ∧ (ns.getD i default).level ≤ 99) (w : World) (hb : Below w0.heap.size w0 w) (h : Wt w0 rv nv b l w) (hlen : l.length + (callT rs (ns.getD i default)).length ≤ 140737488355328) :
    Calls Tryd.prog 43 #[.pointer (some ⟨b, 0, none⟩), .int .i64 i] w (Wrote w0 rv nv b l (callT rs (ns.getD i default)) w) := by
  obtain ⟨a, c, rfl, hc1, hc2, hc⟩ := id hG.nodes
  obtain ⟨nb, no, rfl, hN⟩ := hc i hi
  have hN := NodeAt.below hb hN
  generalize ns.getD i default = x at *
  obtain ⟨p0, p1, p2, p3, p4, p5, p6, p7, kv, p8, hkv⟩ := hN
  obtain ⟨ka, kc, rfl, _⟩ := id hkv
  obtain ⟨ru, hru⟩ : ∃ ru : Nat, x.rule = (ru : Int) := ⟨x.rule.toNat, by omega⟩
  obtain ⟨lv, hlv⟩ : ∃ lv : Nat, x.level = (lv : Int) := ⟨x.level.toNat, by omega⟩
  obtain ⟨a2, c2, rfl, hd1, hd2, hd⟩ := id hG.rules
  obtain ⟨rb, ro, rfl, hR0, -⟩ := hd ru (by omega)
  have hR := cell_below hb hR0
  have hT : callT rs x = (rs.getD ru default).name.data.toList ++ (if 0 < lv then 58 :: Lib.decDigits lv else []) := by unfold callT; rw [hru, hlv]; simp
  rw [hT] at hlen ⊢
  clear hT
  generalize (rs.getD ru default).name = nm at *
  rw [hru] at p6 h1
  rw [hlv] at p7 h2
  have hrules := h.cell 0
  have hnodes := h.cell 1
  simp only [List.getElem?_cons_succ, List.getElem?_cons_zero, Nat.reduceAdd] at hnodes hrules
  generalize hn : ns.length = n at *
  generalize hrn : rs.length = rn at *
  have hiz : (i : Int) < (n : Int) := by omega
  have hi0 : (0 : Int) ≤ (i : Int) := by omega
  have hrz : (ru : Int) < (rn : Int) := by omega
  have hr0 : (0 : Int) ≤ (ru : Int) := by omega
  clear hru hlv
  obtain ⟨o, ho⟩ : ∃ o, Obj.cells #[.int .i64 x.kind, .int .u64 x.c0, .int .u64 x.c1, .int .u64 x.c2, .int .u64 x.c3, .string x.text, .int .i64 ru, .int .i64 lv, .slice ka x.kids.length kc] 43 = o := ⟨_, rfl⟩
  have hbo := below_box w o
  have hwo : (w.alloc o).heap[w.heap.size]? = some o := (MapKept.heap_alloc w o).1
  have g6 : (w.alloc o).cell? ⟨w.heap.size, 6, none⟩ = some (.int .i64 (ru : Int)) := by rw [← ho, World.cell?_alloc_mark]; rfl
  have g7 : (w.alloc o).cell? ⟨w.heap.size, 7, none⟩ = some (.int .i64 (lv : Int)) := by rw [← ho, World.cell?_alloc_mark]; rfl
  have hwo' := hwo.trans (congrArg some ho.symm)
  have gr := cell_below hbo hrules
  have gR := cell_below hbo hR
  have hl1 : l.length + nm.size ≤ 140737488355328 := by rw [bsize]; simp only [List.length_append] at hlen; omega
  have hbd : Below w.heap.size w (w.alloc o).drew := hbo.drew
  have hWS := WriteString_calls bt_writer nm _ (h.later hbd) hl1
  have hbne : w.heap.size ≠ b := fun e => by have := h.lt; omega
  by_cases hl0 : 0 < lv
  · rw [if_pos hl0] at hlen ⊢
    have hlz : (0 : Int) < (lv : Int) := by omega
    generalize hdg : Lib.decDigits lv = dg at *
    have hItoa := fun W => Tryd.strconv_Itoa_small lv (by omega) W
    rw [hdg] at hItoa
    simp only [List.length_append, List.length_cons] at hlen
    have hadd := add_run ⟨#[58]⟩ ⟨dg.toArray⟩ (by rw [bsize, bsize]; simp; omega)
    have hsz : (({ data := #[58] } : ByteArray) ++ { data := dg.toArray }).size = dg.length + 1 := by rw [bsize]; simp
    have hls : (({ data := #[58] } : ByteArray) ++ { data := dg.toArray }).data.toList = 58 :: dg := by simp
    have hl2 : (l ++ nm.data.toList).length + (({ data := #[58] } : ByteArray) ++ { data := dg.toArray }).size ≤ 140737488355328 := by rw [hsz, List.length_append]; omega
    clear hdg
    go_enter Tryd.func43, Tryd.ntmps43
    go_wp2
    go_region_held3 (fun w' => w'.cell? ⟨b, 2, none⟩ = some (.slice (some ⟨rb, ro, none⟩) rn c2) ∧ w'.cell? ⟨w.heap.size, 6, none⟩ = some (.int .i64 (ru : Int)) ∧ w'.cell? ⟨rb, ro + ru * 2, none⟩ = some (.string nm)) (go_keep)
      (first | (go_at_call 20; refine hWS.mono ?_; rintro e w2 ⟨rfl, hB3, hk3⟩; have k2 := hB3.cell 0; have k4 := cell_below (hb.trans ((hbd.mono hb.size).trans hk3.below)) hR0; have k5 := (hk3.block hwo' hbne (by decide)); have k6 : w2.cell? ⟨w.heap.size, 6, none⟩ = some (.int .i64 (ru : Int)) := cell_blk k5 rfl; have k7 : w2.cell? ⟨w.heap.size, 7, none⟩ = some (.int .i64 (lv : Int)) := cell_blk k5 rfl))
    go_wp2
    go_region_with
      (first
        | (go_at_call 59; refine (hItoa _).mono ?_; rintro e w3 ⟨rfl, rfl⟩)
        | (go_at_call 20; refine (WriteString_calls bt_writer _ _ (hB3.later (Below.refl _ _).drew) hl2).mono ?_; rintro e w3 ⟨rfl, hB4, hk4⟩; have k8 := hk4.block k5 hbne (by decide); have k9 : w3.cell? ⟨w.heap.size, 7, none⟩ = some (.int .i64 (lv : Int)) := cell_blk k8 rfl))
    go_wp2
    go_end0
    rw [hls, List.append_assoc] at hB4
    exact ⟨rfl, hB4, ((Kept.of_below hbd hb.size).trans hk3).trans ((Kept.of_below ((Below.refl _ _).drew) hB3.2.1).trans hk4)⟩
  · rw [if_neg hl0, List.append_nil]
    have hlz : ¬ (0 : Int) < (lv : Int) := by omega
    go_enter Tryd.func43, Tryd.ntmps43
    go_wp2
    go_region_held3 (fun w' => w'.cell? ⟨b, 2, none⟩ = some (.slice (some ⟨rb, ro, none⟩) rn c2) ∧ w'.cell? ⟨w.heap.size, 6, none⟩ = some (.int .i64 (ru : Int)) ∧ w'.cell? ⟨rb, ro + ru * 2, none⟩ = some (.string nm)) (go_keep)
      (first | (go_at_call 20; refine hWS.mono ?_; rintro e w2 ⟨rfl, hB3, hk3⟩; have k2 := hB3.cell 0; have k4 := cell_below (hb.trans ((hbd.mono hb.size).trans hk3.below)) hR0; have k5 := (hk3.block hwo' hbne (by decide)); have k6 : w2.cell? ⟨w.heap.size, 6, none⟩ = some (.int .i64 (ru : Int)) := cell_blk k5 rfl; have k7 : w2.cell? ⟨w.heap.size, 7, none⟩ = some (.int .i64 (lv : Int)) := cell_blk k5 rfl))
    go_wp2
    go_end0
    exact ⟨rfl, hB3, (Kept.of_below hbd hb.size).trans hk3⟩
end Go.Proofs.YtljoajjbhjdonaaDoor
