/- Package show, the writer: node, as a whole: it writes textN. -/
import Derived.Test.YtljoajjbhjdonaaDoorNode2
namespace Go.Proofs.YtljoajjbhjdonaaDoor
open Go.RowKit Go.Shelf
set_option maxRecDepth 100000

theorem does_enters (k : Int) (hk : 1 ≤ k ∧ k ≤ 12) : ∀ args w, (callFunc (doesF k) args).run Tryd.prog w = .ok (.enter (doesF k) args) w := by
  have : k = 1 ∨ k = 2 ∨ k = 3 ∨ k = 4 ∨ k = 5 ∨ k = 6 ∨ k = 7 ∨ k = 8 ∨ k = 9 ∨ k = 10 ∨ k = 11 ∨ k = 12 := by omega
  rcases this with rfl | rfl | rfl | rfl | rfl | rfl | rfl | rfl | rfl | rfl | rfl | rfl
  · exact enters_of Tryd.func39 (by kernel_rfl) rfl
  · exact enters_of Tryd.func40 (by kernel_rfl) rfl
  · exact enters_of Tryd.func41 (by kernel_rfl) rfl
  · exact enters_of Tryd.func42 (by kernel_rfl) rfl
  · exact enters_of Tryd.func43 (by kernel_rfl) rfl
  · exact enters_of Tryd.func44 (by kernel_rfl) rfl
  · exact enters_of Tryd.func45 (by kernel_rfl) rfl
  · exact enters_of Tryd.func46 (by kernel_rfl) rfl
  · exact enters_of Tryd.func46 (by kernel_rfl) rfl
  · exact enters_of Tryd.func46 (by kernel_rfl) rfl
  · exact enters_of Tryd.func47 (by kernel_rfl) rfl
  · exact enters_of Tryd.func47 (by kernel_rfl) rfl
theorem Kd.mem {sz : Nat → Nat} {N : Nat} : ∀ {ks : List Int} {s e : Nat}, Kd sz N s ks e → ∀ k ∈ ks, ∃ j : Nat, k = (j : Int) ∧ s ≤ j ∧ j < N
  | [], _, _, _, k, hk => by cases hk
  | k :: ks, s, e, ⟨h1, h2, h3⟩, k', hk' => by
    rcases List.mem_cons.1 hk' with rfl | hk'
    · exact ⟨s, h1, Nat.le_refl _, h2⟩
    · obtain ⟨j, e1, e2, e3⟩ := Kd.mem h3 k' hk'
      exact ⟨j, e1, by omega, e3⟩
/-- What holds of a grammar whose texts are written. -/
structure Good (rs : List Rule) (ns : List Node) (sz : Nat → Nat) : Prop where
  tree : Tree rs ns sz
  wide : ∀ x ∈ ns, Wd x
  names : ∀ r ∈ rs, r.name.size ≤ 32
  few : ns.length ≤ 2048
def NodeC (w0 : World) (rs : List Rule) (ns : List Node) (rv nv : Value) (b f : Nat) : Prop :=
  ∀ (n : Nat) (how : Int) (l : List UInt8) (w : World), n < ns.length → ns.length ≤ n + f → Below w0.heap.size w0 w → Wt w0 rv nv b l w → l.length + f * 1073741824 ≤ 70368744177664 →
    Calls Tryd.prog 19 #[.pointer (some ⟨b, 0, none⟩), .int .i64 (n : Int), .int .i64 how] w (Wrote w0 rv nv b l (textN rs ns f n how) w)
theorem does_calls {w0 : World} {rs : List Rule} {ns : List Node} {rv nv : Value} {b : Nat} {sz : Nat → Nat} (hG : Gr w0 rs ns rv nv) (hg : Good rs ns sz) (f : Nat) (ih : NodeC w0 rs ns rv nv b f) (n : Nat) (hn : n < ns.length) (hf : ns.length ≤ n + (f + 1)) (l : List UInt8) (w : World)
    (hb : Below w0.heap.size w0 w) (h : Wt w0 rv nv b l w) (hlen : l.length + f * 1073741824 + 1073741824 ≤ 70368744177665) :
    Calls Tryd.prog (doesF (ns.getD n default).kind) #[.pointer (some ⟨b, 0, none⟩), .int .i64 (n : Int)] w (Wrote w0 rv nv b l (bodyT rs (ns.getD n default) (textN rs ns f)) w) := by
  have hmem : ns.getD n default ∈ ns := by rw [List.getD_eq_getElem?_getD, List.getElem?_eq_getElem hn]; exact List.getElem_mem _
  have hw := hg.wide _ hmem
  have hkd := hg.tree.kids n hn
  have hs := hg.tree.size n hn
  have hfew := hg.few
  have hq : l.length + f * 1073741824 ≤ 70368744177664 := by omega
  have hq2 : l.length + 5400000 + 1 ≤ 140737488355328 := by omega
  have htl := fun (k : Nat) (how : Int) (hk : k < ns.length) => textN_len hg.tree hg.wide hg.names f k how hk
  have hsz := fun (k : Nat) (hk : k < ns.length) => (hg.tree.size k hk).2
  rcases nodeB_cases (hg.tree.node n hn) with ⟨hk, _⟩ | ⟨hk, _⟩ | ⟨hk, h4, _⟩ | ⟨hk, h5, _⟩ | ⟨hk, _, h6⟩ | ⟨hk, _, h8⟩
  · rcases hk with hk | hk
    · have e : bodyT rs (ns.getD n default) (textN rs ns f) = [40, 41] := by unfold bodyT; rw [if_pos hk]
      rw [e, hk]
      exact empty_calls n w h (by omega)
    · have e : bodyT rs (ns.getD n default) (textN rs ns f) = [46] := by unfold bodyT; simp only [hk]; rfl
      rw [e, hk]
      exact dot_calls n w h (by omega)
  · have e : bodyT rs (ns.getD n default) (textN rs ns f) = setT (ns.getD n default) := by unfold bodyT; simp only [hk]; rfl
    rw [e, hk]
    exact set_calls' hG n hn hw w hb h (by omega)
  · have e : bodyT rs (ns.getD n default) (textN rs ns f) = textT (ns.getD n default).text := by unfold bodyT; simp only [hk]; rfl
    rw [e, hk]
    refine text_calls' hG n hn h4.1 h4.2 w hb h ?_
    have h1 := allL_len 1 (ns.getD n default).text.data.toList
    rw [← bsize] at h1
    simp only [textT, List.length_cons, List.length_append, List.length_nil]; omega
  · have e : bodyT rs (ns.getD n default) (textN rs ns f) = callT rs (ns.getD n default) := by unfold bodyT; simp only [hk]; rfl
    rw [e, hk]
    refine call_calls' hG n hn ⟨h5.1, h5.2.1⟩ ⟨h5.2.2.1, h5.2.2.2⟩ w hb h ?_
    have h1 : (rs.getD (ns.getD n default).rule.toNat default).name.size ≤ 32 := by
      rw [List.getD_eq_getElem?_getD, List.getElem?_eq_getElem (by omega)]; exact hg.names _ (List.getElem_mem _)
    have h2 := dec_len (ns.getD n default).level.toNat (by omega)
    unfold callT
    rw [List.length_append, ← bsize]
    split <;> simp only [List.length_cons, List.length_nil] <;> omega
  · have hbt := fun (how : Int) (sep : ByteArray) (hsep : sep.data.toList.length ≤ 3) => between_calls hG n hn how sep (fun k => textN rs ns f k how) 5400000
      (fun k hk => by
        obtain ⟨j, rfl, _, hj⟩ := Kd.mem hkd k hk
        have h1 := htl j how hj
        have h2 := hsz j hj
        have : 2600 * sz j ≤ 2600 * 2048 := Nat.mul_le_mul_left _ (by omega)
        omega)
      (fun k hk l' w' hB' hb' hl' => by
        obtain ⟨j, rfl, hj1, hj⟩ := Kd.mem hkd k hk
        refine ih j how l' w' hj (by omega) hb' hB' ?_
        have : (ns.getD n default).kids.length * 5400000 ≤ 64 * 5400000 := Nat.mul_le_mul_right _ h6.2
        omega) w hb h (by
        have : (ns.getD n default).kids.length * 5400000 ≤ 64 * 5400000 := Nat.mul_le_mul_right _ h6.2
        omega)
    rcases hk with hk | hk
    · have e : bodyT rs (ns.getD n default) (textN rs ns f) = joinT [32] (fun k => textN rs ns f k 2) (ns.getD n default).kids := by unfold bodyT; simp only [hk]; rfl
      rw [e, hk]
      exact seq_calls n w (hbt 2 ⟨#[32]⟩ (by simp))
    · have e : bodyT rs (ns.getD n default) (textN rs ns f) = joinT [32, 47, 32] (fun k => textN rs ns f k 1) (ns.getD n default).kids := by unfold bodyT; simp only [hk]; rfl
      rw [e, hk]
      exact alt_calls n w (hbt 1 ⟨#[32, 47, 32]⟩ (by simp))
  · obtain ⟨k, hkk⟩ : ∃ k, (ns.getD n default).kids = [k] := List.length_eq_one_iff.1 h8
    rw [hkk] at hkd
    obtain ⟨rfl, h1, h2⟩ := hkd
    have hfn : ns.length ≤ n + 1 + f := by omega
    have hs4 : sz (n + 1) ≤ 2048 := by have := hsz (n + 1) h1; omega
    have hne : (ns.getD n default).kind ≠ 1 ∧ (ns.getD n default).kind ≠ 2 ∧ (ns.getD n default).kind ≠ 3 ∧ (ns.getD n default).kind ≠ 4 ∧ (ns.getD n default).kind ≠ 5 ∧ (ns.getD n default).kind ≠ 6 ∧ (ns.getD n default).kind ≠ 7 := by omega
    by_cases h11 : 11 ≤ (ns.getD n default).kind
    · have e : bodyT rs (ns.getD n default) (textN rs ns f) = (signB (ns.getD n default).kind).data.toList ++ textN rs ns f ((n + 1 : Nat) : Int) 2 := by
        unfold bodyT; simp only [hne, if_false, if_pos h11, hkk, List.getD_cons_zero]
      have e2 : doesF (ns.getD n default).kind = 47 := by
        unfold doesF; simp only [hne, if_false]; rw [if_pos (by omega)]
      rw [e, e2]
      exact ahead_calls hG n hn hk _ hkk _ (fun l' w' hB' hb' hl' => ih (n + 1) 2 l' w' h1 (by omega) hb' hB' (by omega)) w hb h (by omega)
    · have e : bodyT rs (ns.getD n default) (textN rs ns f) = textN rs ns f ((n + 1 : Nat) : Int) 3 ++ (signB (ns.getD n default).kind).data.toList := by
        unfold bodyT; simp only [hne, if_false, if_neg h11, hkk, List.getD_cons_zero]
      have e2 : doesF (ns.getD n default).kind = 46 := by
        unfold doesF; simp only [hne, if_false]; rw [if_neg (by omega)]
      rw [e, e2]
      have hl5 : 2600 * sz (n + 1) ≤ 5400000 := Nat.le_trans (Nat.mul_le_mul_left 2600 hs4) (by decide)
      have hl3 := Nat.le_trans (htl (n + 1) 3 h1) hl5
      exact behind_calls hG n hn hk _ hkk _ w (ih (n + 1) 3 l w h1 hfn hb h hq) hb h (Nat.le_trans (Nat.add_le_add_right (Nat.add_le_add_left hl3 l.length) 1) hq2)
theorem node_calls {w0 : World} {rs : List Rule} {ns : List Node} {rv nv : Value} {b : Nat} {sz : Nat → Nat} (hG : Gr w0 rs ns rv nv) (hg : Good rs ns sz) : ∀ f, NodeC w0 rs ns rv nv b f
  | 0 => fun n how l w hn hf => by omega
  | f + 1 => fun n how l w hn hf hb h hlen => by
    have ih := node_calls (b := b) hG hg f
    have hk : 1 ≤ (ns.getD n default).kind ∧ (ns.getD n default).kind ≤ 12 := by
      rcases nodeB_cases (hg.tree.node n hn) with ⟨hk, _⟩ | ⟨hk, _⟩ | ⟨hk, _⟩ | ⟨hk, _⟩ | ⟨hk, _⟩ | ⟨hk, _⟩ <;> omega
    have eg := does_enters _ hk
    have e : ((n : Int)).toNat = n := by simp
    have hbl : (bodyT rs (ns.getD n default) (textN rs ns f)).length ≤ 5400000 := by
      have h1 := textN_len hg.tree hg.wide hg.names (f + 1) n 0 hn
      have h2 := (hg.tree.size n hn).2
      have h3 := hg.few
      have : 2600 * sz n ≤ 2600 * 2048 := Nat.mul_le_mul_left _ (by omega)
      simp only [textN, e] at h1
      split at h1
      · simp only [List.length_cons, List.length_append] at h1; omega
      · omega
    by_cases ho : ownK (ns.getD n default).kind < how
    · have et : textN rs ns (f + 1) n how = 40 :: (bodyT rs (ns.getD n default) (textN rs ns f) ++ [41]) := by simp only [textN, e]; rw [if_pos ho]
      rw [et]
      exact node_tight hG n hn hk how _ eg ho (by omega) (fun w' hB' hb' => does_calls hG hg f ih n hn hf _ w' hb' hB' (by simp only [List.length_append, List.length_cons, List.length_nil]; omega)) w hb h
    · have et : textN rs ns (f + 1) n how = bodyT rs (ns.getD n default) (textN rs ns f) := by simp only [textN, e]; rw [if_neg ho]
      rw [et]
      exact node_loose hG n hn hk how _ eg ho (fun w' hB' hb' => does_calls hG hg f ih n hn hf _ w' hb' hB' (by omega)) w hb h
end Go.Proofs.YtljoajjbhjdonaaDoor
