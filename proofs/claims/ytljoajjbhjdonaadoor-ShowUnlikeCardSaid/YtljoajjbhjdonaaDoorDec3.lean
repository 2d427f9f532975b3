/- The plain law: a right node's text is decoded to what its nodes are. -/
import Derived.Test.YtljoajjbhjdonaaDoorDec2
namespace Go.Proofs.YtljoajjbhjdonaaDoor
open Go.RowKit
set_option maxRecDepth 100000

def lab (rs : List Rule) (x : Node) : Lab := ⟨x.kind, if x.kind = 3 then preB (clsW x) 4 else if x.kind = 4 then x.text.data.toList else if x.kind = 5 then (rs.getD x.rule.toNat default).name.data.toList else [], if x.kind = 5 then levT x else [], x.kids.length⟩
def LB (rs : List Rule) (ns : List Node) (sz : Nat → Nat) (n : Nat) : List Lab := ((ns.drop n).take (sz n)).map (lab rs)
theorem Kd.le {sz : Nat → Nat} {N : Nat} : ∀ {ks : List Int} {s e : Nat}, Kd sz N s ks e → s ≤ e
  | [], _, _, h => by simp [Kd] at h; omega
  | k :: ks, s, e, ⟨_, _, h3⟩ => by have := Kd.le h3; omega
theorem LB_kids {rs : List Rule} {ns : List Node} {sz : Nat → Nat} : ∀ {ks : List Int} {s e : Nat}, Kd sz ns.length s ks e → (ks.flatMap fun k => LB rs ns sz k.toNat) = ((ns.drop s).take (e - s)).map (lab rs)
  | [], s, e, h => by simp [Kd] at h; subst h; simp
  | k :: ks, s, e, ⟨h1, h2, h3⟩ => by
    subst h1
    have hle := Kd.le h3
    rw [List.flatMap_cons, LB_kids h3, show e - s = sz s + (e - (s + sz s)) by omega, List.take_add, List.map_append, List.drop_drop]
    simp [LB]
theorem LB_node {rs : List Rule} {ns : List Node} {sz : Nat → Nat} (hT : Tree rs ns sz) (n : Nat) (hn : n < ns.length) : LB rs ns sz n = lab rs (ns.getD n default) :: ((ns.getD n default).kids.flatMap fun k => LB rs ns sz k.toNat) := by
  rw [LB_kids (hT.kids n hn)]
  have h1 := (hT.size n hn).1
  unfold LB
  obtain ⟨m, hm⟩ : ∃ m, sz n = m + 1 := ⟨sz n - 1, by omega⟩
  rw [hm, show n + (m + 1) - (n + 1) = m by omega, List.drop_eq_getElem_cons hn, List.take_succ_cons, List.map_cons, List.getD_eq_getElem?_getD, List.getElem?_eq_getElem hn]
  rfl
/-! ### what may follow -/
def F0 (k : List UInt8) : Prop := k = [] ∨ ∃ l, k = 41 :: l ∨ k = 59 :: l
def F1 (k : List UInt8) : Prop := F0 k ∨ ∃ l, k = 32 :: 47 :: l
def F2 (k : List UInt8) : Prop := F0 k ∨ ∃ l, k = 32 :: l
def F3 (k : List UInt8) : Prop := F2 k ∨ ∃ l, k = 42 :: l ∨ k = 43 :: l ∨ k = 63 :: l
theorem F0.to1 {k} (h : F0 k) : F1 k := .inl h
theorem F1.to2 {k} (h : F1 k) : F2 k := h.imp id fun ⟨_, e⟩ => ⟨_, e⟩
theorem F2.to3 {k} (h : F2 k) : F3 k := .inl h
theorem F3.stop {k} (h : F3 k) : StopN k := by
  rcases h with ((rfl | ⟨l, rfl | rfl⟩) | ⟨l, rfl⟩) | ⟨l, rfl | rfl | rfl⟩ <;> intro c m e <;> cases e <;> decide
theorem F2.post {k} (h : F2 k) (l : List Lab) : post l k = (l, k) := by
  rcases h with (rfl | ⟨l, rfl | rfl⟩) | ⟨l, rfl⟩ <;> simp [Go.Proofs.YtljoajjbhjdonaaDoor.post]
theorem F1.seqs {k} (h : F1 k) : ¬ (k.head? = some 32 ∧ (k.drop 1).head? ≠ some 47) := by
  rcases h with (rfl | ⟨l, rfl | rfl⟩) | ⟨l, rfl⟩ <;> simp
theorem F0.alts {k} (h : F0 k) : k.take 3 ≠ [32, 47, 32] := by
  rcases h with rfl | ⟨l, rfl | rfl⟩ <;> simp
/-! ### what a text is decoded to, in a place so tight -/
def P3 (b : List UInt8) (L : List Lab) : Prop := ∀ k, F3 k → (∃ l r, Ev .prim (b ++ k) (l, r) ∧ post l r = post L k) ∧ (b ++ k).head? ≠ some 33 ∧ (b ++ k).head? ≠ some 38
def P2 (b : List UInt8) (L : List Lab) : Prop := ∀ k, F2 k → Ev .item (b ++ k) (L, k)
def P1 (b : List UInt8) (L : List Lab) : Prop := ∀ k, F1 k → Ev .seq (b ++ k) (L, k)
def P0 (b : List UInt8) (L : List Lab) : Prop := ∀ k, F0 k → Ev .alt (b ++ k) (L, k)
theorem P3.to2 {b L} (h : P3 b L) : P2 b L := fun k hk => by
  obtain ⟨⟨l, r, h1, h2⟩, h3, h4⟩ := h k hk.to3
  have := Ev.item h3 h4 h1
  rwa [h2, hk.post] at this
theorem P2.to1 {b L} (h : P2 b L) : P1 b L := fun k hk => Ev.seq (h k hk.to2) (Ev.seqs_end hk.seqs)
theorem P1.to0 {b L} (h : P1 b L) : P0 b L := fun k hk => Ev.alt (h k hk.to1) (Ev.alts_end hk.alts)
theorem P0.paren {b L} (h : P0 b L) (hs : ∃ c l, b = c :: l ∧ startB c = true) : P3 (40 :: (b ++ [41])) L := fun k hk => by
  have h1 := h (41 :: k) (.inr ⟨k, .inl rfl⟩)
  obtain ⟨c, l, e, hc⟩ := hs
  have e2 : 40 :: (b ++ [41]) ++ k = 40 :: (b ++ 41 :: k) := by simp
  rw [e2]
  refine ⟨⟨L, k, Ev.paren ?_ h1, rfl⟩, by simp, by simp⟩
  rw [e, List.cons_append, List.head?_cons]
  intro e3
  rw [Option.some.inj e3] at hc
  exact absurd hc (by decide)
def Bare (own : Int) (b : List UInt8) (L : List Lab) : Prop := (own = 0 ∧ P0 b L) ∨ (own = 1 ∧ P1 b L) ∨ (own = 2 ∧ P2 b L) ∨ (own = 3 ∧ P3 b L)
theorem Bare.to0 {own b L} (h : Bare own b L) : P0 b L := by
  rcases h with ⟨_, h⟩ | ⟨_, h⟩ | ⟨_, h⟩ | ⟨_, h⟩
  · exact h
  · exact h.to0
  · exact h.to1.to0
  · exact h.to2.to1.to0
/-- What is decoded of a node in each place. -/
structure Dec (T : Int → List UInt8) (L : List Lab) : Prop where
  p0 : P0 (T 0) L
  p1 : P1 (T 1) L
  p2 : P2 (T 2) L
  p3 : P3 (T 3) L
theorem Bare.dec {own : Int} {b : List UInt8} {L : List Lab} (h : Bare own b L) (hs : ∃ c l, b = c :: l ∧ startB c = true) : Dec (fun how => if own < how then 40 :: (b ++ [41]) else b) L := by
  have hp := h.to0.paren hs
  rcases h with ⟨rfl, h⟩ | ⟨rfl, h⟩ | ⟨rfl, h⟩ | ⟨rfl, h⟩
  · exact ⟨h, hp.to2.to1, hp.to2, hp⟩
  · exact ⟨h.to0, h, hp.to2, hp⟩
  · exact ⟨h.to1.to0, h.to1, h, hp⟩
  · exact ⟨h.to2.to1.to0, h.to2.to1, h.to2, h⟩
/-! ### rows of kids -/
section
variable {sz : Nat → Nat} {N : Nat} {T : Int → Int → List UInt8} {L : Nat → List Lab}
theorem seqs_all {k : List UInt8} (hk : F1 k) : ∀ {ks : List Int} {s e : Nat} (c : Nat) (acc : List Lab), Kd sz N s ks e → (∀ j : Nat, s ≤ j → j < N → Dec (T j) (L j) ∧ ∃ c l, T j 2 = c :: l ∧ startB c = true) →
    Ev (.seqs c acc) (ks.flatMap (fun k => [32] ++ T k 2) ++ k) (grp 6 (c + ks.length) (acc ++ ks.flatMap fun k => L k.toNat), k)
  | [], s, e, c, acc, _, _ => by simpa using Ev.seqs_end (c := c) (acc := acc) hk.seqs
  | j :: ks, s, e, c, acc, ⟨h1, h2, h3⟩, h => by
    subst h1
    have ih := seqs_all hk (c + 1) (acc ++ L s) h3 (fun j hj hN => h j (by omega) hN)
    obtain ⟨hd, d, l, e1, e2⟩ := h s (Nat.le_refl _) h2
    have hF : F2 (ks.flatMap (fun k => [32] ++ T k 2) ++ k) := by
      cases ks with
      | nil => simpa using hk.to2
      | cons k ks => exact .inr ⟨_, rfl⟩
    have h5 := Ev.seqs_more (c := c) (acc := acc) (s := T s 2 ++ (ks.flatMap (fun k => [32] ++ T k 2) ++ k)) (by
      rw [e1, List.cons_append, List.head?_cons]
      intro e3
      rw [Option.some.inj e3] at e2
      exact absurd e2 (by decide)) (hd.p2 _ hF) ih
    simpa [Nat.add_assoc, Nat.add_comm 1] using h5
theorem alts_all {k : List UInt8} (hk : F0 k) : ∀ {ks : List Int} {s e : Nat} (c : Nat) (acc : List Lab), Kd sz N s ks e → (∀ j : Nat, s ≤ j → j < N → Dec (T j) (L j)) →
    Ev (.alts c acc) (ks.flatMap (fun k => [32, 47, 32] ++ T k 1) ++ k) (grp 7 (c + ks.length) (acc ++ ks.flatMap fun k => L k.toNat), k)
  | [], s, e, c, acc, _, _ => by simpa using Ev.alts_end (c := c) (acc := acc) hk.alts
  | j :: ks, s, e, c, acc, ⟨h1, h2, h3⟩, h => by
    subst h1
    have ih := alts_all hk (c + 1) (acc ++ L s) h3 (fun j hj hN => h j (by omega) hN)
    have hd := h s (Nat.le_refl _) h2
    have hF : F1 (ks.flatMap (fun k => [32, 47, 32] ++ T k 1) ++ k) := by
      cases ks with
      | nil => simpa using hk.to1
      | cons k ks => exact .inr ⟨_, rfl⟩
    have h5 := Ev.alts_more (c := c) (acc := acc) (s := T s 1 ++ (ks.flatMap (fun k => [32, 47, 32] ++ T k 1) ++ k)) (hd.p1 _ hF) ih
    simpa [Nat.add_assoc, Nat.add_comm 1] using h5
theorem seq_all {k : List UInt8} (hk : F1 k) {ks : List Int} {s e : Nat} (hn : 2 ≤ ks.length) (hd : Kd sz N s ks e) (h : ∀ j : Nat, s ≤ j → j < N → Dec (T j) (L j) ∧ ∃ c l, T j 2 = c :: l ∧ startB c = true) :
    Ev .seq (joinT [32] (fun k => T k 2) ks ++ k) (⟨6, [], [], ks.length⟩ :: ks.flatMap fun k => L k.toNat, k) := by
  cases ks with
  | nil => simp at hn
  | cons j ks =>
    obtain ⟨rfl, h2, h3⟩ := hd
    obtain ⟨hd, _⟩ := h s (Nat.le_refl _) h2
    have hF : F2 (ks.flatMap (fun k => [32] ++ T k 2) ++ k) := by
      cases ks with
      | nil => simpa using hk.to2
      | cons k ks => exact .inr ⟨_, rfl⟩
    have h5 := Ev.seq (hd.p2 _ hF) (seqs_all hk 1 (L s) h3 (fun j hj hN => h j (by omega) hN))
    have e : grp 6 (1 + ks.length) (L s ++ ks.flatMap fun k => L k.toNat) = ⟨6, [], [], ks.length + 1⟩ :: (L s ++ ks.flatMap fun k => L k.toNat) := by
      unfold grp
      rw [if_neg (by simp at hn; omega), Nat.add_comm]
    rw [e] at h5
    simpa [joinT] using h5
theorem alt_all {k : List UInt8} (hk : F0 k) {ks : List Int} {s e : Nat} (hn : 2 ≤ ks.length) (hd : Kd sz N s ks e) (h : ∀ j : Nat, s ≤ j → j < N → Dec (T j) (L j)) :
    Ev .alt (joinT [32, 47, 32] (fun k => T k 1) ks ++ k) (⟨7, [], [], ks.length⟩ :: ks.flatMap fun k => L k.toNat, k) := by
  cases ks with
  | nil => simp at hn
  | cons j ks =>
    obtain ⟨rfl, h2, h3⟩ := hd
    have hd := h s (Nat.le_refl _) h2
    have hF : F1 (ks.flatMap (fun k => [32, 47, 32] ++ T k 1) ++ k) := by
      cases ks with
      | nil => simpa using hk.to1
      | cons k ks => exact .inr ⟨_, rfl⟩
    have h5 := Ev.alt (hd.p1 _ hF) (alts_all hk 1 (L s) h3 (fun j hj hN => h j (by omega) hN))
    have e : grp 7 (1 + ks.length) (L s ++ ks.flatMap fun k => L k.toNat) = ⟨7, [], [], ks.length + 1⟩ :: (L s ++ ks.flatMap fun k => L k.toNat) := by
      unfold grp
      rw [if_neg (by simp at hn; omega), Nat.add_comm]
    rw [e] at h5
    simpa [joinT] using h5
end
theorem startB_letter {c : UInt8} (h : letterZ (c.toNat : Int) = true) : c ≠ 33 ∧ c ≠ 38 := by
  constructor <;> (rintro rfl; exact absurd h (by decide))
/-- THE LAW: a right node's text is decoded to what its nodes are. -/
theorem node_dec {rs : List Rule} {ns : List Node} {sz : Nat → Nat} (hT : Tree rs ns sz) (hnm : ∀ r ∈ rs, nameB r.name = true) : ∀ (m n : Nat), n < ns.length → ns.length ≤ n + m → Dec (TT rs ns n) (LB rs ns sz n)
  | 0, n, hn, hm => by omega
  | m + 1, n, hn, hm => by
    have ih := fun (j : Nat) (h1 : n + 1 ≤ j) (h2 : j < ns.length) => node_dec hT hnm m j h2 (by omega)
    have hst := fun (j : Nat) (how : Int) (h2 : j < ns.length) => TT_start hT hnm ns.length j how h2 (by omega)
    have hT0 := hst n 0 hn
    have hL := LB_node hT n hn
    have hfun : TT rs ns n = fun how => if ownK (ns.getD n default).kind < how then 40 :: (bodyT rs (ns.getD n default) (TT rs ns) ++ [41]) else bodyT rs (ns.getD n default) (TT rs ns) := funext fun how => TT_eq hT n how hn
    have hkd := hT.kids n hn
    have hb := nodeB_cases (hT.node n hn)
    have hown : ¬ ownK (ns.getD n default).kind < 0 := by unfold ownK; repeat' split <;> omega
    rw [hfun] at hT0 ⊢
    simp only [if_neg hown] at hT0
    rw [hL]
    clear hfun hL
    generalize ns.getD n default = x at *
    refine Bare.dec ?_ hT0
    clear hT0 hown
    unfold bodyT
    rcases hb with ⟨hk, _, h8⟩ | ⟨hk, _, _, h8⟩ | ⟨hk, _, _, h8⟩ | ⟨hk, h6, _, h8⟩ | ⟨hk, _, h6⟩ | ⟨hk, _, h8⟩
    · have h0 : x.kids = [] := List.eq_nil_of_length_eq_zero h8
      rcases hk with hk | hk
      · refine .inr (.inr (.inr ⟨by simp [ownK, hk], fun k hk3 => ⟨⟨_, _, ?_, rfl⟩, ?_⟩⟩))
        · simp only [hk, h0, lab, List.flatMap_nil, if_true]; exact Ev.empty
        · simp [hk]
      · refine .inr (.inr (.inr ⟨by simp [ownK, hk], fun k hk3 => ⟨⟨_, _, ?_, rfl⟩, ?_⟩⟩))
        · simp only [hk, h0, lab, List.flatMap_nil]; exact Ev.any
        · simp [hk]
    · have h0 : x.kids = [] := List.eq_nil_of_length_eq_zero h8
      refine .inr (.inr (.inr ⟨by simp [ownK, hk], fun k hk3 => ⟨⟨_, _, ?_, rfl⟩, ?_⟩⟩))
      · simp only [hk, h0, lab, List.flatMap_nil]; exact Ev.set
      · simp [hk, setT]
    · have h0 : x.kids = [] := List.eq_nil_of_length_eq_zero h8
      refine .inr (.inr (.inr ⟨by simp [ownK, hk], fun k hk3 => ⟨⟨_, _, ?_, rfl⟩, ?_⟩⟩))
      · simp only [hk, h0, lab, List.flatMap_nil]; exact Ev.text
      · simp [hk, textT]
    · have h0 : x.kids = [] := List.eq_nil_of_length_eq_zero h8
      have hmem : rs.getD x.rule.toNat default ∈ rs := by
        rw [List.getD_eq_getElem?_getD, List.getElem?_eq_getElem (by omega)]; exact List.getElem_mem _
      obtain ⟨c, l, e, hc⟩ := name_start (hnm _ hmem)
      have hu := fun k hk3 => unCall_call (rs := rs) (x := x) (k := k) (hnm _ hmem) h6.2.2 (F3.stop hk3)
      have hcl : ∃ m, callT rs x = c :: m := ⟨_, by unfold callT; rw [e]; rfl⟩
      obtain ⟨m, hcl⟩ := hcl
      refine .inr (.inr (.inr ⟨by simp [ownK, hk], fun k hk3 => ⟨⟨_, _, ?_, rfl⟩, ?_⟩⟩))
      · have h7 := Ev.call (s := callT rs x ++ k) (fun d l e => by rw [hcl] at e; cases e; exact hc)
        rw [hu k hk3] at h7
        simp only [hk, h0, lab, List.flatMap_nil]
        exact h7
      · have h7 := startB_letter hc
        simp [hk, hcl, h7]
    · rcases hk with hk | hk
      · refine .inr (.inl ⟨by simp [ownK, hk], fun k hk1 => ?_⟩)
        have h7 := seq_all (T := TT rs ns) (L := LB rs ns sz) hk1 h6.1 hkd (fun j hj hN => ⟨ih j hj hN, hst j 2 hN⟩)
        simp only [hk, lab]
        exact h7
      · refine .inl ⟨by simp [ownK, hk], fun k hk1 => ?_⟩
        have h7 := alt_all (T := TT rs ns) (L := LB rs ns sz) hk1 h6.1 hkd (fun j hj hN => ih j hj hN)
        simp only [hk, lab]
        exact h7
    · obtain ⟨j, hkk⟩ : ∃ j, x.kids = [j] := List.length_eq_one_iff.1 h8
      rw [hkk] at hkd
      obtain ⟨rfl, h1, _⟩ := hkd
      have hd := ih (n + 1) (Nat.le_refl _) h1
      have hne : x.kind ≠ 1 ∧ x.kind ≠ 2 ∧ x.kind ≠ 3 ∧ x.kind ≠ 4 ∧ x.kind ≠ 5 ∧ x.kind ≠ 6 ∧ x.kind ≠ 7 := by omega
      have hlab : lab rs x = ⟨x.kind, [], [], 1⟩ := by simp [lab, hne, hkk]
      simp only [hne, if_false, hkk, List.getD_cons_zero, hlab, List.flatMap_cons, List.flatMap_nil, List.append_nil, Int.toNat_natCast]
      by_cases h11 : 11 ≤ x.kind
      · have : x.kind = 11 ∨ x.kind = 12 := by omega
        rw [if_pos h11]
        refine .inr (.inr (.inl ⟨?_, fun k hk2 => ?_⟩))
        · rcases this with e | e <;> simp [ownK, e]
        · have h5 := hd.p2 k hk2
          rcases this with e | e
          · rw [e]; exact Ev.not h5
          · rw [e]; exact Ev.and h5
      · rw [if_neg h11]
        have : x.kind = 8 ∨ x.kind = 9 ∨ x.kind = 10 := by omega
        refine .inr (.inr (.inr ⟨?_, fun k hk3 => ?_⟩))
        · rcases this with e | e | e <;> simp [ownK, e]
        · rcases this with e | e | e
          · have h5 := hd.p3 (42 :: k) (.inr ⟨k, .inl rfl⟩)
            have es : (signB x.kind).data.toList = [42] := by rw [e]; rfl
            rw [es, e, List.append_assoc]
            exact h5
          · have h5 := hd.p3 (43 :: k) (.inr ⟨k, .inr (.inl rfl)⟩)
            have es : (signB x.kind).data.toList = [43] := by rw [e]; rfl
            rw [es, e, List.append_assoc]
            exact h5
          · have h5 := hd.p3 (63 :: k) (.inr ⟨k, .inr (.inr rfl)⟩)
            have es : (signB x.kind).data.toList = [63] := by rw [e]; rfl
            rw [es, e, List.append_assoc]
            exact h5
end Go.Proofs.YtljoajjbhjdonaaDoor
