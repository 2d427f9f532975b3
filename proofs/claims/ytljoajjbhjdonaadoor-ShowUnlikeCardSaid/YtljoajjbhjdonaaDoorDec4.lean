/- The plain law: two right grammars with one text are one grammar. -/
import Derived.Test.YtljoajjbhjdonaaDoorDec3
import Derived.Test.YtljoajjbhjdonaaDoorSame
namespace Go.Proofs.YtljoajjbhjdonaaDoor
open Go.RowKit
set_option maxRecDepth 100000

def decG : Nat → List UInt8 → Option (List (List UInt8 × List Lab))
  | 0, _ => none
  | f + 1, s => if s = [] then some [] else match dec f .alt ((s.dropWhile nameC).drop 4) with
    | none => none
    | some (l, r) => match decG f (r.drop 2) with
      | none => none
      | some o => some ((s.takeWhile nameC, l) :: o)
theorem decG_all {rs : List Rule} {ns : List Node} {sz : Nat → Nat} (hT : Tree rs ns sz) (hnm : ∀ r ∈ rs, nameB r.name = true) : ∀ (rest : List Rule), (∀ r ∈ rest, nameB r.name = true ∧ ∃ n : Nat, r.body = (n : Int) ∧ n < ns.length) →
    ∃ F, ∀ f, F ≤ f → decG f (rest.flatMap (ruleT rs ns)) = some (rest.map fun r => (r.name.data.toList, LB rs ns sz r.body.toNat))
  | [], _ => ⟨1, fun f hf => by
    obtain ⟨f, rfl⟩ : ∃ g, f = g + 1 := ⟨f - 1, by omega⟩
    simp [decG]⟩
  | r :: rest, h => by
    obtain ⟨F, hF⟩ := decG_all hT hnm rest (fun r hr => h r (by simp [hr]))
    obtain ⟨hn, n, hb, hnl⟩ := h r (by simp)
    have hall : r.name.data.toList.all nameC = true := by
      have hn2 := hn
      unfold nameB at hn2
      simp only [Bool.and_eq_true] at hn2
      exact hn2.2.1
    obtain ⟨G, hG⟩ := (node_dec hT hnm ns.length n hnl (by omega)).p0 (59 :: 10 :: rest.flatMap (ruleT rs ns)) (.inr ⟨_, .inr rfl⟩)
    refine ⟨max F G + 1, fun f hf => ?_⟩
    obtain ⟨f, rfl⟩ : ∃ g, f = g + 1 := ⟨f - 1, by omega⟩
    have e : (r :: rest).flatMap (ruleT rs ns) = r.name.data.toList ++ (32 :: 60 :: 45 :: 32 :: (TT rs ns n 0 ++ 59 :: 10 :: rest.flatMap (ruleT rs ns))) := by
      rw [List.flatMap_cons]
      unfold ruleT TT
      rw [hb]
      simp
    obtain ⟨e1, e2⟩ := take_name (k := 32 :: 60 :: 45 :: 32 :: (TT rs ns n 0 ++ 59 :: 10 :: rest.flatMap (ruleT rs ns))) hall (fun c m e => by cases e; decide)
    rw [e, decG, if_neg (by simp), e1, e2]
    simp only [List.drop_succ_cons, List.drop_zero]
    rw [hG f (by omega)]
    simp only [List.drop_succ_cons, List.drop_zero]
    rw [hF f (by omega)]
    simp [hb]
theorem rl_labs {rs : List Rule} {ns : List Node} {all : List Rule} {l : List (Nat × Nat)} : ∀ {rest : List Rule} {k next e : Nat}, rl all l rest k next = some e →
    next ≤ e ∧ rest.flatMap (fun r => LB rs ns (szOf l) r.body.toNat) = ((ns.drop next).take (e - next)).map (lab rs)
  | [], k, next, e, h => by simp [rl] at h; subst h; simp
  | r :: rest, k, next, e, h => by
    simp only [rl] at h
    split at h
    · rename_i hc
      obtain ⟨h1, h2⟩ := rl_labs (rs := rs) (ns := ns) h
      refine ⟨by omega, ?_⟩
      rw [List.flatMap_cons, h2, hc.2.2.1, show e - next = szOf l next + (e - (next + szOf l next)) by unfold szOf; omega, List.take_add, List.map_append, List.drop_drop]
      simp [LB, szOf]
    · cases h
theorem rl_uniq {all : List Rule} {l : List (Nat × Nat)} : ∀ {rest : List Rule} {k next e : Nat}, rl all l rest k next = some e → ∀ j, j < rest.length → idxZ (fun x => decide (x.name = (rest.getD j default).name)) all = ((k + j : Nat) : Int)
  | [], _, _, _, _, j, hj => by simp at hj
  | r :: rest, k, next, e, h, j, hj => by
    simp only [rl] at h
    split at h
    · rename_i hc
      cases j with
      | zero => simpa using hc.2.1
      | succ j =>
        have := rl_uniq h j (by simpa using hj)
        simp only [List.getD_cons_succ]
        rw [this]; congr 1; omega
    · cases h
theorem rl_det {all all' : List Rule} {l l' : List (Nat × Nat)} (hl : ∀ j, szOf l j = szOf l' j) : ∀ {rest rest' : List Rule} {k k' next e e' : Nat}, rl all l rest k next = some e → rl all' l' rest' k' next = some e' → rest.map (fun r => r.name) = rest'.map (fun r => r.name) → rest = rest'
  | [], [], _, _, _, _, _, _, _, _ => rfl
  | [], _ :: _, _, _, _, _, _, _, _, h => by simp at h
  | _ :: _, [], _, _, _, _, _, _, _, h => by simp at h
  | r :: rest, r' :: rest', k, k', next, e, e', h, h', hn => by
    simp only [rl] at h h'
    split at h
    · rename_i hc
      split at h'
      · rename_i hc'
        simp only [List.map_cons, List.cons.injEq] at hn
        have e1 : (l.getD next (0, 0)).1 = (l'.getD next (0, 0)).1 := hl next
        rw [← e1] at h'
        rw [rl_det hl h h' hn.2]
        have : r = r' := by
          rw [rule_ext]
          exact ⟨hn.1, hc.2.2.1.trans hc'.2.2.1.symm⟩
        rw [this]
      · cases h'
    · cases h
theorem kd_det {sz sz' : Nat → Nat} {N : Nat} : ∀ {ks ks' : List Int} {s e e' : Nat}, Kd sz N s ks e → Kd sz' N s ks' e' → ks.length = ks'.length → (∀ j, s ≤ j → j < N → sz j = sz' j) → ks = ks' ∧ e = e'
  | [], [], _, _, _, h, h', _, _ => by simp [Kd] at h h'; exact ⟨rfl, by omega⟩
  | [], _ :: _, _, _, _, _, _, h, _ => by simp at h
  | _ :: _, [], _, _, _, _, _, h, _ => by simp at h
  | k :: ks, k' :: ks', s, e, e', ⟨h1, h2, h3⟩, ⟨h1', h2', h3'⟩, hl, hs => by
    rw [← hs s (Nat.le_refl _) h2] at h3'
    obtain ⟨e1, e2⟩ := kd_det h3 h3' (by simpa using hl) (fun j hj => hs j (by omega))
    exact ⟨by rw [h1, h1', e1], e2⟩
theorem bytes_nil {s : ByteArray} (h : s.size = 0) : s = ⟨#[]⟩ := by
  apply ByteArray.ext
  exact Array.eq_empty_of_size_eq_zero h
/-- What a right node's things are. -/
theorem node_fields {x : Node} {rs : Int} (h : nodeB x rs = true) : (x.kind ≠ 3 → x.c0 = 0 ∧ x.c1 = 0 ∧ x.c2 = 0 ∧ x.c3 = 0) ∧ (x.kind ≠ 4 → x.text = ⟨#[]⟩) ∧ (x.kind ≠ 5 → x.rule = 0 ∧ x.level = 0) ∧ (x.kind = 5 → 0 ≤ x.rule ∧ x.rule < rs ∧ 0 ≤ x.level ∧ x.level ≤ 99) := by
  have hb := nodeB_cases h
  unfold plainB at hb
  simp only [decide_eq_true_eq] at hb
  rcases hb with ⟨hk, hp, _⟩ | ⟨hk, _, hp, _⟩ | ⟨hk, _, hp, _⟩ | ⟨hk, h5, hp, _⟩ | ⟨hk, hp, _⟩ | ⟨hk, hp, _⟩
  · exact ⟨fun _ => ⟨hp.1, hp.2.1, hp.2.2.1, hp.2.2.2.1⟩, fun _ => bytes_nil hp.2.2.2.2.1, fun _ => hp.2.2.2.2.2, fun e => by omega⟩
  · exact ⟨fun e => absurd hk e, fun _ => bytes_nil hp.2.2.2.2.1, fun _ => hp.2.2.2.2.2, fun e => by omega⟩
  · exact ⟨fun _ => ⟨hp.1, hp.2.1, hp.2.2.1, hp.2.2.2.1⟩, fun e => absurd hk e, fun _ => hp.2.2.2.2.2, fun e => by omega⟩
  · exact ⟨fun _ => ⟨hp.1, hp.2.1, hp.2.2.1, hp.2.2.2.1⟩, fun _ => bytes_nil hp.2.2.2.2.1, fun e => absurd hk e, fun _ => h5⟩
  · exact ⟨fun _ => ⟨hp.1, hp.2.1, hp.2.2.1, hp.2.2.2.1⟩, fun _ => bytes_nil hp.2.2.2.2.1, fun _ => hp.2.2.2.2.2, fun e => by omega⟩
  · exact ⟨fun _ => ⟨hp.1, hp.2.1, hp.2.2.1, hp.2.2.2.1⟩, fun _ => bytes_nil hp.2.2.2.2.1, fun _ => hp.2.2.2.2.2, fun e => by omega⟩
theorem bytes_ext {a b : ByteArray} (h : a.data.toList = b.data.toList) : a = b := ByteArray.ext (Array.toList_inj.1 h)
theorem lab_inj {rs rs' : List Rule} {x y : Node} (hx : nodeB x rs.length = true) (hy : nodeB y rs'.length = true) (hwx : Wd x) (hwy : Wd y) (hk : x.kids = y.kids) (he : lab rs x = lab rs' y)
    (hr : x.kind = 5 → (rs.getD x.rule.toNat default).name = (rs'.getD y.rule.toNat default).name → x.rule = y.rule) : x = y := by
  obtain ⟨a1, a2, a3, a4⟩ := node_fields hx
  obtain ⟨b1, b2, b3, b4⟩ := node_fields hy
  unfold lab at he
  simp only [Lab.mk.injEq] at he
  obtain ⟨ek, et, el, _⟩ := he
  have hc : x.c0 = y.c0 ∧ x.c1 = y.c1 ∧ x.c2 = y.c2 ∧ x.c3 = y.c3 := by
    by_cases h3 : x.kind = 3
    · rw [if_pos h3, if_pos (ek ▸ h3)] at et
      have h := preB_inj (clsW_lt hwx) (clsW_lt hwy) et
      have h0 := h 0 (by decide)
      have h1 := h 1 (by decide)
      have h2 := h 2 (by decide)
      have h3 := h 3 (by decide)
      obtain ⟨⟨p0, _⟩, ⟨p1, _⟩, ⟨p2, _⟩, p3, _⟩ := hwx
      obtain ⟨⟨q0, _⟩, ⟨q1, _⟩, ⟨q2, _⟩, q3, _⟩ := hwy
      simp [clsW] at h0 h1 h2 h3
      omega
    · obtain ⟨e0, e1, e2, e3⟩ := a1 h3
      obtain ⟨f0, f1, f2, f3⟩ := b1 (ek ▸ h3)
      omega
  have ht : x.text = y.text := by
    by_cases h4 : x.kind = 4
    · have h4' : y.kind = 4 := ek ▸ h4
      rw [if_neg (show ¬ x.kind = 3 by omega), if_neg (show ¬ y.kind = 3 by omega), if_pos h4, if_pos h4'] at et
      exact bytes_ext et
    · rw [a2 h4, b2 (ek ▸ h4)]
  have hrl : x.rule = y.rule ∧ x.level = y.level := by
    by_cases h5 : x.kind = 5
    · have h5' : y.kind = 5 := ek ▸ h5
      rw [if_neg (show ¬ x.kind = 3 by omega), if_neg (show ¬ y.kind = 3 by omega), if_neg (show ¬ x.kind = 4 by omega), if_neg (show ¬ y.kind = 4 by omega), if_pos h5, if_pos h5'] at et
      rw [if_pos h5, if_pos h5'] at el
      exact ⟨hr h5 (bytes_ext et), lev_inj (a4 h5).2.2 (b4 h5').2.2 el⟩
    · obtain ⟨e0, e1⟩ := a3 h5
      obtain ⟨f0, f1⟩ := b3 (ek ▸ h5)
      omega
  cases x
  cases y
  simp only at ek hc ht hrl hk
  obtain ⟨rfl, rfl, rfl, rfl⟩ := hc
  obtain ⟨rfl, rfl⟩ := hrl
  rw [ek, ht, hk]
/-- THE PLAIN LAW: two right grammars with one text are one grammar. -/
theorem text_inj {rs rs' : List Rule} {ns ns' : List Node} (h : rightB rs ns = true) (h' : rightB rs' ns' = true) (hw : ∀ x ∈ ns, Wd x) (hw' : ∀ x ∈ ns', Wd x) (he : textG rs ns = textG rs' ns') : rs = rs' ∧ ns = ns' := by
  obtain ⟨l, hl⟩ := Option.isSome_iff_exists.1 h
  obtain ⟨l', hl'⟩ := Option.isSome_iff_exists.1 h'
  obtain ⟨hT, hrl, hll, _⟩ := tree_of hl
  obtain ⟨hT', hrl', hll', _⟩ := tree_of hl'
  have hm := rl_mem hrl
  have hm' := rl_mem hrl'
  rw [hll] at hm
  rw [hll'] at hm'
  obtain ⟨F, hF⟩ := decG_all hT (fun r hr => (hm r hr).1) rs hm
  obtain ⟨G, hG⟩ := decG_all hT' (fun r hr => (hm' r hr).1) rs' hm'
  have h1 := hF (max F G) (by omega)
  have h2 := hG (max F G) (by omega)
  have he2 : rs.flatMap (ruleT rs ns) = rs'.flatMap (ruleT rs' ns') := he
  rw [he2, h2] at h1
  have h3 := Option.some.inj h1
  have hnames : rs.map (fun r => r.name) = rs'.map (fun r => r.name) := by
    have h4 := congrArg (List.map (fun p : List UInt8 × List Lab => (⟨p.1.toArray⟩ : ByteArray))) h3
    simp only [List.map_map] at h4
    exact h4.symm
  have hlabs : ns.map (lab rs) = ns'.map (lab rs') := by
    have h4 := congrArg (fun q => (q.map (fun p : List UInt8 × List Lab => p.2)).flatten) h3
    simp only [List.map_map] at h4
    have e1 := (rl_labs (rs := rs) (ns := ns) hrl).2
    have e2 := (rl_labs (rs := rs') (ns := ns') hrl').2
    simp only [List.drop_zero, Nat.sub_zero, List.take_length] at e1 e2
    rw [← e1, ← e2, List.flatMap_def, List.flatMap_def]
    exact h4.symm
  have hN : ns.length = ns'.length := by simpa using congrArg List.length hlabs
  have hR : rs.length = rs'.length := by simpa using congrArg List.length hnames
  have hat : ∀ i, i < ns.length → lab rs (ns.getD i default) = lab rs' (ns'.getD i default) := fun i hi => by
    have h5 := congrArg (fun q => q[i]?) hlabs
    simp only [List.getElem?_map, List.getElem?_eq_getElem hi, List.getElem?_eq_getElem (hN ▸ hi), Option.map_some, Option.some.injEq] at h5
    rw [List.getD_eq_getElem?_getD, List.getElem?_eq_getElem hi, List.getD_eq_getElem?_getD, List.getElem?_eq_getElem (hN ▸ hi)]
    exact h5
  have hsz : ∀ m n, n ≤ ns.length → ns.length ≤ n + m → ∀ j, n ≤ j → j < ns.length → szOf l j = szOf l' j := by
    intro m
    induction m with
    | zero => intro n _ _ j _ _; omega
    | succ m ih =>
      intro n hn hm j hj hjl
      by_cases hjn : j = n
      · subst hjn
        have k1 := hT.kids j hjl
        have k2 := hT'.kids j (hN ▸ hjl)
        rw [← hN] at k2
        have := (kd_det k1 k2 (congrArg Lab.ar (hat j hjl)) (fun i h1 h2 => ih (j + 1) (by omega) (by omega) i h1 h2)).2
        omega
      · exact ih (n + 1) (by omega) (by omega) j (by omega) hjl
  have hkids : ∀ i, i < ns.length → (ns.getD i default).kids = (ns'.getD i default).kids := fun i hi => by
    have k1 := hT.kids i hi
    have k2 := hT'.kids i (hN ▸ hi)
    rw [← hN] at k2
    exact (kd_det k1 k2 (congrArg Lab.ar (hat i hi)) (fun j _ h2 => hsz ns.length 0 (by omega) (by omega) j (by omega) h2)).1
  have hszall : ∀ j, szOf l j = szOf l' j := fun j => by
    by_cases hj : j < ns.length
    · exact hsz ns.length 0 (by omega) (by omega) j (by omega) hj
    · unfold szOf
      rw [List.getD_eq_getElem?_getD, List.getElem?_eq_none (by omega), List.getD_eq_getElem?_getD, List.getElem?_eq_none (by omega)]
  have hrs : rs = rs' := rl_det hszall hrl hrl' hnames
  refine ⟨hrs, list_getD_ext hN fun i hi => ?_⟩
  have hmem : ns.getD i default ∈ ns := by rw [List.getD_eq_getElem?_getD, List.getElem?_eq_getElem hi]; exact List.getElem_mem _
  have hmem' : ns'.getD i default ∈ ns' := by rw [List.getD_eq_getElem?_getD, List.getElem?_eq_getElem (hN ▸ hi)]; exact List.getElem_mem _
  have b1 := hT.node i hi
  have b2 := hT'.node i (hN ▸ hi)
  refine lab_inj b1 b2 (hw _ hmem) (hw' _ hmem') (hkids i hi) (hat i hi) fun h5 hname => ?_
  have h5' : (ns'.getD i default).kind = 5 := (show (ns.getD i default).kind = (ns'.getD i default).kind from congrArg Lab.kind (hat i hi)) ▸ h5
  have c1 := (node_fields b1).2.2.2 h5
  have c2 := (node_fields b2).2.2.2 h5'
  have u1 := rl_uniq hrl (ns.getD i default).rule.toNat (by omega)
  have u2 := rl_uniq hrl (ns'.getD i default).rule.toNat (by omega)
  rw [hrs] at hname
  rw [hrs, hname] at u1
  rw [hrs, u1] at u2
  omega
end Go.Proofs.YtljoajjbhjdonaaDoor
