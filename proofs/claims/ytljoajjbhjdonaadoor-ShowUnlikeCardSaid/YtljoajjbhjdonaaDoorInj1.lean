/- The plain law: a node's text hangs on no fuel. -/
import Derived.Test.YtljoajjbhjdonaaDoorLaw2
namespace Go.Proofs.YtljoajjbhjdonaaDoor
open Go.RowKit
set_option maxRecDepth 100000

theorem flat_congr {f g : Int → List UInt8} {ks : List Int} (h : ∀ k ∈ ks, f k = g k) : ks.flatMap f = ks.flatMap g := by
  induction ks with
  | nil => rfl
  | cons k ks ih => simp only [List.flatMap_cons]; rw [h k (by simp), ih (fun k hk => h k (by simp [hk]))]
theorem join_congr {sep : List UInt8} {f g : Int → List UInt8} {ks : List Int} (h : ∀ k ∈ ks, f k = g k) : joinT sep f ks = joinT sep g ks := by
  cases ks with
  | nil => rfl
  | cons k ks =>
    simp only [joinT]
    rw [h k (by simp), flat_congr (fun k hk => by rw [h k (by simp [hk])])]
theorem bodyT_congr {rs : List Rule} {x : Node} {rec rec' : Int → Int → List UInt8} (hb : nodeB x rs.length = true) (h : ∀ k ∈ x.kids, ∀ how, rec k how = rec' k how) : bodyT rs x rec = bodyT rs x rec' := by
  unfold bodyT
  rcases nodeB_cases hb with ⟨hk, _⟩ | ⟨hk, _⟩ | ⟨hk, _⟩ | ⟨hk, _⟩ | ⟨hk, _⟩ | ⟨hk, _, h8⟩
  · rcases hk with hk | hk <;> simp [hk]
  · simp [hk]
  · simp [hk]
  · simp [hk]
  · rw [join_congr (fun k hk => h k hk 2), join_congr (fun k hk => h k hk 1)]
    rcases hk with hk | hk <;> simp [hk]
  · obtain ⟨k, hkk⟩ : ∃ k, x.kids = [k] := List.length_eq_one_iff.1 h8
    have h2 := h k (by simp [hkk]) 2
    have h3 := h k (by simp [hkk]) 3
    have hne : x.kind ≠ 1 ∧ x.kind ≠ 2 ∧ x.kind ≠ 3 ∧ x.kind ≠ 4 ∧ x.kind ≠ 5 ∧ x.kind ≠ 6 ∧ x.kind ≠ 7 := by omega
    simp only [hne, if_false, hkk, List.getD_cons_zero, h2, h3]
theorem textN_fuel {rs : List Rule} {ns : List Node} {sz : Nat → Nat} (hT : Tree rs ns sz) : ∀ (f f2 n : Nat) (how : Int), n < ns.length → ns.length ≤ n + f → ns.length ≤ n + f2 → textN rs ns f n how = textN rs ns f2 n how
  | 0, f2, n, how, hn, hf, _ => by omega
  | f + 1, 0, n, how, hn, _, hf => by omega
  | f + 1, f2 + 1, n, how, hn, hf, hf2 => by
    have e : ((n : Int)).toNat = n := by simp
    have hb : bodyT rs (ns.getD n default) (textN rs ns f) = bodyT rs (ns.getD n default) (textN rs ns f2) := bodyT_congr (hT.node n hn) fun k hk how => by
      obtain ⟨j, rfl, h1, h2⟩ := Kd.mem (hT.kids n hn) k hk
      exact textN_fuel hT f f2 j how h2 (by omega) (by omega)
    simp only [textN, e, hb]
/-- A node's text. -/
def TT (rs : List Rule) (ns : List Node) (n : Int) (how : Int) : List UInt8 := textN rs ns ns.length n how
theorem TT_eq {rs : List Rule} {ns : List Node} {sz : Nat → Nat} (hT : Tree rs ns sz) (n : Nat) (how : Int) (hn : n < ns.length) :
    TT rs ns n how = if ownK (ns.getD n default).kind < how then 40 :: (bodyT rs (ns.getD n default) (TT rs ns) ++ [41]) else bodyT rs (ns.getD n default) (TT rs ns) := by
  have e : ((n : Int)).toNat = n := by simp
  obtain ⟨m, hm⟩ : ∃ m, ns.length = m + 1 := ⟨ns.length - 1, by omega⟩
  have hb : bodyT rs (ns.getD n default) (textN rs ns m) = bodyT rs (ns.getD n default) (TT rs ns) := bodyT_congr (hT.node n hn) fun k hk how => by
    obtain ⟨j, rfl, h1, h2⟩ := Kd.mem (hT.kids n hn) k hk
    exact textN_fuel hT m ns.length j how h2 (by omega) (by omega)
  show textN rs ns ns.length n how = _
  rw [hm]
  simp only [textN, e, hb]
end Go.Proofs.YtljoajjbhjdonaaDoor
