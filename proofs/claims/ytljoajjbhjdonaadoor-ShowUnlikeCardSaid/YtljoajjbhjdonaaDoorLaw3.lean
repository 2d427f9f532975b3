/- ShowUnlike: what Text and Rule answer of any grammar. Conditions: the grammar lies in memory, its sizes are within the form's reach, the deBruijn table is there. -/
import Derived.Test.YtljoajjbhjdonaaDoorLaw2
import Derived.Test.YtljoajjbhjdonaaDoorDec4
namespace Go.Proofs.YtljoajjbhjdonaaDoor
open Go.RowKit
set_option maxRecDepth 100000

def tS (rs : List Rule) (ns : List Node) : ByteArray := if rightB rs ns = true then (if (textG rs ns).length ≤ 16384 then ⟨(textG rs ns).toArray⟩ else ⟨#[]⟩) else ⟨#[]⟩
def tE (rs : List Rule) (ns : List Node) : Int := if rightB rs ns = true then (if (textG rs ns).length ≤ 16384 then 0 else 3) else 4
theorem Text_any (rs : List Rule) (ns : List Node) (rv nv : Value) (w : World) (hr : RulesAt w rv rs) (hn : NodesAt w nv ns) (hf : Fine rs ns) (hw : ∀ x ∈ ns, Wd x) (hT : TabAt 0 Lib.deBruijn64tab w) :
    Calls Tryd.prog 6 #[.agg #[rv, nv]] w fun e w' => e = .returned (.tuple #[.string (tS rs ns), .int .i64 (tE rs ns)]) ∧ Below w.heap.size w w' := by
  by_cases hR : rightB rs ns = true
  · obtain ⟨l, hl⟩ : ∃ l, wholeL rs ns = some l := Option.isSome_iff_exists.1 hR
    obtain ⟨hg, h1, h32⟩ := right_of hl hw
    have h := Text_right rs ns rv nv _ w hr hn hf hR hT hg h1 h32
    have e : textR rs ns = .tuple #[.string (tS rs ns), .int .i64 (tE rs ns)] := by
      unfold textR tS tE
      rw [if_pos hR, if_pos hR]
      split <;> rfl
    rwa [e] at h
  · have hR2 : rightB rs ns = false := by simpa using hR
    have h := Text_wrong rs ns rv nv w hr hn hf hR2
    have e : tS rs ns = ⟨#[]⟩ := if_neg hR
    have e2 : tE rs ns = 4 := if_neg hR
    rw [e, e2]
    exact h
/-- Texts are alike just where the grammars are. -/
theorem text_same {rs rs' : List Rule} {ns ns' : List Node} (hw : ∀ x ∈ ns, Wd x) (hw' : ∀ x ∈ ns', Wd x) (h : tE rs ns = 0) (h' : tE rs' ns' = 0) : eqB (tS rs ns) (tS rs' ns') = (eqB rs rs' && eqB ns ns') := by
  unfold tE at h h'
  split at h
  · rename_i hR
    split at h
    · rename_i hL
      split at h'
      · rename_i hR'
        split at h'
        · rename_i hL'
          rw [Bool.eq_iff_iff, Bool.and_eq_true, eqB_iff, eqB_iff, eqB_iff]
          unfold tS
          rw [if_pos hR, if_pos hL, if_pos hR', if_pos hL']
          constructor
          · intro e
            have e2 : textG rs ns = textG rs' ns' := by
              have := congrArg (fun b : ByteArray => b.data.toList) e
              simpa using this
            exact text_inj hR hR' hw hw' e2
          · rintro ⟨rfl, rfl⟩; rfl
        · cases h'
      · cases h'
    · cases h
  · cases h
def rS (rs : List Rule) (ns : List Node) (i : Int) : ByteArray := if rightB rs ns = true ∧ 0 ≤ i ∧ i < (rs.length : Int) then ⟨(ruleT rs ns (rs.getD i.toNat default)).toArray⟩ else ⟨#[]⟩
def rE (rs : List Rule) (ns : List Node) (i : Int) : Int := if rightB rs ns = true then (if 0 ≤ i ∧ i < (rs.length : Int) then 0 else 6) else 4
theorem Rule_any (rs : List Rule) (ns : List Node) (rv nv : Value) (i : Int) (w : World) (hr : RulesAt w rv rs) (hn : NodesAt w nv ns) (hf : Fine rs ns) (hw : ∀ x ∈ ns, Wd x) (hT : TabAt 0 Lib.deBruijn64tab w) :
    Calls Tryd.prog 8 #[.agg #[rv, nv], .int .i64 i] w fun e w' => e = .returned (.tuple #[.string (rS rs ns i), .int .i64 (rE rs ns i)]) ∧ Below w.heap.size w w' := by
  by_cases hR : rightB rs ns = true
  · by_cases hi : 0 ≤ i ∧ i < (rs.length : Int)
    · obtain ⟨l, hl⟩ : ∃ l, wholeL rs ns = some l := Option.isSome_iff_exists.1 hR
      obtain ⟨hg, h1, h32⟩ := right_of hl hw
      obtain ⟨j, rfl⟩ : ∃ j : Nat, i = (j : Int) := ⟨i.toNat, by omega⟩
      have h := Rule_right rs ns rv nv _ w hr hn hf hR hT hg j (by omega)
      have e : rS rs ns (j : Int) = ⟨(ruleT rs ns (rs.getD j default)).toArray⟩ := by
        unfold rS; rw [if_pos ⟨hR, hi⟩]; simp
      have e2 : rE rs ns (j : Int) = 0 := by unfold rE; rw [if_pos hR, if_pos hi]
      rw [e, e2]
      exact h
    · have h := Rule_range rs ns rv nv i w hr hn hf hR hi
      have e : rS rs ns i = ⟨#[]⟩ := if_neg (fun h => hi h.2)
      have e2 : rE rs ns i = 6 := by unfold rE; rw [if_pos hR, if_neg hi]
      rw [e, e2]
      exact h
  · have hR2 : rightB rs ns = false := by simpa using hR
    have h := Rule_wrong rs ns rv nv i w hr hn hf hR2
    have e : rS rs ns i = ⟨#[]⟩ := if_neg (fun h => hR h.1)
    have e2 : rE rs ns i = 4 := if_neg hR
    rw [e, e2]
    exact h
end Go.Proofs.YtljoajjbhjdonaaDoor
