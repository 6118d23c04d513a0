/-
  With further rules no order becomes shorter: joined. Conditions: none.
-/
import Derived.Test.YtppfglcmgkjgkaaLawO
import Derived.Test.YtppfglcmgkjgkaaOrdV
namespace Go.Sim
set_option linter.unusedVariables false
set_option linter.unusedSimpArgs false
theorem rlsz3 {l : List Rule} (h : ok l) : RlSz l := fun r hr => ⟨(h.2 r hr).2.1, fun x hx => ((h.2 r hr).2.2.2 x hx).2.1⟩
theorem swsz3 {l : List Sw} (h : ok l) : SwSz l := fun x hx => (h.2 x hx).1
theorem concat_two {rules more : List Rule} (h1 : rules.length * 48 ≤ 140737488351232) (h2 : more.length * 48 ≤ 140737488351232) :
    m_slices_Concat_api_InterlockRule_api_InterlockRule [rules, more] = some (rules ++ more) := by
  have w1 : IntKind.i64.wrap (0 + (rules.length : Int)) = rules.length := by rw [Int.zero_add]; exact wrap_id ⟨by omega, by omega⟩
  have w2 : IntKind.i64.wrap ((rules.length : Int) + (more.length : Int)) = (rules.length : Int) + more.length := wrap_id ⟨by omega, by omega⟩
  unfold m_slices_Concat_api_InterlockRule_api_InterlockRule
  simp only [forI, m_slices_Concat_api_InterlockRule_api_InterlockRule_b1, m_slices_Concat_api_InterlockRule_api_InterlockRule_b2, w1, w2]
  rw [if_neg (by simp), if_neg (by simp; omega)]
  unfold need
  rw [if_pos (by omega), if_pos (by simp only [List.length_nil]; omega), if_pos (by simp)]
  simp
end Go.Sim
namespace Go.Proofs.Ytppfglcmgkjgkaa
open Go.Sim
theorem orderMore_proved : Rows.OrderMoreSaid := OrderMore_law fun _ _ _ _ o0 o1 o2 o3 z0 z1 _ _ => OrderMore_of _ _ _ _ (rlsz3 o0) (rlsz3 o1) (swsz3 o2) (swsz3 o3) (concat_two z0 z1)
end Go.Proofs.Ytppfglcmgkjgkaa
