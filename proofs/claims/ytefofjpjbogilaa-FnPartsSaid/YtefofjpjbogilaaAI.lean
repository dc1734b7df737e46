/- Small functions. -/
import Derived.Test.YtefofjpjbogilaaA1
set_option linter.unusedVariables false
set_option linter.unusedSimpArgs false
open Go Go.Proofs.Ytefofjpjbogilaa.M
namespace Go.Proofs.Ytefofjpjbogilaa
def c_inI : Ctr := { ash := [.one (.i .i64), .one (.i .i64), .one (.i .i64)], rsh := [.one .sb], osh := [], pq := fun n a b => (True, fun r => r = true ↔ a ≤ n ∧ n ≤ b) }
set_option maxRecDepth 100000 in
theorem vc_inI  : (fnW E [] false 85 c_inI (constV c_inI.ash [])).den = (∀ (n1 n2 n3 : Int), True → (n2 ≤ n1 → (n1 ≤ n3 → ((bif true then true else false) = true ↔ n2 ≤ n1 ∧ n1 ≤ n3)) ∧ (¬n1 ≤ n3 → ((bif true then false else false) = true ↔ n2 ≤ n1 ∧ n1 ≤ n3))) ∧ (¬n2 ≤ n1 → (false = true ↔ n2 ≤ n1 ∧ n1 ≤ n3))) := by kernel_rfl
set_option maxRecDepth 100000 in
set_option maxHeartbeats 200000 in
theorem t_inI   : Holds E.P E.md 85 c_inI := fn_vc (E := E) mix (vc_inI ) (hct_nil) (by
  try simp only [and_imp, forall_eq]
  repeat' (first | (with_reducible intro _) | (with_reducible apply And.intro))
  all_goals (try subst_vars)
  all_goals first | (with_reducible assumption) | (with_reducible rfl) | omega | (simp only [List.length_append, List.length_cons, List.length_nil]; omega) | skip
  all_goals (try (simp []; done))
  all_goals (try (simp only [TR_append, TR_cons, TR_nil, tyEl, inK_i64, inK_u8, and_true, true_and]; (repeat' (with_reducible apply And.intro)) <;> first | (with_reducible assumption) | omega))
  all_goals (try grind [])
  all_goals (try (simp only [List.mem_cons, List.cons.injEq, Value.string.injEq, Value.int.injEq, true_and, and_true, List.not_mem_nil, or_false] at *; grind (splits := 30) (gen := 20) [])))
def c_l1In : Ctr := { ash := [.one (.i .i64), .one (.i .i64), .one (.i .i64)], rsh := [.one .sb], osh := [], pq := fun n a b => (True, fun r => r = true ↔ a ≤ n ∧ n ≤ b) }
set_option maxRecDepth 100000 in
theorem vc_l1In  : (fnW E [] false 89 c_l1In (constV c_l1In.ash [])).den = (∀ (n1 n2 n3 : Int), True → (n2 ≤ n1 → (n1 ≤ n3 → ((bif true then true else false) = true ↔ n2 ≤ n1 ∧ n1 ≤ n3)) ∧ (¬n1 ≤ n3 → ((bif true then false else false) = true ↔ n2 ≤ n1 ∧ n1 ≤ n3))) ∧ (¬n2 ≤ n1 → (false = true ↔ n2 ≤ n1 ∧ n1 ≤ n3))) := by kernel_rfl
set_option maxRecDepth 100000 in
set_option maxHeartbeats 200000 in
theorem t_l1In   : Holds E.P E.md 89 c_l1In := fn_vc (E := E) mix (vc_l1In ) (hct_nil) (by
  try simp only [and_imp, forall_eq]
  repeat' (first | (with_reducible intro _) | (with_reducible apply And.intro))
  all_goals (try subst_vars)
  all_goals first | (with_reducible assumption) | (with_reducible rfl) | omega | (simp only [List.length_append, List.length_cons, List.length_nil]; omega) | skip
  all_goals (try (simp []; done))
  all_goals (try (simp only [TR_append, TR_cons, TR_nil, tyEl, inK_i64, inK_u8, and_true, true_and]; (repeat' (with_reducible apply And.intro)) <;> first | (with_reducible assumption) | omega))
  all_goals (try grind [])
  all_goals (try (simp only [List.mem_cons, List.cons.injEq, Value.string.injEq, Value.int.injEq, true_and, and_true, List.not_mem_nil, or_false] at *; grind (splits := 30) (gen := 20) [])))
end Go.Proofs.Ytefofjpjbogilaa
