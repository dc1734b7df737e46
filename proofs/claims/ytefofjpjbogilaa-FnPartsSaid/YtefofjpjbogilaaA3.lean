/- Ports: what is asked and told. -/
import Derived.Test.YtefofjpjbogilaaA2
set_option linter.unusedVariables false
set_option linter.unusedSimpArgs false
open Go Go.Proofs.Ytefofjpjbogilaa.M
namespace Go.Proofs.Ytefofjpjbogilaa
abbrev vOp (k : Int) (p t d : ByteArray) : List Value := [.int .i64 k, .string p, .string t, .string d]
abbrev vTell (k : Int) (p : ByteArray) : List Value := [.int .i64 k, .string p]
def pOk (a t : List (List Value)) : Prop := a.length ≤ 3 ∧ t.length ≤ 3
def shTell : VSh := .agg [.i .i64, .s]
def c_clonePort : Ctr := { ash := [shPort], rsh := [shPortO], osh := [], pq := fun a t => (Len a ∧ Len t, fun a' t' => a' = a ∧ t' = t) }
set_option maxRecDepth 100000 in
theorem vc_clonePort  : (fnW E [(125, c_cloneOp), (104, c_cloneTell)] false 74 c_clonePort (constV c_clonePort.ash [])).den = (∀ (r1 r2 : List (List Value)), Len r1 ∧ Len r2 → Len r1 ∧ ∀ (r3 : List (List Value)), r3 = r1 → Len r2 ∧ ∀ (r4 : List (List Value)), r4 = r2 → r3 = r1 ∧ r4 = r2) := by kernel_rfl
set_option maxRecDepth 100000 in
set_option maxHeartbeats 200000 in
theorem t_clonePort   : Holds E.P E.md 74 c_clonePort := fn_vc (E := E) mix (vc_clonePort ) (hct_cons (t_cloneOp) (hct_cons (t_cloneTell) (hct_nil))) (by
  try simp only [and_imp, forall_eq]
  repeat' (first | (with_reducible intro _) | (with_reducible apply And.intro))
  all_goals (try subst_vars)
  all_goals first | (with_reducible assumption) | (with_reducible rfl) | omega | (simp only [List.length_append, List.length_cons, List.length_nil]; omega) | skip
  all_goals (try (simp []; done))
  all_goals (try (simp only [TR_append, TR_cons, TR_nil, tyEl, inK_i64, inK_u8, and_true, true_and]; (repeat' (with_reducible apply And.intro)) <;> first | (with_reducible assumption) | omega))
  all_goals (try grind [])
  all_goals (try (simp only [List.mem_cons, List.cons.injEq, Value.string.injEq, Value.int.injEq, true_and, and_true, List.not_mem_nil, or_false] at *; grind (splits := 30) (gen := 20) [])))
def c_l14Copy : Ctr := { ash := [shPort], rsh := [shPortO], osh := [], pq := fun a t => (Len a ∧ Len t, fun a' t' => a' = a ∧ t' = t) }
set_option maxRecDepth 100000 in
theorem vc_l14Copy  : (fnW E [] false 75 c_l14Copy (constV c_l14Copy.ash [])).den = (∀ (r1 r2 : List (List Value)), Len r1 ∧ Len r2 → (((0 : Nat) + r1.length) * (56 : Nat) ≤ (140737488355328 : Nat) ∧ (0 : Nat) + r1.length ≤ (140737488355328 : Nat)) ∧ (((0 : Nat) + r2.length) * (24 : Nat) ≤ (140737488355328 : Nat) ∧ (0 : Nat) + r2.length ≤ (140737488355328 : Nat)) ∧ [] ++ r1 = r1 ∧ [] ++ r2 = r2) := by kernel_rfl
set_option maxRecDepth 100000 in
set_option maxHeartbeats 200000 in
theorem t_l14Copy   : Holds E.P E.md 75 c_l14Copy := fn_vc (E := E) mix (vc_l14Copy ) (hct_nil) (by
  try simp only [and_imp, forall_eq]
  repeat' (first | (with_reducible intro _) | (with_reducible apply And.intro))
  all_goals (try subst_vars)
  all_goals first | (with_reducible assumption) | (with_reducible rfl) | omega | (simp only [List.length_append, List.length_cons, List.length_nil]; omega) | skip
  all_goals (try (simp [Len]; done))
  all_goals (try (simp only [TR_append, TR_cons, TR_nil, tyEl, inK_i64, inK_u8, and_true, true_and]; (repeat' (with_reducible apply And.intro)) <;> first | (with_reducible assumption) | omega))
  all_goals (try grind [Len])
  all_goals (try (simp only [List.mem_cons, List.cons.injEq, Value.string.injEq, Value.int.injEq, true_and, and_true, List.not_mem_nil, or_false] at *; grind (splits := 30) (gen := 20) [Len])))
def c_PortOkI : Ctr := { ash := [shPort], rsh := [.one .sb], osh := [], pq := fun a t => (True, fun b => b = true ↔ pOk a t) }
set_option maxRecDepth 100000 in
theorem vc_PortOkI  : (fnW E [] false 16 c_PortOkI (constV c_PortOkI.ash [])).den = (∀ (r1 r2 : List (List Value)), True → ((↑r1.length : Int) ≤ (3 : Int) → ((↑r2.length : Int) ≤ (3 : Int) → ((bif true then true else false) = true ↔ pOk r1 r2)) ∧ (¬(↑r2.length : Int) ≤ (3 : Int) → ((bif true then false else false) = true ↔ pOk r1 r2))) ∧ (¬(↑r1.length : Int) ≤ (3 : Int) → (false = true ↔ pOk r1 r2))) := by kernel_rfl
set_option maxRecDepth 100000 in
set_option maxHeartbeats 200000 in
theorem t_PortOkI   : Holds E.P E.md 16 c_PortOkI := fn_vc (E := E) mix (vc_PortOkI ) (hct_nil) (by
  try simp only [and_imp, forall_eq]
  repeat' (first | (with_reducible intro _) | (with_reducible apply And.intro))
  all_goals (try subst_vars)
  all_goals first | (with_reducible assumption) | (with_reducible rfl) | omega | (simp only [List.length_append, List.length_cons, List.length_nil]; omega) | skip
  all_goals (try (simp [pOk]; done))
  all_goals (try (simp only [TR_append, TR_cons, TR_nil, tyEl, inK_i64, inK_u8, and_true, true_and]; (repeat' (with_reducible apply And.intro)) <;> first | (with_reducible assumption) | omega))
  all_goals (try grind [pOk])
  all_goals (try (simp only [List.mem_cons, List.cons.injEq, Value.string.injEq, Value.int.injEq, true_and, and_true, List.not_mem_nil, or_false] at *; grind (splits := 30) (gen := 20) [pOk])))
def c_PortOkS : Ctr := { ash := [shPort], rsh := [.one .sb], osh := [], pq := fun a t => (True, fun b => b = true ↔ pOk a t) }
set_option maxRecDepth 100000 in
theorem vc_PortOkS  : (fnW E [] false 17 c_PortOkS (constV c_PortOkS.ash [])).den = (∀ (r1 r2 : List (List Value)), True → ((↑r1.length : Int) ≤ (3 : Int) → ((↑r2.length : Int) ≤ (3 : Int) → ((bif true then true else false) = true ↔ pOk r1 r2)) ∧ (¬(↑r2.length : Int) ≤ (3 : Int) → ((bif true then false else false) = true ↔ pOk r1 r2))) ∧ (¬(↑r1.length : Int) ≤ (3 : Int) → (false = true ↔ pOk r1 r2))) := by kernel_rfl
set_option maxRecDepth 100000 in
set_option maxHeartbeats 200000 in
theorem t_PortOkS   : Holds E.P E.md 17 c_PortOkS := fn_vc (E := E) mix (vc_PortOkS ) (hct_nil) (by
  try simp only [and_imp, forall_eq]
  repeat' (first | (with_reducible intro _) | (with_reducible apply And.intro))
  all_goals (try subst_vars)
  all_goals first | (with_reducible assumption) | (with_reducible rfl) | omega | (simp only [List.length_append, List.length_cons, List.length_nil]; omega) | skip
  all_goals (try (simp [pOk]; done))
  all_goals (try (simp only [TR_append, TR_cons, TR_nil, tyEl, inK_i64, inK_u8, and_true, true_and]; (repeat' (with_reducible apply And.intro)) <;> first | (with_reducible assumption) | omega))
  all_goals (try grind [pOk])
  all_goals (try (simp only [List.mem_cons, List.cons.injEq, Value.string.injEq, Value.int.injEq, true_and, and_true, List.not_mem_nil, or_false] at *; grind (splits := 30) (gen := 20) [pOk])))
def c_SendI : Ctr := { ash := [shPort, shOp], rsh := [shPort, .one .sb], osh := [], pq := fun a t k p d e => (Len a ∧ Len t, fun a' t' b => (b = true ↔ pOk a t ∧ a.length ≠ 3) ∧ t' = t ∧ (b = true → a' = a ++ [[.int .i64 k, .string p, .string d, .string e]]) ∧ (b = false → a' = a)) }
set_option maxRecDepth 100000 in
theorem vc_SendI  : (fnW E [(74, c_clonePort), (16, c_PortOkI)] false 11 c_SendI (constV c_SendI.ash [])).den = (∀ (r1 r2 : List (List Value)) (n3 : Int) (s4 s5 s6 : ByteArray), Len r1 ∧ Len r2 → (Len r1 ∧ Len r2) ∧ ∀ (r7 r8 : List (List Value)), r7 = r1 ∧ r8 = r2 → True ∧ ∀ (b9 : Bool), (b9 = true ↔ pOk r1 r2) → ((!b9) = true → (false = true ↔ pOk r1 r2 ∧ r1.length ≠ (3 : Nat)) ∧ r8 = r2 ∧ (false = true → r7 = r1 ++ [[Value.int IntKind.i64 n3, Value.string s4, Value.string s5, Value.string s6]]) ∧ (false = false → r7 = r1)) ∧ ((!b9) = false → ((↑r1.length : Int) = (3 : Int) → (false = true ↔ pOk r1 r2 ∧ r1.length ≠ (3 : Nat)) ∧ r8 = r2 ∧ (false = true → r7 = r1 ++ [[Value.int IntKind.i64 n3, Value.string s4, Value.string s5, Value.string s6]]) ∧ (false = false → r7 = r1)) ∧ (¬(↑r1.length : Int) = (3 : Int) → ((r7.length + [[Value.int IntKind.i64 n3, Value.string s4, Value.string s5, Value.string s6]].length) * (56 : Nat) ≤ (140737488355328 : Nat) ∧ r7.length + [[Value.int IntKind.i64 n3, Value.string s4, Value.string s5, Value.string s6]].length ≤ (140737488355328 : Nat)) ∧ (true = true ↔ pOk r1 r2 ∧ r1.length ≠ (3 : Nat)) ∧ r8 = r2 ∧ (true = true → r7 ++ [[Value.int IntKind.i64 n3, Value.string s4, Value.string s5, Value.string s6]] = r1 ++ [[Value.int IntKind.i64 n3, Value.string s4, Value.string s5, Value.string s6]]) ∧ (true = false → r7 ++ [[Value.int IntKind.i64 n3, Value.string s4, Value.string s5, Value.string s6]] = r1)))) := by kernel_rfl
set_option maxRecDepth 100000 in
set_option maxHeartbeats 200000 in
theorem t_SendI   : Holds E.P E.md 11 c_SendI := fn_vc (E := E) mix (vc_SendI ) (hct_cons (t_clonePort) (hct_cons (t_PortOkI) (hct_nil))) (by
  try simp only [and_imp, forall_eq]
  repeat' (first | (with_reducible intro _) | (with_reducible apply And.intro))
  all_goals (try subst_vars)
  all_goals first | (with_reducible assumption) | (with_reducible rfl) | omega | (simp only [List.length_append, List.length_cons, List.length_nil]; omega) | skip
  all_goals (try (simp [pOk, Len]; done))
  all_goals (try (simp only [TR_append, TR_cons, TR_nil, tyEl, inK_i64, inK_u8, and_true, true_and]; (repeat' (with_reducible apply And.intro)) <;> first | (with_reducible assumption) | omega))
  all_goals (try grind [pOk, Len])
  all_goals (try (simp only [List.mem_cons, List.cons.injEq, Value.string.injEq, Value.int.injEq, true_and, and_true, List.not_mem_nil, or_false] at *; grind (splits := 30) (gen := 20) [pOk, Len])))
def c_SendS : Ctr := { ash := [shPort, shOp], rsh := [shPortO, .one .sb], osh := [], pq := fun a t k p d e => (Len a ∧ Len t, fun a' t' b => (b = true ↔ pOk a t ∧ a.length ≠ 3) ∧ t' = t ∧ (b = true → a' = a ++ [[.int .i64 k, .string p, .string d, .string e]]) ∧ (b = false → a' = a)) }
set_option maxRecDepth 100000 in
theorem vc_SendS  : (fnW E [(75, c_l14Copy), (17, c_PortOkS)] false 12 c_SendS (constV c_SendS.ash [])).den = (∀ (r1 r2 : List (List Value)) (n3 : Int) (s4 s5 s6 : ByteArray), Len r1 ∧ Len r2 → (Len r1 ∧ Len r2) ∧ ∀ (r7 r8 : List (List Value)), r7 = r1 ∧ r8 = r2 → True ∧ ∀ (b9 : Bool), (b9 = true ↔ pOk r1 r2) → ((!b9) = true → (false = true ↔ pOk r1 r2 ∧ r1.length ≠ (3 : Nat)) ∧ r8 = r2 ∧ (false = true → r7 = r1 ++ [[Value.int IntKind.i64 n3, Value.string s4, Value.string s5, Value.string s6]]) ∧ (false = false → r7 = r1)) ∧ ((!b9) = false → ((↑r1.length : Int) = (3 : Int) → (false = true ↔ pOk r1 r2 ∧ r1.length ≠ (3 : Nat)) ∧ r8 = r2 ∧ (false = true → r7 = r1 ++ [[Value.int IntKind.i64 n3, Value.string s4, Value.string s5, Value.string s6]]) ∧ (false = false → r7 = r1)) ∧ (¬(↑r1.length : Int) = (3 : Int) → ((r7.length + [[Value.int IntKind.i64 n3, Value.string s4, Value.string s5, Value.string s6]].length) * (56 : Nat) ≤ (140737488355328 : Nat) ∧ r7.length + [[Value.int IntKind.i64 n3, Value.string s4, Value.string s5, Value.string s6]].length ≤ (140737488355328 : Nat)) ∧ (true = true ↔ pOk r1 r2 ∧ r1.length ≠ (3 : Nat)) ∧ r8 = r2 ∧ (true = true → r7 ++ [[Value.int IntKind.i64 n3, Value.string s4, Value.string s5, Value.string s6]] = r1 ++ [[Value.int IntKind.i64 n3, Value.string s4, Value.string s5, Value.string s6]]) ∧ (true = false → r7 ++ [[Value.int IntKind.i64 n3, Value.string s4, Value.string s5, Value.string s6]] = r1)))) := by kernel_rfl
set_option maxRecDepth 100000 in
set_option maxHeartbeats 200000 in
theorem t_SendS   : Holds E.P E.md 12 c_SendS := fn_vc (E := E) mix (vc_SendS ) (hct_cons (t_l14Copy) (hct_cons (t_PortOkS) (hct_nil))) (by
  try simp only [and_imp, forall_eq]
  repeat' (first | (with_reducible intro _) | (with_reducible apply And.intro))
  all_goals (try subst_vars)
  all_goals first | (with_reducible assumption) | (with_reducible rfl) | omega | (simp only [List.length_append, List.length_cons, List.length_nil]; omega) | skip
  all_goals (try (simp [pOk, Len]; done))
  all_goals (try (simp only [TR_append, TR_cons, TR_nil, tyEl, inK_i64, inK_u8, and_true, true_and]; (repeat' (with_reducible apply And.intro)) <;> first | (with_reducible assumption) | omega))
  all_goals (try grind [pOk, Len])
  all_goals (try (simp only [List.mem_cons, List.cons.injEq, Value.string.injEq, Value.int.injEq, true_and, and_true, List.not_mem_nil, or_false] at *; grind (splits := 30) (gen := 20) [pOk, Len])))
def c_ToldI : Ctr := { ash := [shPort, shTell], rsh := [shPort, .one .sb], osh := [], pq := fun a t k p => (Len a ∧ Len t, fun a' t' b => (b = true ↔ pOk a t ∧ t.length ≠ 3) ∧ a' = a ∧ (b = true → t' = t ++ [[.int .i64 k, .string p]]) ∧ (b = false → t' = t)) }
set_option maxRecDepth 100000 in
theorem vc_ToldI  : (fnW E [(74, c_clonePort), (16, c_PortOkI)] false 14 c_ToldI (constV c_ToldI.ash [])).den = (∀ (r1 r2 : List (List Value)) (n3 : Int) (s4 : ByteArray), Len r1 ∧ Len r2 → (Len r1 ∧ Len r2) ∧ ∀ (r5 r6 : List (List Value)), r5 = r1 ∧ r6 = r2 → True ∧ ∀ (b7 : Bool), (b7 = true ↔ pOk r1 r2) → ((!b7) = true → (false = true ↔ pOk r1 r2 ∧ r2.length ≠ (3 : Nat)) ∧ r5 = r1 ∧ (false = true → r6 = r2 ++ [[Value.int IntKind.i64 n3, Value.string s4]]) ∧ (false = false → r6 = r2)) ∧ ((!b7) = false → ((↑r2.length : Int) = (3 : Int) → (false = true ↔ pOk r1 r2 ∧ r2.length ≠ (3 : Nat)) ∧ r5 = r1 ∧ (false = true → r6 = r2 ++ [[Value.int IntKind.i64 n3, Value.string s4]]) ∧ (false = false → r6 = r2)) ∧ (¬(↑r2.length : Int) = (3 : Int) → ((r6.length + [[Value.int IntKind.i64 n3, Value.string s4]].length) * (24 : Nat) ≤ (140737488355328 : Nat) ∧ r6.length + [[Value.int IntKind.i64 n3, Value.string s4]].length ≤ (140737488355328 : Nat)) ∧ (true = true ↔ pOk r1 r2 ∧ r2.length ≠ (3 : Nat)) ∧ r5 = r1 ∧ (true = true → r6 ++ [[Value.int IntKind.i64 n3, Value.string s4]] = r2 ++ [[Value.int IntKind.i64 n3, Value.string s4]]) ∧ (true = false → r6 ++ [[Value.int IntKind.i64 n3, Value.string s4]] = r2)))) := by kernel_rfl
set_option maxRecDepth 100000 in
set_option maxHeartbeats 200000 in
theorem t_ToldI   : Holds E.P E.md 14 c_ToldI := fn_vc (E := E) mix (vc_ToldI ) (hct_cons (t_clonePort) (hct_cons (t_PortOkI) (hct_nil))) (by
  try simp only [and_imp, forall_eq]
  repeat' (first | (with_reducible intro _) | (with_reducible apply And.intro))
  all_goals (try subst_vars)
  all_goals first | (with_reducible assumption) | (with_reducible rfl) | omega | (simp only [List.length_append, List.length_cons, List.length_nil]; omega) | skip
  all_goals (try (simp [pOk, Len]; done))
  all_goals (try (simp only [TR_append, TR_cons, TR_nil, tyEl, inK_i64, inK_u8, and_true, true_and]; (repeat' (with_reducible apply And.intro)) <;> first | (with_reducible assumption) | omega))
  all_goals (try grind [pOk, Len])
  all_goals (try (simp only [List.mem_cons, List.cons.injEq, Value.string.injEq, Value.int.injEq, true_and, and_true, List.not_mem_nil, or_false] at *; grind (splits := 30) (gen := 20) [pOk, Len])))
def c_ToldS : Ctr := { ash := [shPort, shTell], rsh := [shPortO, .one .sb], osh := [], pq := fun a t k p => (Len a ∧ Len t, fun a' t' b => (b = true ↔ pOk a t ∧ t.length ≠ 3) ∧ a' = a ∧ (b = true → t' = t ++ [[.int .i64 k, .string p]]) ∧ (b = false → t' = t)) }
set_option maxRecDepth 100000 in
theorem vc_ToldS  : (fnW E [(75, c_l14Copy), (17, c_PortOkS)] false 15 c_ToldS (constV c_ToldS.ash [])).den = (∀ (r1 r2 : List (List Value)) (n3 : Int) (s4 : ByteArray), Len r1 ∧ Len r2 → (Len r1 ∧ Len r2) ∧ ∀ (r5 r6 : List (List Value)), r5 = r1 ∧ r6 = r2 → True ∧ ∀ (b7 : Bool), (b7 = true ↔ pOk r1 r2) → ((!b7) = true → (false = true ↔ pOk r1 r2 ∧ r2.length ≠ (3 : Nat)) ∧ r5 = r1 ∧ (false = true → r6 = r2 ++ [[Value.int IntKind.i64 n3, Value.string s4]]) ∧ (false = false → r6 = r2)) ∧ ((!b7) = false → ((↑r2.length : Int) = (3 : Int) → (false = true ↔ pOk r1 r2 ∧ r2.length ≠ (3 : Nat)) ∧ r5 = r1 ∧ (false = true → r6 = r2 ++ [[Value.int IntKind.i64 n3, Value.string s4]]) ∧ (false = false → r6 = r2)) ∧ (¬(↑r2.length : Int) = (3 : Int) → ((r6.length + [[Value.int IntKind.i64 n3, Value.string s4]].length) * (24 : Nat) ≤ (140737488355328 : Nat) ∧ r6.length + [[Value.int IntKind.i64 n3, Value.string s4]].length ≤ (140737488355328 : Nat)) ∧ (true = true ↔ pOk r1 r2 ∧ r2.length ≠ (3 : Nat)) ∧ r5 = r1 ∧ (true = true → r6 ++ [[Value.int IntKind.i64 n3, Value.string s4]] = r2 ++ [[Value.int IntKind.i64 n3, Value.string s4]]) ∧ (true = false → r6 ++ [[Value.int IntKind.i64 n3, Value.string s4]] = r2)))) := by kernel_rfl
set_option maxRecDepth 100000 in
set_option maxHeartbeats 200000 in
theorem t_ToldS   : Holds E.P E.md 15 c_ToldS := fn_vc (E := E) mix (vc_ToldS ) (hct_cons (t_l14Copy) (hct_cons (t_PortOkS) (hct_nil))) (by
  try simp only [and_imp, forall_eq]
  repeat' (first | (with_reducible intro _) | (with_reducible apply And.intro))
  all_goals (try subst_vars)
  all_goals first | (with_reducible assumption) | (with_reducible rfl) | omega | (simp only [List.length_append, List.length_cons, List.length_nil]; omega) | skip
  all_goals (try (simp [pOk, Len]; done))
  all_goals (try (simp only [TR_append, TR_cons, TR_nil, tyEl, inK_i64, inK_u8, and_true, true_and]; (repeat' (with_reducible apply And.intro)) <;> first | (with_reducible assumption) | omega))
  all_goals (try grind [pOk, Len])
  all_goals (try (simp only [List.mem_cons, List.cons.injEq, Value.string.injEq, Value.int.injEq, true_and, and_true, List.not_mem_nil, or_false] at *; grind (splits := 30) (gen := 20) [pOk, Len])))
def c_TakeI : Ctr := { ash := [shPort], rsh := [shPort, shOp, .one .sb], osh := [], pq := fun a t => (Len a ∧ Len t ∧ TR kOp a, fun a' t' k p d e b => (b = true ↔ pOk a t ∧ 0 < a.length) ∧ t' = t ∧ (b = true → a = [.int .i64 k, .string p, .string d, .string e] :: a') ∧ (b = false → a' = a)) }
set_option maxRecDepth 100000 in
theorem vc_TakeI  : (fnW E [(74, c_clonePort), (16, c_PortOkI)] false 18 c_TakeI (constV c_TakeI.ash [])).den = (∀ (r1 r2 : List (List Value)), Len r1 ∧ Len r2 ∧ TR [Kd.i IntKind.i64, Kd.s, Kd.s, Kd.s] r1 → (Len r1 ∧ Len r2) ∧ ∀ (r3 r4 : List (List Value)), r3 = r1 ∧ r4 = r2 → True ∧ ∀ (b5 : Bool), (b5 = true ↔ pOk r1 r2) → ((!b5) = true → (false = true ↔ pOk r1 r2 ∧ (0 : Nat) < r1.length) ∧ r4 = r2 ∧ (false = true → r1 = [Value.int IntKind.i64 (0 : Int), Value.string (bs []), Value.string (bs []), Value.string (bs [])] :: r3) ∧ (false = false → r3 = r1)) ∧ ((!b5) = false → ((↑r1.length : Int) = (0 : Int) → (false = true ↔ pOk r1 r2 ∧ (0 : Nat) < r1.length) ∧ r4 = r2 ∧ (false = true → r1 = [Value.int IntKind.i64 (0 : Int), Value.string (bs []), Value.string (bs []), Value.string (bs [])] :: r3) ∧ (false = false → r3 = r1)) ∧ (¬(↑r1.length : Int) = (0 : Int) → ((0 : Int) ≤ (1 : Int) ∧ (1 : Int) ≤ (↑r3.length : Int) ∧ (↑r3.length : Int) ≤ (↑r3.length : Int)) ∧ ((0 : Int) ≤ (0 : Int) ∧ (0 : Int) < (↑r1.length : Int)) ∧ (TR [Kd.i IntKind.i64, Kd.s, Kd.s, Kd.s] r1 ∧ (0 : Nat) < r1.length) ∧ ∀ (n6 : Int) (s7 s8 s9 : ByteArray), r1[(0 : Nat)]? = some [Value.int IntKind.i64 n6, Value.string s7, Value.string s8, Value.string s9] → (true = true ↔ pOk r1 r2 ∧ (0 : Nat) < r1.length) ∧ r4 = r2 ∧ (true = true → r1 = [Value.int IntKind.i64 n6, Value.string s7, Value.string s8, Value.string s9] :: List.take ((↑r3.length : Int).toNat - (1 : Nat)) (List.drop (1 : Nat) r3)) ∧ (true = false → List.take ((↑r3.length : Int).toNat - (1 : Nat)) (List.drop (1 : Nat) r3) = r1)))) := by kernel_rfl
set_option maxRecDepth 100000 in
set_option maxHeartbeats 200000 in
theorem t_TakeI   : Holds E.P E.md 18 c_TakeI := fn_vc (E := E) mix (vc_TakeI ) (hct_cons (t_clonePort) (hct_cons (t_PortOkI) (hct_nil))) (by
  try simp only [and_imp, forall_eq]
  repeat' (first | (with_reducible intro _) | (with_reducible apply And.intro))
  all_goals (try subst_vars)
  all_goals first | (with_reducible assumption) | (with_reducible rfl) | omega | (simp only [List.length_append, List.length_cons, List.length_nil]; omega) | skip
  all_goals (try exact tail_of (by assumption))
  all_goals (try (simp [pOk, Len]; done))
  all_goals (try (simp only [TR_append, TR_cons, TR_nil, tyEl, inK_i64, inK_u8, and_true, true_and]; (repeat' (with_reducible apply And.intro)) <;> first | (with_reducible assumption) | omega))
  all_goals (try grind [pOk, Len])
  all_goals (try (simp only [List.mem_cons, List.cons.injEq, Value.string.injEq, Value.int.injEq, true_and, and_true, List.not_mem_nil, or_false] at *; grind (splits := 30) (gen := 20) [pOk, Len])))
def c_TakeS : Ctr := { ash := [shPort], rsh := [shPortO, shOp, .one .sb], osh := [], pq := fun a t => (Len a ∧ Len t ∧ TR kOp a, fun a' t' k p d e b => (b = true ↔ pOk a t ∧ 0 < a.length) ∧ t' = t ∧ (b = true → a = [.int .i64 k, .string p, .string d, .string e] :: a') ∧ (b = false → a' = a)) }
set_option maxRecDepth 100000 in
theorem vc_TakeS  : (fnW E [(75, c_l14Copy), (17, c_PortOkS)] false 22 c_TakeS (constV c_TakeS.ash [])).den = (∀ (r1 r2 : List (List Value)), Len r1 ∧ Len r2 ∧ TR [Kd.i IntKind.i64, Kd.s, Kd.s, Kd.s] r1 → (Len r1 ∧ Len r2) ∧ ∀ (r3 r4 : List (List Value)), r3 = r1 ∧ r4 = r2 → True ∧ ∀ (b5 : Bool), (b5 = true ↔ pOk r1 r2) → ((!b5) = true → (false = true ↔ pOk r1 r2 ∧ (0 : Nat) < r1.length) ∧ r4 = r2 ∧ (false = true → r1 = [Value.int IntKind.i64 (0 : Int), Value.string (bs []), Value.string (bs []), Value.string (bs [])] :: r3) ∧ (false = false → r3 = r1)) ∧ ((!b5) = false → ((↑r1.length : Int) = (0 : Int) → (false = true ↔ pOk r1 r2 ∧ (0 : Nat) < r1.length) ∧ r4 = r2 ∧ (false = true → r1 = [Value.int IntKind.i64 (0 : Int), Value.string (bs []), Value.string (bs []), Value.string (bs [])] :: r3) ∧ (false = false → r3 = r1)) ∧ (¬(↑r1.length : Int) = (0 : Int) → ((0 : Int) ≤ (1 : Int) ∧ (1 : Int) ≤ (↑r1.length : Int) ∧ (↑r1.length : Int) ≤ (↑r1.length : Int)) ∧ (((0 : Nat) + (List.take ((↑r1.length : Int).toNat - (1 : Nat)) (List.drop (1 : Nat) r1)).length) * (56 : Nat) ≤ (140737488355328 : Nat) ∧ (0 : Nat) + (List.take ((↑r1.length : Int).toNat - (1 : Nat)) (List.drop (1 : Nat) r1)).length ≤ (140737488355328 : Nat)) ∧ (1 : Nat) + ((↑r1.length : Int).toNat - (1 : Nat)) ≤ r1.length ∧ ((0 : Int) ≤ (0 : Int) ∧ (0 : Int) < (↑r1.length : Int)) ∧ (TR [Kd.i IntKind.i64, Kd.s, Kd.s, Kd.s] r1 ∧ (0 : Nat) < r1.length) ∧ ∀ (n6 : Int) (s7 s8 s9 : ByteArray), r1[(0 : Nat)]? = some [Value.int IntKind.i64 n6, Value.string s7, Value.string s8, Value.string s9] → (true = true ↔ pOk r1 r2 ∧ (0 : Nat) < r1.length) ∧ r4 = r2 ∧ (true = true → r1 = [Value.int IntKind.i64 n6, Value.string s7, Value.string s8, Value.string s9] :: ([] ++ List.take ((↑r1.length : Int).toNat - (1 : Nat)) (List.drop (1 : Nat) r1))) ∧ (true = false → [] ++ List.take ((↑r1.length : Int).toNat - (1 : Nat)) (List.drop (1 : Nat) r1) = r1)))) := by kernel_rfl
set_option maxRecDepth 100000 in
set_option maxHeartbeats 200000 in
theorem t_TakeS   : Holds E.P E.md 22 c_TakeS := fn_vc (E := E) mix (vc_TakeS ) (hct_cons (t_l14Copy) (hct_cons (t_PortOkS) (hct_nil))) (by
  try simp only [and_imp, forall_eq]
  repeat' (first | (with_reducible intro _) | (with_reducible apply And.intro))
  all_goals (try subst_vars)
  all_goals first | (with_reducible assumption) | (with_reducible rfl) | omega | (simp only [List.length_append, List.length_cons, List.length_nil]; omega) | skip
  all_goals (try exact tail_of (by assumption))
  all_goals (try (simp [pOk, Len]; done))
  all_goals (try (simp only [TR_append, TR_cons, TR_nil, tyEl, inK_i64, inK_u8, and_true, true_and]; (repeat' (with_reducible apply And.intro)) <;> first | (with_reducible assumption) | omega))
  all_goals (try grind [pOk, Len])
  all_goals (try (simp only [List.mem_cons, List.cons.injEq, Value.string.injEq, Value.int.injEq, true_and, and_true, List.not_mem_nil, or_false] at *; grind (splits := 30) (gen := 20) [pOk, Len])))
def c_HearI : Ctr := { ash := [shPort], rsh := [shPort, shTell, .one .sb], osh := [], pq := fun a t => (Len a ∧ Len t ∧ TR kTell t, fun a' t' k p b => (b = true ↔ pOk a t ∧ 0 < t.length) ∧ a' = a ∧ (b = true → t = [.int .i64 k, .string p] :: t') ∧ (b = false → t' = t)) }
set_option maxRecDepth 100000 in
theorem vc_HearI  : (fnW E [(74, c_clonePort), (16, c_PortOkI)] false 19 c_HearI (constV c_HearI.ash [])).den = (∀ (r1 r2 : List (List Value)), Len r1 ∧ Len r2 ∧ TR [Kd.i IntKind.i64, Kd.s] r2 → (Len r1 ∧ Len r2) ∧ ∀ (r3 r4 : List (List Value)), r3 = r1 ∧ r4 = r2 → True ∧ ∀ (b5 : Bool), (b5 = true ↔ pOk r1 r2) → ((!b5) = true → (false = true ↔ pOk r1 r2 ∧ (0 : Nat) < r2.length) ∧ r3 = r1 ∧ (false = true → r2 = [Value.int IntKind.i64 (0 : Int), Value.string (bs [])] :: r4) ∧ (false = false → r4 = r2)) ∧ ((!b5) = false → ((↑r2.length : Int) = (0 : Int) → (false = true ↔ pOk r1 r2 ∧ (0 : Nat) < r2.length) ∧ r3 = r1 ∧ (false = true → r2 = [Value.int IntKind.i64 (0 : Int), Value.string (bs [])] :: r4) ∧ (false = false → r4 = r2)) ∧ (¬(↑r2.length : Int) = (0 : Int) → ((0 : Int) ≤ (1 : Int) ∧ (1 : Int) ≤ (↑r4.length : Int) ∧ (↑r4.length : Int) ≤ (↑r4.length : Int)) ∧ ((0 : Int) ≤ (0 : Int) ∧ (0 : Int) < (↑r2.length : Int)) ∧ (TR [Kd.i IntKind.i64, Kd.s] r2 ∧ (0 : Nat) < r2.length) ∧ ∀ (n6 : Int) (s7 : ByteArray), r2[(0 : Nat)]? = some [Value.int IntKind.i64 n6, Value.string s7] → (true = true ↔ pOk r1 r2 ∧ (0 : Nat) < r2.length) ∧ r3 = r1 ∧ (true = true → r2 = [Value.int IntKind.i64 n6, Value.string s7] :: List.take ((↑r4.length : Int).toNat - (1 : Nat)) (List.drop (1 : Nat) r4)) ∧ (true = false → List.take ((↑r4.length : Int).toNat - (1 : Nat)) (List.drop (1 : Nat) r4) = r2)))) := by kernel_rfl
set_option maxRecDepth 100000 in
set_option maxHeartbeats 200000 in
theorem t_HearI   : Holds E.P E.md 19 c_HearI := fn_vc (E := E) mix (vc_HearI ) (hct_cons (t_clonePort) (hct_cons (t_PortOkI) (hct_nil))) (by
  try simp only [and_imp, forall_eq]
  repeat' (first | (with_reducible intro _) | (with_reducible apply And.intro))
  all_goals (try subst_vars)
  all_goals first | (with_reducible assumption) | (with_reducible rfl) | omega | (simp only [List.length_append, List.length_cons, List.length_nil]; omega) | skip
  all_goals (try exact tail_of (by assumption))
  all_goals (try (simp [pOk, Len]; done))
  all_goals (try (simp only [TR_append, TR_cons, TR_nil, tyEl, inK_i64, inK_u8, and_true, true_and]; (repeat' (with_reducible apply And.intro)) <;> first | (with_reducible assumption) | omega))
  all_goals (try grind [pOk, Len])
  all_goals (try (simp only [List.mem_cons, List.cons.injEq, Value.string.injEq, Value.int.injEq, true_and, and_true, List.not_mem_nil, or_false] at *; grind (splits := 30) (gen := 20) [pOk, Len])))
def c_HearS : Ctr := { ash := [shPort], rsh := [shPortO, shTell, .one .sb], osh := [], pq := fun a t => (Len a ∧ Len t ∧ TR kTell t, fun a' t' k p b => (b = true ↔ pOk a t ∧ 0 < t.length) ∧ a' = a ∧ (b = true → t = [.int .i64 k, .string p] :: t') ∧ (b = false → t' = t)) }
set_option maxRecDepth 100000 in
theorem vc_HearS  : (fnW E [(75, c_l14Copy), (17, c_PortOkS)] false 23 c_HearS (constV c_HearS.ash [])).den = (∀ (r1 r2 : List (List Value)), Len r1 ∧ Len r2 ∧ TR [Kd.i IntKind.i64, Kd.s] r2 → (Len r1 ∧ Len r2) ∧ ∀ (r3 r4 : List (List Value)), r3 = r1 ∧ r4 = r2 → True ∧ ∀ (b5 : Bool), (b5 = true ↔ pOk r1 r2) → ((!b5) = true → (false = true ↔ pOk r1 r2 ∧ (0 : Nat) < r2.length) ∧ r3 = r1 ∧ (false = true → r2 = [Value.int IntKind.i64 (0 : Int), Value.string (bs [])] :: r4) ∧ (false = false → r4 = r2)) ∧ ((!b5) = false → ((↑r2.length : Int) = (0 : Int) → (false = true ↔ pOk r1 r2 ∧ (0 : Nat) < r2.length) ∧ r3 = r1 ∧ (false = true → r2 = [Value.int IntKind.i64 (0 : Int), Value.string (bs [])] :: r4) ∧ (false = false → r4 = r2)) ∧ (¬(↑r2.length : Int) = (0 : Int) → ((0 : Int) ≤ (1 : Int) ∧ (1 : Int) ≤ (↑r2.length : Int) ∧ (↑r2.length : Int) ≤ (↑r2.length : Int)) ∧ (((0 : Nat) + (List.take ((↑r2.length : Int).toNat - (1 : Nat)) (List.drop (1 : Nat) r2)).length) * (24 : Nat) ≤ (140737488355328 : Nat) ∧ (0 : Nat) + (List.take ((↑r2.length : Int).toNat - (1 : Nat)) (List.drop (1 : Nat) r2)).length ≤ (140737488355328 : Nat)) ∧ (1 : Nat) + ((↑r2.length : Int).toNat - (1 : Nat)) ≤ r2.length ∧ ((0 : Int) ≤ (0 : Int) ∧ (0 : Int) < (↑r2.length : Int)) ∧ (TR [Kd.i IntKind.i64, Kd.s] r2 ∧ (0 : Nat) < r2.length) ∧ ∀ (n6 : Int) (s7 : ByteArray), r2[(0 : Nat)]? = some [Value.int IntKind.i64 n6, Value.string s7] → (true = true ↔ pOk r1 r2 ∧ (0 : Nat) < r2.length) ∧ r3 = r1 ∧ (true = true → r2 = [Value.int IntKind.i64 n6, Value.string s7] :: ([] ++ List.take ((↑r2.length : Int).toNat - (1 : Nat)) (List.drop (1 : Nat) r2))) ∧ (true = false → [] ++ List.take ((↑r2.length : Int).toNat - (1 : Nat)) (List.drop (1 : Nat) r2) = r2)))) := by kernel_rfl
set_option maxRecDepth 100000 in
set_option maxHeartbeats 200000 in
theorem t_HearS   : Holds E.P E.md 23 c_HearS := fn_vc (E := E) mix (vc_HearS ) (hct_cons (t_l14Copy) (hct_cons (t_PortOkS) (hct_nil))) (by
  try simp only [and_imp, forall_eq]
  repeat' (first | (with_reducible intro _) | (with_reducible apply And.intro))
  all_goals (try subst_vars)
  all_goals first | (with_reducible assumption) | (with_reducible rfl) | omega | (simp only [List.length_append, List.length_cons, List.length_nil]; omega) | skip
  all_goals (try exact tail_of (by assumption))
  all_goals (try (simp [pOk, Len]; done))
  all_goals (try (simp only [TR_append, TR_cons, TR_nil, tyEl, inK_i64, inK_u8, and_true, true_and]; (repeat' (with_reducible apply And.intro)) <;> first | (with_reducible assumption) | omega))
  all_goals (try grind [pOk, Len])
  all_goals (try (simp only [List.mem_cons, List.cons.injEq, Value.string.injEq, Value.int.injEq, true_and, and_true, List.not_mem_nil, or_false] at *; grind (splits := 30) (gen := 20) [pOk, Len])))
def CodeOk1 (zs : List (List Value)) : Prop := TR [.i .u8] zs ∧ zs.length ≤ 1048576
def c_big : Ctr := { ash := [.one (.r .ro 5)], rsh := [.one .sb], osh := [], pq := fun zs => (True, fun b => b = true ↔ 1048576 < zs.length) }
set_option maxRecDepth 100000 in
theorem vc_big  : (fnW E [] false 9 c_big (constV c_big.ash [])).den = (∀ (r1 : List (List Value)), True → ((1048576 : Int) < (↑r1.length : Int) → (true = true ↔ (1048576 : Nat) < r1.length)) ∧ (¬(1048576 : Int) < (↑r1.length : Int) → (false = true ↔ (1048576 : Nat) < r1.length))) := by kernel_rfl
set_option maxRecDepth 100000 in
set_option maxHeartbeats 200000 in
theorem t_big   : Holds E.P E.md 9 c_big := fn_vc (E := E) mix (vc_big ) (hct_nil) (by
  try simp only [and_imp, forall_eq]
  repeat' (first | (with_reducible intro _) | (with_reducible apply And.intro))
  all_goals (try subst_vars)
  all_goals first | (with_reducible assumption) | (with_reducible rfl) | omega | (simp only [List.length_append, List.length_cons, List.length_nil]; omega) | skip
  all_goals (try (simp []; done))
  all_goals (try (simp only [TR_append, TR_cons, TR_nil, tyEl, inK_i64, inK_u8, and_true, true_and]; (repeat' (with_reducible apply And.intro)) <;> first | (with_reducible assumption) | omega))
  all_goals (try grind [])
  all_goals (try (simp only [List.mem_cons, List.cons.injEq, Value.string.injEq, Value.int.injEq, true_and, and_true, List.not_mem_nil, or_false] at *; grind (splits := 30) (gen := 20) [])))
/-- A port that may be drawn. -/
def Drawn (a t : List (List Value)) : Prop := TR kOp a ∧ TR kTell t ∧ a.length ≤ 5 ∧ t.length ≤ 5
def c_DrawSend : Ctr := { ash := [.one (.r .ro 5)], rsh := [shPortO, shOp], osh := [], pq := fun zs => (CodeOk1 zs, fun a t k p d e => Drawn a t ∧ inK .i64 k) }
set_option maxRecDepth 100000 in
theorem vc_DrawSend  : (fnW E [(71, c_l1New), (72, c_l14Draw), (73, c_l11DrawBad)] false 10 c_DrawSend (constV c_DrawSend.ash [])).den = (∀ (r1 : List (List Value)), CodeOk1 r1 → (TR [Kd.i IntKind.u8] r1 ∧ r1.length ≤ (1048576 : Nat)) ∧ ∀ (r2 : List (List Value)) (n3 n4 : Int), r2 = r1 ∧ CurOk r1 n3 → CurOk r2 n3 ∧ ∀ (r5 r6 r7 : List (List Value)) (n8 n9 : Int), r7 = r2 ∧ CurOk r2 n8 ∧ TR [Kd.i IntKind.i64, Kd.s, Kd.s, Kd.s] r5 ∧ TR [Kd.i IntKind.i64, Kd.s] r6 ∧ r5.length ≤ (5 : Nat) ∧ r6.length ≤ (5 : Nat) → CurOk r7 n8 ∧ ∀ (n10 : Int) (s11 s12 s13 : ByteArray) (r14 : List (List Value)) (n15 n16 : Int), r14 = r7 ∧ CurOk r7 n15 ∧ (-1 : Int) ≤ n10 ∧ n10 ≤ (8 : Int) ∧ s11.size ≤ (9 : Nat) ∧ s12.size ≤ (9 : Nat) ∧ s13.size ≤ (61 : Nat) → Drawn r5 r6 ∧ inK IntKind.i64 n10) := by kernel_rfl
set_option maxRecDepth 100000 in
set_option maxHeartbeats 200000 in
theorem t_DrawSend   : Holds E.P E.md 10 c_DrawSend := fn_vc (E := E) mix (vc_DrawSend ) (hct_cons (t_l1New) (hct_cons (t_l14Draw) (hct_cons (t_l11DrawBad) (hct_nil)))) (by
  try simp only [and_imp, forall_eq]
  repeat' (first | (with_reducible intro _) | (with_reducible apply And.intro))
  all_goals (try subst_vars)
  all_goals first | (with_reducible assumption) | (with_reducible rfl) | omega | (simp only [List.length_append, List.length_cons, List.length_nil]; omega) | skip
  all_goals (try (simp [CodeOk1, Drawn, inK_i64]; done))
  all_goals (try (simp only [TR_append, TR_cons, TR_nil, tyEl, inK_i64, inK_u8, and_true, true_and]; (repeat' (with_reducible apply And.intro)) <;> first | (with_reducible assumption) | omega))
  all_goals (try grind [CodeOk1, Drawn, inK_i64])
  all_goals (try (simp only [List.mem_cons, List.cons.injEq, Value.string.injEq, Value.int.injEq, true_and, and_true, List.not_mem_nil, or_false] at *; grind (splits := 30) (gen := 20) [CodeOk1, Drawn, inK_i64])))
def c_DrawTold : Ctr := { ash := [.one (.r .ro 5)], rsh := [shPortO, shTell], osh := [], pq := fun zs => (CodeOk1 zs, fun a t k p => Drawn a t ∧ inK .i64 k) }
set_option maxRecDepth 100000 in
theorem vc_DrawTold  : (fnW E [(71, c_l1New), (72, c_l14Draw), (76, c_l1Below), (77, c_l1DrawText)] false 13 c_DrawTold (constV c_DrawTold.ash [])).den = (∀ (r1 : List (List Value)), CodeOk1 r1 → (TR [Kd.i IntKind.u8] r1 ∧ r1.length ≤ (1048576 : Nat)) ∧ ∀ (r2 : List (List Value)) (n3 n4 : Int), r2 = r1 ∧ CurOk r1 n3 → CurOk r2 n3 ∧ ∀ (r5 r6 r7 : List (List Value)) (n8 n9 : Int), r7 = r2 ∧ CurOk r2 n8 ∧ TR [Kd.i IntKind.i64, Kd.s, Kd.s, Kd.s] r5 ∧ TR [Kd.i IntKind.i64, Kd.s] r6 ∧ r5.length ≤ (5 : Nat) ∧ r6.length ≤ (5 : Nat) → (CurOk r7 n8 ∧ inK IntKind.i64 (9 : Int)) ∧ ∀ (n10 : Int) (r11 : List (List Value)) (n12 n13 : Int), r11 = r7 ∧ CurOk r7 n12 ∧ (0 : Int) ≤ n10 ∧ ((0 : Int) < (9 : Int) → n10 < (9 : Int)) ∧ ((9 : Int) ≤ (0 : Int) → n10 = (0 : Int)) → inK IntKind.i64 (n10 - (1 : Int)) ∧ CurOk r11 n12 ∧ ∀ (s14 : ByteArray) (r15 : List (List Value)) (n16 n17 : Int), r15 = r11 ∧ CurOk r11 n16 ∧ s14.size ≤ (401 : Nat) → Drawn r5 r6 ∧ inK IntKind.i64 (n10 - (1 : Int))) := by kernel_rfl
set_option maxRecDepth 100000 in
set_option maxHeartbeats 200000 in
theorem t_DrawTold   : Holds E.P E.md 13 c_DrawTold := fn_vc (E := E) mix (vc_DrawTold ) (hct_cons (t_l1New) (hct_cons (t_l14Draw) (hct_cons (t_l1Below) (hct_cons (t_l1DrawText) (hct_nil))))) (by
  try simp only [and_imp, forall_eq]
  repeat' (first | (with_reducible intro _) | (with_reducible apply And.intro))
  all_goals (try subst_vars)
  all_goals first | (with_reducible assumption) | (with_reducible rfl) | omega | (simp only [List.length_append, List.length_cons, List.length_nil]; omega) | skip
  all_goals (try (simp [CodeOk1, Drawn, inK_i64]; done))
  all_goals (try (simp only [TR_append, TR_cons, TR_nil, tyEl, inK_i64, inK_u8, and_true, true_and]; (repeat' (with_reducible apply And.intro)) <;> first | (with_reducible assumption) | omega))
  all_goals (try grind [CodeOk1, Drawn, inK_i64])
  all_goals (try (simp only [List.mem_cons, List.cons.injEq, Value.string.injEq, Value.int.injEq, true_and, and_true, List.not_mem_nil, or_false] at *; grind (splits := 30) (gen := 20) [CodeOk1, Drawn, inK_i64])))
def c_DrawTake : Ctr := { ash := [.one (.r .ro 5)], rsh := [shPortO], osh := [], pq := fun zs => (CodeOk1 zs, fun a t => Drawn a t) }
set_option maxRecDepth 100000 in
theorem vc_DrawTake  : (fnW E [(71, c_l1New), (72, c_l14Draw)] false 20 c_DrawTake (constV c_DrawTake.ash [])).den = (∀ (r1 : List (List Value)), CodeOk1 r1 → (TR [Kd.i IntKind.u8] r1 ∧ r1.length ≤ (1048576 : Nat)) ∧ ∀ (r2 : List (List Value)) (n3 n4 : Int), r2 = r1 ∧ CurOk r1 n3 → CurOk r2 n3 ∧ ∀ (r5 r6 r7 : List (List Value)) (n8 n9 : Int), r7 = r2 ∧ CurOk r2 n8 ∧ TR [Kd.i IntKind.i64, Kd.s, Kd.s, Kd.s] r5 ∧ TR [Kd.i IntKind.i64, Kd.s] r6 ∧ r5.length ≤ (5 : Nat) ∧ r6.length ≤ (5 : Nat) → Drawn r5 r6) := by kernel_rfl
set_option maxRecDepth 100000 in
set_option maxHeartbeats 200000 in
theorem t_DrawTake   : Holds E.P E.md 20 c_DrawTake := fn_vc (E := E) mix (vc_DrawTake ) (hct_cons (t_l1New) (hct_cons (t_l14Draw) (hct_nil))) (by
  try simp only [and_imp, forall_eq]
  repeat' (first | (with_reducible intro _) | (with_reducible apply And.intro))
  all_goals (try subst_vars)
  all_goals first | (with_reducible assumption) | (with_reducible rfl) | omega | (simp only [List.length_append, List.length_cons, List.length_nil]; omega) | skip
  all_goals (try (simp [CodeOk1, Drawn]; done))
  all_goals (try (simp only [TR_append, TR_cons, TR_nil, tyEl, inK_i64, inK_u8, and_true, true_and]; (repeat' (with_reducible apply And.intro)) <;> first | (with_reducible assumption) | omega))
  all_goals (try grind [CodeOk1, Drawn])
  all_goals (try (simp only [List.mem_cons, List.cons.injEq, Value.string.injEq, Value.int.injEq, true_and, and_true, List.not_mem_nil, or_false] at *; grind (splits := 30) (gen := 20) [CodeOk1, Drawn])))
def c_DrawHear : Ctr := { ash := [.one (.r .ro 5)], rsh := [shPortO], osh := [], pq := fun zs => (CodeOk1 zs, fun a t => Drawn a t) }
set_option maxRecDepth 100000 in
theorem vc_DrawHear  : (fnW E [(71, c_l1New), (72, c_l14Draw)] false 21 c_DrawHear (constV c_DrawHear.ash [])).den = (∀ (r1 : List (List Value)), CodeOk1 r1 → (TR [Kd.i IntKind.u8] r1 ∧ r1.length ≤ (1048576 : Nat)) ∧ ∀ (r2 : List (List Value)) (n3 n4 : Int), r2 = r1 ∧ CurOk r1 n3 → CurOk r2 n3 ∧ ∀ (r5 r6 r7 : List (List Value)) (n8 n9 : Int), r7 = r2 ∧ CurOk r2 n8 ∧ TR [Kd.i IntKind.i64, Kd.s, Kd.s, Kd.s] r5 ∧ TR [Kd.i IntKind.i64, Kd.s] r6 ∧ r5.length ≤ (5 : Nat) ∧ r6.length ≤ (5 : Nat) → Drawn r5 r6) := by kernel_rfl
set_option maxRecDepth 100000 in
set_option maxHeartbeats 200000 in
theorem t_DrawHear   : Holds E.P E.md 21 c_DrawHear := fn_vc (E := E) mix (vc_DrawHear ) (hct_cons (t_l1New) (hct_cons (t_l14Draw) (hct_nil))) (by
  try simp only [and_imp, forall_eq]
  repeat' (first | (with_reducible intro _) | (with_reducible apply And.intro))
  all_goals (try subst_vars)
  all_goals first | (with_reducible assumption) | (with_reducible rfl) | omega | (simp only [List.length_append, List.length_cons, List.length_nil]; omega) | skip
  all_goals (try (simp [CodeOk1, Drawn]; done))
  all_goals (try (simp only [TR_append, TR_cons, TR_nil, tyEl, inK_i64, inK_u8, and_true, true_and]; (repeat' (with_reducible apply And.intro)) <;> first | (with_reducible assumption) | omega))
  all_goals (try grind [CodeOk1, Drawn])
  all_goals (try (simp only [List.mem_cons, List.cons.injEq, Value.string.injEq, Value.int.injEq, true_and, and_true, List.not_mem_nil, or_false] at *; grind (splits := 30) (gen := 20) [CodeOk1, Drawn])))
end Go.Proofs.Ytefofjpjbogilaa
