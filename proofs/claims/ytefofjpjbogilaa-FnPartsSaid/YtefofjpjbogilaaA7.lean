/- Drawn steps; what was noted, compared. -/
import Derived.Test.YtefofjpjbogilaaA6
set_option linter.unusedVariables false
set_option linter.unusedSimpArgs false
open Go Go.Proofs.Ytefofjpjbogilaa.M
namespace Go.Proofs.Ytefofjpjbogilaa
theorem ff_iff {p : Prop} (h : ¬ p) : (false = true ↔ p) := ⟨fun e => (Bool.false_ne_true e).elim, fun hp => (h hp).elim⟩
theorem tt_iff {p : Prop} (h : p) : (True ↔ p) := ⟨fun _ => h, fun _ => trivial⟩
def c_DrawCodeOk : Ctr := { ash := [.one (.r .ro 5)], rsh := [.one (.r .ro 114)], osh := [], pq := fun zs => (CodeOk1 zs, fun c => TR kIns c ∧ c.length ≤ 12) }
set_option maxRecDepth 100000 in
theorem vc_DrawCodeOk  : (fnW E [(71, c_l1New), (84, c_l15DrawCode), (83, c_l15Spoil)] false 28 c_DrawCodeOk (constV c_DrawCodeOk.ash [])).den = (∀ (r1 : List (List Value)), CodeOk1 r1 → (TR [Kd.i IntKind.u8] r1 ∧ r1.length ≤ (1048576 : Nat)) ∧ ∀ (r2 : List (List Value)) (n3 n4 : Int), r2 = r1 ∧ CurOk r1 n3 → CurOk r2 n3 ∧ ∀ (r5 r6 : List (List Value)) (n7 n8 : Int), r6 = r2 ∧ CurOk r2 n7 ∧ TR [Kd.i IntKind.i64, Kd.i IntKind.i64, Kd.s, Kd.s, Kd.s, Kd.i IntKind.i64] r5 ∧ (1 : Nat) ≤ r5.length ∧ r5.length ≤ (12 : Nat) → (CurOk r6 n7 ∧ TR [Kd.i IntKind.i64, Kd.i IntKind.i64, Kd.s, Kd.s, Kd.s, Kd.i IntKind.i64] r5 ∧ (1 : Nat) ≤ r5.length ∧ r5.length ≤ (12 : Nat)) ∧ ∀ (r9 r10 : List (List Value)) (n11 n12 : Int), r10 = r6 ∧ CurOk r6 n11 ∧ TR [Kd.i IntKind.i64, Kd.i IntKind.i64, Kd.s, Kd.s, Kd.s, Kd.i IntKind.i64] r9 ∧ r9.length ≤ (12 : Nat) → TR [Kd.i IntKind.i64, Kd.i IntKind.i64, Kd.s, Kd.s, Kd.s, Kd.i IntKind.i64] r9 ∧ r9.length ≤ (12 : Nat)) := by kernel_rfl
set_option maxRecDepth 100000 in
set_option maxHeartbeats 200000 in
theorem t_DrawCodeOk   : Holds E.P E.md 28 c_DrawCodeOk := fn_vc (E := E) mix (vc_DrawCodeOk ) (hct_cons (t_l1New) (hct_cons (t_l15DrawCode) (hct_cons (t_l15Spoil) (hct_nil)))) (by
  try simp only [and_imp, forall_eq]
  repeat' (first | (with_reducible intro _) | (with_reducible apply And.intro))
  all_goals (try subst_vars)
  all_goals first | (with_reducible assumption) | (with_reducible rfl) | omega | (simp only [List.length_append, List.length_cons, List.length_nil]; omega) | skip
  all_goals (try (simp [CodeOk1]; done))
  all_goals (try (simp only [TR_append, TR_cons, TR_nil, tyEl, inK_i64, inK_u8, and_true, true_and]; (repeat' (with_reducible apply And.intro)) <;> first | (with_reducible assumption) | omega))
  all_goals (try grind [CodeOk1])
  all_goals (try (simp only [List.mem_cons, List.cons.injEq, Value.string.injEq, Value.int.injEq, true_and, and_true, List.not_mem_nil, or_false] at *; grind (splits := 30) (gen := 20) [CodeOk1])))
def c_DrawPartOk : Ctr := { ash := [.one (.r .ro 5)], rsh := [shPartRB], osh := [], pq := fun zs => (CodeOk1 zs, fun c a s _ => DrawnP c a s) }
set_option maxRecDepth 100000 in
theorem vc_DrawPartOk  : (fnW E [(71, c_l1New), (78, c_l15Draw)] false 29 c_DrawPartOk (constV c_DrawPartOk.ash [])).den = (∀ (r1 : List (List Value)), CodeOk1 r1 → (TR [Kd.i IntKind.u8] r1 ∧ r1.length ≤ (1048576 : Nat)) ∧ ∀ (r2 : List (List Value)) (n3 n4 : Int), r2 = r1 ∧ CurOk r1 n3 → CurOk r2 n3 ∧ ∀ (r5 : List (List Value)) (n6 : Int) (r7 : List (List Value)), (∀ (r8 : List (List Value)) (n9 n10 : Int), r8 = r2 ∧ CurOk r2 n9 ∧ DrawnP r5 n6 r7 → DrawnP r5 n6 r7) ∧ ∀ (r8 : List (List Value)) (n9 n10 : Int), r8 = r2 ∧ CurOk r2 n9 ∧ DrawnP r5 n6 r7 → DrawnP r5 n6 r7) := by kernel_rfl
set_option maxRecDepth 100000 in
set_option maxHeartbeats 200000 in
theorem t_DrawPartOk   : Holds E.P E.md 29 c_DrawPartOk := fn_vc (E := E) mix (vc_DrawPartOk ) (hct_cons (t_l1New) (hct_cons (t_l15Draw) (hct_nil))) (by
  try simp only [and_imp, forall_eq]
  repeat' (first | (with_reducible intro _) | (with_reducible apply And.intro))
  all_goals (try subst_vars)
  all_goals first | (with_reducible assumption) | (with_reducible rfl) | omega | (simp only [List.length_append, List.length_cons, List.length_nil]; omega) | skip
  all_goals (try (simp [CodeOk1]; done))
  all_goals (try (simp only [TR_append, TR_cons, TR_nil, tyEl, inK_i64, inK_u8, and_true, true_and]; (repeat' (with_reducible apply And.intro)) <;> first | (with_reducible assumption) | omega))
  all_goals (try grind [CodeOk1])
  all_goals (try (simp only [List.mem_cons, List.cons.injEq, Value.string.injEq, Value.int.injEq, true_and, and_true, List.not_mem_nil, or_false] at *; grind (splits := 30) (gen := 20) [CodeOk1])))
def c_DrawPartStep : Ctr := { ash := [.one (.r .ro 5)], rsh := [shPartRB, shPort], osh := [], pq := fun zs => (CodeOk1 zs, fun c a s _ k t => DrawnP c a s ∧ Drawn k t) }
set_option maxRecDepth 100000 in
theorem vc_DrawPartStep  : (fnW E [(71, c_l1New), (78, c_l15Draw), (72, c_l14Draw)] false 24 c_DrawPartStep (constV c_DrawPartStep.ash [])).den = (∀ (r1 : List (List Value)), CodeOk1 r1 → (TR [Kd.i IntKind.u8] r1 ∧ r1.length ≤ (1048576 : Nat)) ∧ ∀ (r2 : List (List Value)) (n3 n4 : Int), r2 = r1 ∧ CurOk r1 n3 → CurOk r2 n3 ∧ ∀ (r5 : List (List Value)) (n6 : Int) (r7 : List (List Value)), (∀ (r8 : List (List Value)) (n9 n10 : Int), r8 = r2 ∧ CurOk r2 n9 ∧ DrawnP r5 n6 r7 → CurOk r8 n9 ∧ ∀ (r11 r12 r13 : List (List Value)) (n14 n15 : Int), r13 = r8 ∧ CurOk r8 n14 ∧ TR [Kd.i IntKind.i64, Kd.s, Kd.s, Kd.s] r11 ∧ TR [Kd.i IntKind.i64, Kd.s] r12 ∧ r11.length ≤ (5 : Nat) ∧ r12.length ≤ (5 : Nat) → DrawnP r5 n6 r7 ∧ Drawn r11 r12) ∧ ∀ (r8 : List (List Value)) (n9 n10 : Int), r8 = r2 ∧ CurOk r2 n9 ∧ DrawnP r5 n6 r7 → CurOk r8 n9 ∧ ∀ (r11 r12 r13 : List (List Value)) (n14 n15 : Int), r13 = r8 ∧ CurOk r8 n14 ∧ TR [Kd.i IntKind.i64, Kd.s, Kd.s, Kd.s] r11 ∧ TR [Kd.i IntKind.i64, Kd.s] r12 ∧ r11.length ≤ (5 : Nat) ∧ r12.length ≤ (5 : Nat) → DrawnP r5 n6 r7 ∧ Drawn r11 r12) := by kernel_rfl
set_option maxRecDepth 100000 in
set_option maxHeartbeats 200000 in
theorem t_DrawPartStep   : Holds E.P E.md 24 c_DrawPartStep := fn_vc (E := E) mix (vc_DrawPartStep ) (hct_cons (t_l1New) (hct_cons (t_l15Draw) (hct_cons (t_l14Draw) (hct_nil)))) (by
  try simp only [and_imp, forall_eq]
  repeat' (first | (with_reducible intro _) | (with_reducible apply And.intro))
  all_goals (try subst_vars)
  all_goals first | (with_reducible assumption) | (with_reducible rfl) | omega | (simp only [List.length_append, List.length_cons, List.length_nil]; omega) | skip
  all_goals (try (simp [CodeOk1, Drawn]; done))
  all_goals (try (simp only [TR_append, TR_cons, TR_nil, tyEl, inK_i64, inK_u8, and_true, true_and]; (repeat' (with_reducible apply And.intro)) <;> first | (with_reducible assumption) | omega))
  all_goals (try grind [CodeOk1, Drawn])
  all_goals (try (simp only [List.mem_cons, List.cons.injEq, Value.string.injEq, Value.int.injEq, true_and, and_true, List.not_mem_nil, or_false] at *; grind (splits := 30) (gen := 20) [CodeOk1, Drawn])))
def c_sameTells : Ctr := { ash := [.one (.r .ro 35), .one (.r .ro 35)], rsh := [.one .sb], osh := [], pq := fun a b => (TR kTell a ∧ TR kTell b ∧ Len a ∧ Len b, fun r => r = true ↔ a = b) }
set_option maxRecDepth 100000 in
theorem vc_sameTells  : (fnW E [] false 27 c_sameTells (fun _ _ => [⟨0, [.one (.r .ro 35), .one (.r .ro 35), .one (.i .i64)], .inl fun a0 b0 _ a b i => (a = a0 ∧ b = b0 ∧ 0 ≤ i ∧ i ≤ a.length ∧ EqTo a b i, (a.length - i).toNat)⟩])).den = (∀ (r1 r2 : List (List Value)), TR [Kd.i IntKind.i64, Kd.s] r1 ∧ TR [Kd.i IntKind.i64, Kd.s] r2 ∧ Len r1 ∧ Len r2 → ((↑r1.length : Int) = (↑r2.length : Int) → (r1 = r1 ∧ r2 = r2 ∧ (0 : Int) ≤ (0 : Int) ∧ (0 : Int) ≤ (↑r1.length : Int) ∧ EqTo r1 r2 (0 : Int)) ∧ ∀ (r3 r4 : List (List Value)) (n5 : Int), r3 = r1 ∧ r4 = r2 ∧ (0 : Int) ≤ n5 ∧ n5 ≤ (↑r3.length : Int) ∧ EqTo r3 r4 n5 → (n5 < (↑r3.length : Int) → ((0 : Int) ≤ n5 ∧ n5 < (↑r3.length : Int)) ∧ (TR [Kd.i IntKind.i64, Kd.s] r3 ∧ n5.toNat < r3.length) ∧ ∀ (n6 : Int) (s7 : ByteArray), r3[n5.toNat]? = some [Value.int IntKind.i64 n6, Value.string s7] → ((0 : Int) ≤ n5 ∧ n5 < (↑r4.length : Int)) ∧ (TR [Kd.i IntKind.i64, Kd.s] r4 ∧ n5.toNat < r4.length) ∧ ∀ (n8 : Int) (s9 : ByteArray), r4[n5.toNat]? = some [Value.int IntKind.i64 n8, Value.string s9] → (n6 = n8 ∧ s7 = s9 ∧ True → inK IntKind.i64 (n5 + (1 : Int)) ∧ (r3 = r1 ∧ r4 = r2 ∧ (0 : Int) ≤ n5 + (1 : Int) ∧ n5 + (1 : Int) ≤ (↑r3.length : Int) ∧ EqTo r3 r4 (n5 + (1 : Int))) ∧ ((↑r3.length : Int) - (n5 + (1 : Int))).toNat < ((↑r3.length : Int) - n5).toNat) ∧ (¬(n6 = n8 ∧ s7 = s9 ∧ True) → (false = true ↔ r1 = r2))) ∧ (¬n5 < (↑r3.length : Int) → (true = true ↔ r1 = r2))) ∧ (¬(↑r1.length : Int) = (↑r2.length : Int) → (false = true ↔ r1 = r2))) := by kernel_rfl
set_option maxRecDepth 100000 in
set_option maxHeartbeats 200000 in
theorem t_sameTells   : Holds E.P E.md 27 c_sameTells := fn_vc (E := E) mix (vc_sameTells ) (hct_nil) (by
  try simp only [and_imp, forall_eq, Len]
  repeat' (first | (with_reducible intro _) | (with_reducible apply And.intro))
  all_goals (try subst_vars)
  all_goals first | (with_reducible assumption) | (with_reducible rfl) | omega | (simp only [List.length_append, List.length_cons, List.length_nil]; omega) | skip
  all_goals (try exact eqTo_zero (by assumption))
  all_goals (try exact ff_iff (ne_len (by assumption)))
  all_goals (try exact tt_iff (eqTo_end (by assumption) (by assumption)))
  all_goals (try exact eqTo_succ (by assumption) (by assumption) (by assumption))
  all_goals (try (refine ff_iff (ne_at (by assumption) (by assumption) ?_); grind))
  all_goals (try simp only [inK_i64, EqTo] at *)
  all_goals (try omega))
end Go.Proofs.Ytefofjpjbogilaa
