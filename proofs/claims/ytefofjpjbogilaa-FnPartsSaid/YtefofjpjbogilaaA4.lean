/- Programs: code, steps. -/
import Derived.Test.YtefofjpjbogilaaA3
import Derived.Test.YtefofjpjbogilaaAI
set_option linter.unusedVariables false
set_option linter.unusedSimpArgs false
open Go Go.Proofs.Ytefofjpjbogilaa.M
namespace Go.Proofs.Ytefofjpjbogilaa
abbrev kIns : List Kd := [.i .i64, .i .i64, .s, .s, .s, .i .i64]
abbrev vIns (k o : Int) (p t d : ByteArray) (n : Int) : List Value := [.int .i64 k, .int .i64 o, .string p, .string t, .string d, .int .i64 n]
def shIns : VSh := .agg [.i .i64, .i .i64, .s, .s, .s, .i .i64]
def opNil (o : Int) (p t d : ByteArray) : Prop := o = 0 ∧ p = bs [] ∧ t = bs [] ∧ d = bs []
def insOk (k o : Int) (p t d : ByteArray) (n places : Int) : Prop :=
  (k = 1 ∧ n = 0) ∨ ((k = 3 ∨ k = 4) ∧ opNil o p t d ∧ 0 ≤ n ∧ n < places) ∨ ((k = 2 ∨ k = 5) ∧ opNil o p t d ∧ n = 0)
def insOkR (places : Int) (el : List Value) : Prop := ∃ k o p t d n, el = vIns k o p t d n ∧ insOk k o p t d n places
def codeOk (xs : List (List Value)) : Prop := (∀ el ∈ xs, insOkR xs.length el) ∧ 1 ≤ xs.length ∧ xs.length ≤ 20
def c_insOk : Ctr := { ash := [shIns, .one (.i .i64)], rsh := [.one .sb], osh := [], pq := fun k o p t d n pl => (True, fun b => b = true ↔ insOk k o p t d n pl) }
set_option maxRecDepth 100000 in
theorem vc_insOk  : (fnW E [] false 88 c_insOk (constV c_insOk.ash [])).den = (∀ (n1 n2 : Int) (s3 s4 s5 : ByteArray) (n6 n7 : Int), True → (n1 = (1 : Int) → (n6 = (0 : Int) → (true = true ↔ insOk n1 n2 s3 s4 s5 n6 n7)) ∧ (¬n6 = (0 : Int) → (false = true ↔ insOk n1 n2 s3 s4 s5 n6 n7))) ∧ (¬n1 = (1 : Int) → (n1 = (3 : Int) → (n2 = (0 : Int) ∧ s3 = (bs []) ∧ s4 = (bs []) ∧ s5 = (bs []) ∧ True → ((0 : Int) ≤ n6 → (n6 < n7 → ((bif bif true then true else false then true else false) = true ↔ insOk n1 n2 s3 s4 s5 n6 n7)) ∧ (¬n6 < n7 → ((bif bif true then true else false then false else false) = true ↔ insOk n1 n2 s3 s4 s5 n6 n7))) ∧ (¬(0 : Int) ≤ n6 → (false = true ↔ insOk n1 n2 s3 s4 s5 n6 n7))) ∧ (¬(n2 = (0 : Int) ∧ s3 = (bs []) ∧ s4 = (bs []) ∧ s5 = (bs []) ∧ True) → (false = true ↔ insOk n1 n2 s3 s4 s5 n6 n7))) ∧ (¬n1 = (3 : Int) → (n1 = (4 : Int) → (n2 = (0 : Int) ∧ s3 = (bs []) ∧ s4 = (bs []) ∧ s5 = (bs []) ∧ True → ((0 : Int) ≤ n6 → (n6 < n7 → ((bif bif true then true else false then true else false) = true ↔ insOk n1 n2 s3 s4 s5 n6 n7)) ∧ (¬n6 < n7 → ((bif bif true then true else false then false else false) = true ↔ insOk n1 n2 s3 s4 s5 n6 n7))) ∧ (¬(0 : Int) ≤ n6 → (false = true ↔ insOk n1 n2 s3 s4 s5 n6 n7))) ∧ (¬(n2 = (0 : Int) ∧ s3 = (bs []) ∧ s4 = (bs []) ∧ s5 = (bs []) ∧ True) → (false = true ↔ insOk n1 n2 s3 s4 s5 n6 n7))) ∧ (¬n1 = (4 : Int) → (n1 = (2 : Int) → (n2 = (0 : Int) ∧ s3 = (bs []) ∧ s4 = (bs []) ∧ s5 = (bs []) ∧ True → (n6 = (0 : Int) → ((bif true then true else false) = true ↔ insOk n1 n2 s3 s4 s5 n6 n7)) ∧ (¬n6 = (0 : Int) → ((bif true then false else false) = true ↔ insOk n1 n2 s3 s4 s5 n6 n7))) ∧ (¬(n2 = (0 : Int) ∧ s3 = (bs []) ∧ s4 = (bs []) ∧ s5 = (bs []) ∧ True) → (false = true ↔ insOk n1 n2 s3 s4 s5 n6 n7))) ∧ (¬n1 = (2 : Int) → (n1 = (5 : Int) → (n2 = (0 : Int) ∧ s3 = (bs []) ∧ s4 = (bs []) ∧ s5 = (bs []) ∧ True → (n6 = (0 : Int) → ((bif true then true else false) = true ↔ insOk n1 n2 s3 s4 s5 n6 n7)) ∧ (¬n6 = (0 : Int) → ((bif true then false else false) = true ↔ insOk n1 n2 s3 s4 s5 n6 n7))) ∧ (¬(n2 = (0 : Int) ∧ s3 = (bs []) ∧ s4 = (bs []) ∧ s5 = (bs []) ∧ True) → (false = true ↔ insOk n1 n2 s3 s4 s5 n6 n7))) ∧ (¬n1 = (5 : Int) → (false = true ↔ insOk n1 n2 s3 s4 s5 n6 n7))))))) := by kernel_rfl
set_option maxRecDepth 100000 in
set_option maxHeartbeats 200000 in
theorem t_insOk   : Holds E.P E.md 88 c_insOk := fn_vc (E := E) mix (vc_insOk ) (hct_nil) (by
  try simp only [and_imp, forall_eq]
  repeat' (first | (with_reducible intro _) | (with_reducible apply And.intro))
  all_goals (try subst_vars)
  all_goals first | (with_reducible assumption) | (with_reducible rfl) | omega | (simp only [List.length_append, List.length_cons, List.length_nil]; omega) | skip
  all_goals (try (simp [insOk, opNil]; done))
  all_goals (try (simp only [TR_append, TR_cons, TR_nil, tyEl, inK_i64, inK_u8, and_true, true_and]; (repeat' (with_reducible apply And.intro)) <;> first | (with_reducible assumption) | omega))
  all_goals (try grind [insOk, opNil])
  all_goals (try (simp only [List.mem_cons, List.cons.injEq, Value.string.injEq, Value.int.injEq, true_and, and_true, List.not_mem_nil, or_false] at *; grind (splits := 30) (gen := 20) [insOk, opNil])))
def c_clonePart : Ctr := { ash := [.agg [.r .ro 114, .i .i64, .r .ro 35, .sb]], rsh := [.agg [.r .own 114, .i .i64, .r .own 35, .sb]], osh := [], pq := fun c a s o => (Len c ∧ Len s, fun c' a' s' o' => c' = c ∧ a' = a ∧ s' = s ∧ o' = o) }
set_option maxRecDepth 100000 in
theorem vc_clonePart  : (fnW E [(130, c_cloneIns), (104, c_cloneTell)] false 79 c_clonePart (constV c_clonePart.ash [])).den = (∀ (r1 : List (List Value)) (n2 : Int) (r3 : List (List Value)) (b4 : Bool), Len r1 ∧ Len r3 → Len r1 ∧ ∀ (r5 : List (List Value)), r5 = r1 → Len r3 ∧ ∀ (r6 : List (List Value)), r6 = r3 → r5 = r1 ∧ n2 = n2 ∧ r6 = r3 ∧ b4 = b4) := by kernel_rfl
set_option maxRecDepth 100000 in
set_option maxHeartbeats 200000 in
theorem t_clonePart   : Holds E.P E.md 79 c_clonePart := fn_vc (E := E) mix (vc_clonePart ) (hct_cons (t_cloneIns) (hct_cons (t_cloneTell) (hct_nil))) (by
  try simp only [and_imp, forall_eq]
  repeat' (first | (with_reducible intro _) | (with_reducible apply And.intro))
  all_goals (try subst_vars)
  all_goals first | (with_reducible assumption) | (with_reducible rfl) | omega | (simp only [List.length_append, List.length_cons, List.length_nil]; omega) | skip
  all_goals (try (simp []; done))
  all_goals (try (simp only [TR_append, TR_cons, TR_nil, tyEl, inK_i64, inK_u8, and_true, true_and]; (repeat' (with_reducible apply And.intro)) <;> first | (with_reducible assumption) | omega))
  all_goals (try grind [])
  all_goals (try (simp only [List.mem_cons, List.cons.injEq, Value.string.injEq, Value.int.injEq, true_and, and_true, List.not_mem_nil, or_false] at *; grind (splits := 30) (gen := 20) [])))
def c_l15Copy : Ctr := { ash := [.agg [.r .ro 114, .i .i64, .r .ro 35, .sb]], rsh := [.agg [.r .own 114, .i .i64, .r .own 35, .sb]], osh := [], pq := fun c a s o => (Len c ∧ Len s, fun c' a' s' o' => c' = c ∧ a' = a ∧ s' = s ∧ o' = o) }
set_option maxRecDepth 100000 in
theorem vc_l15Copy  : (fnW E [] false 81 c_l15Copy (constV c_l15Copy.ash [])).den = (∀ (r1 : List (List Value)) (n2 : Int) (r3 : List (List Value)) (b4 : Bool), Len r1 ∧ Len r3 → (((0 : Nat) + r1.length) * (72 : Nat) ≤ (140737488355328 : Nat) ∧ (0 : Nat) + r1.length ≤ (140737488355328 : Nat)) ∧ (((0 : Nat) + r3.length) * (24 : Nat) ≤ (140737488355328 : Nat) ∧ (0 : Nat) + r3.length ≤ (140737488355328 : Nat)) ∧ [] ++ r1 = r1 ∧ n2 = n2 ∧ [] ++ r3 = r3 ∧ b4 = b4) := by kernel_rfl
set_option maxRecDepth 100000 in
set_option maxHeartbeats 200000 in
theorem t_l15Copy   : Holds E.P E.md 81 c_l15Copy := fn_vc (E := E) mix (vc_l15Copy ) (hct_nil) (by
  try simp only [and_imp, forall_eq]
  repeat' (first | (with_reducible intro _) | (with_reducible apply And.intro))
  all_goals (try subst_vars)
  all_goals first | (with_reducible assumption) | (with_reducible rfl) | omega | (simp only [List.length_append, List.length_cons, List.length_nil]; omega) | skip
  all_goals (try (simp [Len]; done))
  all_goals (try (simp only [TR_append, TR_cons, TR_nil, tyEl, inK_i64, inK_u8, and_true, true_and]; (repeat' (with_reducible apply And.intro)) <;> first | (with_reducible assumption) | omega))
  all_goals (try grind [Len])
  all_goals (try (simp only [List.mem_cons, List.cons.injEq, Value.string.injEq, Value.int.injEq, true_and, and_true, List.not_mem_nil, or_false] at *; grind (splits := 30) (gen := 20) [Len])))
/-- Where a program goes on. -/
def goP (len a to : Int) (over : Bool) : Int × Bool := if len ≤ to then (a, true) else (to, over)
def c_goOn : Ctr := { ash := [.agg [.r .own 114, .i .i64, .r .own 35, .sb], .one (.i .i64)], rsh := [.agg [.r .own 114, .i .i64, .r .own 35, .sb]], osh := [.agg [.ref 0, .i .i64, .ref 1, .sb]], pq := fun c a s o to => (True, fun c' a' s' o' _ _ => c' = c ∧ a' = (goP c.length a to o).1 ∧ o' = (goP c.length a to o).2 ∧ s' = s) }
set_option maxRecDepth 100000 in
theorem vc_goOn  : (fnW E [] false 131 c_goOn (constV c_goOn.ash [])).den = (∀ (r1 : List (List Value)) (n2 : Int) (r3 : List (List Value)) (b4 : Bool) (n5 : Int), True → ((↑r1.length : Int) ≤ n5 → r1 = r1 ∧ n2 = (goP (↑r1.length : Int) n2 n5 b4).fst ∧ true = (goP (↑r1.length : Int) n2 n5 b4).snd ∧ r3 = r3) ∧ (¬(↑r1.length : Int) ≤ n5 → r1 = r1 ∧ n5 = (goP (↑r1.length : Int) n2 n5 b4).fst ∧ b4 = (goP (↑r1.length : Int) n2 n5 b4).snd ∧ r3 = r3)) := by kernel_rfl
set_option maxRecDepth 100000 in
set_option maxHeartbeats 200000 in
theorem t_goOn   : Holds E.P E.md 131 c_goOn := fn_vc (E := E) mix (vc_goOn ) (hct_nil) (by
  try simp only [and_imp, forall_eq]
  repeat' (first | (with_reducible intro _) | (with_reducible apply And.intro))
  all_goals (try subst_vars)
  all_goals first | (with_reducible assumption) | (with_reducible rfl) | omega | (simp only [List.length_append, List.length_cons, List.length_nil]; omega) | skip
  all_goals (try (simp [goP]; done))
  all_goals (try (simp only [TR_append, TR_cons, TR_nil, tyEl, inK_i64, inK_u8, and_true, true_and]; (repeat' (with_reducible apply And.intro)) <;> first | (with_reducible assumption) | omega))
  all_goals (try grind [goP])
  all_goals (try (simp only [List.mem_cons, List.cons.injEq, Value.string.injEq, Value.int.injEq, true_and, and_true, List.not_mem_nil, or_false] at *; grind (splits := 30) (gen := 20) [goP])))
def c_l15Go : Ctr := { ash := [.agg [.r .own 114, .i .i64, .r .own 35, .sb], .one (.i .i64)], rsh := [.agg [.r .own 114, .i .i64, .r .own 35, .sb]], osh := [.agg [.ref 0, .i .i64, .ref 1, .sb]], pq := fun c a s o to => (True, fun c' a' s' o' _ _ => c' = c ∧ a' = (goP c.length a to o).1 ∧ o' = (goP c.length a to o).2 ∧ s' = s) }
set_option maxRecDepth 100000 in
theorem vc_l15Go  : (fnW E [] false 82 c_l15Go (constV c_l15Go.ash [])).den = (∀ (r1 : List (List Value)) (n2 : Int) (r3 : List (List Value)) (b4 : Bool) (n5 : Int), True → ((↑r1.length : Int) ≤ n5 → r1 = r1 ∧ n2 = (goP (↑r1.length : Int) n2 n5 b4).fst ∧ true = (goP (↑r1.length : Int) n2 n5 b4).snd ∧ r3 = r3) ∧ (¬(↑r1.length : Int) ≤ n5 → r1 = r1 ∧ n5 = (goP (↑r1.length : Int) n2 n5 b4).fst ∧ b4 = (goP (↑r1.length : Int) n2 n5 b4).snd ∧ r3 = r3)) := by kernel_rfl
set_option maxRecDepth 100000 in
set_option maxHeartbeats 200000 in
theorem t_l15Go   : Holds E.P E.md 82 c_l15Go := fn_vc (E := E) mix (vc_l15Go ) (hct_nil) (by
  try simp only [and_imp, forall_eq]
  repeat' (first | (with_reducible intro _) | (with_reducible apply And.intro))
  all_goals (try subst_vars)
  all_goals first | (with_reducible assumption) | (with_reducible rfl) | omega | (simp only [List.length_append, List.length_cons, List.length_nil]; omega) | skip
  all_goals (try (simp [goP]; done))
  all_goals (try (simp only [TR_append, TR_cons, TR_nil, tyEl, inK_i64, inK_u8, and_true, true_and]; (repeat' (with_reducible apply And.intro)) <;> first | (with_reducible assumption) | omega))
  all_goals (try grind [goP])
  all_goals (try (simp only [List.mem_cons, List.cons.injEq, Value.string.injEq, Value.int.injEq, true_and, and_true, List.not_mem_nil, or_false] at *; grind (splits := 30) (gen := 20) [goP])))
theorem insOkR_v {pl k o n : Int} {p t d : ByteArray} : insOkR pl (vIns k o p t d n) ↔ insOk k o p t d n pl := by
  constructor
  · rintro ⟨k', o', p', t', d', n', e, h⟩
    simp only [vIns, List.cons.injEq, Value.int.injEq, Value.string.injEq, true_and, and_true] at e
    obtain ⟨rfl, rfl, rfl, rfl, rfl, rfl⟩ := e
    exact h
  · intro h; exact ⟨k, o, p, t, d, n, rfl, h⟩
theorem codeOk_not {xs : List (List Value)} {i : Nat} {k o n : Int} {p t d : ByteArray} (he : xs[i]? = some (vIns k o p t d n)) (hp : ¬ insOk k o p t d n xs.length) : ¬ codeOk xs :=
  fun h => absurd (h.1 _ (List.mem_of_getElem? he)) (mt insOkR_v.1 hp)
theorem codeOk_end {xs : List (List Value)} {i : Int} {b : Bool} (h : AllLt (insOkR xs.length) xs i) (hi : ¬ i < (xs.length : Int)) (hb : b = true ↔ 1 ≤ (xs.length : Int) ∧ (xs.length : Int) ≤ 20) : b = true ↔ codeOk xs := by
  rw [hb]
  unfold codeOk
  have := allLt_end h hi
  constructor
  · intro h; exact ⟨this, by omega, by omega⟩
  · rintro ⟨_, h1, h2⟩; omega
def c_CodeOkS : Ctr := { ash := [.one (.r .ro 114)], rsh := [.one .sb], osh := [], pq := fun c => (TR kIns c ∧ Len c, fun b => b = true ↔ codeOk c) }
set_option maxRecDepth 100000 in
theorem vc_CodeOkS  : (fnW E [(89, c_l1In)] false 31 c_CodeOkS (fun _ => [⟨0, [.one (.r .ro 114), .one (.i .i64)], .inl fun c0 _ c i => (c = c0 ∧ 0 ≤ i ∧ i ≤ c.length ∧ AllLt (insOkR c.length) c i, (c.length - i).toNat)⟩])).den = (∀ (r1 : List (List Value)), TR [Kd.i IntKind.i64, Kd.i IntKind.i64, Kd.s, Kd.s, Kd.s, Kd.i IntKind.i64] r1 ∧ Len r1 → (r1 = r1 ∧ (0 : Int) ≤ (0 : Int) ∧ (0 : Int) ≤ (↑r1.length : Int) ∧ AllLt (insOkR (↑r1.length : Int)) r1 (0 : Int)) ∧ ∀ (r2 : List (List Value)) (n3 : Int), r2 = r1 ∧ (0 : Int) ≤ n3 ∧ n3 ≤ (↑r2.length : Int) ∧ AllLt (insOkR (↑r2.length : Int)) r2 n3 → (n3 < (↑r2.length : Int) → ((0 : Int) ≤ n3 ∧ n3 < (↑r2.length : Int)) ∧ (TR [Kd.i IntKind.i64, Kd.i IntKind.i64, Kd.s, Kd.s, Kd.s, Kd.i IntKind.i64] r2 ∧ n3.toNat < r2.length) ∧ ∀ (n4 n5 : Int) (s6 s7 s8 : ByteArray) (n9 : Int), r2[n3.toNat]? = some [Value.int IntKind.i64 n4, Value.int IntKind.i64 n5, Value.string s6, Value.string s7, Value.string s8, Value.int IntKind.i64 n9] → (n4 = (3 : Int) → inK IntKind.i64 ((↑r2.length : Int) - (1 : Int)) ∧ True ∧ ∀ (b10 : Bool), (b10 = true ↔ (0 : Int) ≤ n9 ∧ n9 ≤ (↑r2.length : Int) - (1 : Int)) → (b10 = true → (n4 = (1 : Int) → True ∧ ∀ (b11 : Bool), (b11 = true ↔ (1 : Int) ≤ n4 ∧ n4 ≤ (5 : Int)) → ((!b11) = true → (false = true ↔ codeOk r1)) ∧ ((!b11) = false → inK IntKind.i64 (n3 + (1 : Int)) ∧ (r2 = r1 ∧ (0 : Int) ≤ n3 + (1 : Int) ∧ n3 + (1 : Int) ≤ (↑r2.length : Int) ∧ AllLt (insOkR (↑r2.length : Int)) r2 (n3 + (1 : Int))) ∧ ((↑r2.length : Int) - (n3 + (1 : Int))).toNat < ((↑r2.length : Int) - n3).toNat)) ∧ (¬n4 = (1 : Int) → (n5 = (0 : Int) ∧ s6 = (bs []) ∧ s7 = (bs []) ∧ s8 = (bs []) ∧ True → True ∧ ∀ (b11 : Bool), (b11 = true ↔ (1 : Int) ≤ n4 ∧ n4 ≤ (5 : Int)) → ((!b11) = true → (false = true ↔ codeOk r1)) ∧ ((!b11) = false → inK IntKind.i64 (n3 + (1 : Int)) ∧ (r2 = r1 ∧ (0 : Int) ≤ n3 + (1 : Int) ∧ n3 + (1 : Int) ≤ (↑r2.length : Int) ∧ AllLt (insOkR (↑r2.length : Int)) r2 (n3 + (1 : Int))) ∧ ((↑r2.length : Int) - (n3 + (1 : Int))).toNat < ((↑r2.length : Int) - n3).toNat)) ∧ (¬(n5 = (0 : Int) ∧ s6 = (bs []) ∧ s7 = (bs []) ∧ s8 = (bs []) ∧ True) → True ∧ ∀ (b11 : Bool), (b11 = true ↔ (1 : Int) ≤ n4 ∧ n4 ≤ (5 : Int)) → ((!b11) = true → (false = true ↔ codeOk r1)) ∧ ((!b11) = false → (false = true ↔ codeOk r1))))) ∧ (b10 = false → (n4 = (1 : Int) → True ∧ ∀ (b11 : Bool), (b11 = true ↔ (1 : Int) ≤ n4 ∧ n4 ≤ (5 : Int)) → ((!b11) = true → (false = true ↔ codeOk r1)) ∧ ((!b11) = false → (n9 = (0 : Int) → inK IntKind.i64 (n3 + (1 : Int)) ∧ (r2 = r1 ∧ (0 : Int) ≤ n3 + (1 : Int) ∧ n3 + (1 : Int) ≤ (↑r2.length : Int) ∧ AllLt (insOkR (↑r2.length : Int)) r2 (n3 + (1 : Int))) ∧ ((↑r2.length : Int) - (n3 + (1 : Int))).toNat < ((↑r2.length : Int) - n3).toNat) ∧ (¬n9 = (0 : Int) → (false = true ↔ codeOk r1)))) ∧ (¬n4 = (1 : Int) → (n5 = (0 : Int) ∧ s6 = (bs []) ∧ s7 = (bs []) ∧ s8 = (bs []) ∧ True → True ∧ ∀ (b11 : Bool), (b11 = true ↔ (1 : Int) ≤ n4 ∧ n4 ≤ (5 : Int)) → ((!b11) = true → (false = true ↔ codeOk r1)) ∧ ((!b11) = false → (n9 = (0 : Int) → inK IntKind.i64 (n3 + (1 : Int)) ∧ (r2 = r1 ∧ (0 : Int) ≤ n3 + (1 : Int) ∧ n3 + (1 : Int) ≤ (↑r2.length : Int) ∧ AllLt (insOkR (↑r2.length : Int)) r2 (n3 + (1 : Int))) ∧ ((↑r2.length : Int) - (n3 + (1 : Int))).toNat < ((↑r2.length : Int) - n3).toNat) ∧ (¬n9 = (0 : Int) → (false = true ↔ codeOk r1)))) ∧ (¬(n5 = (0 : Int) ∧ s6 = (bs []) ∧ s7 = (bs []) ∧ s8 = (bs []) ∧ True) → True ∧ ∀ (b11 : Bool), (b11 = true ↔ (1 : Int) ≤ n4 ∧ n4 ≤ (5 : Int)) → ((!b11) = true → (false = true ↔ codeOk r1)) ∧ ((!b11) = false → (false = true ↔ codeOk r1)))))) ∧ (¬n4 = (3 : Int) → (n4 = (4 : Int) → inK IntKind.i64 ((↑r2.length : Int) - (1 : Int)) ∧ True ∧ ∀ (b10 : Bool), (b10 = true ↔ (0 : Int) ≤ n9 ∧ n9 ≤ (↑r2.length : Int) - (1 : Int)) → (b10 = true → (n4 = (1 : Int) → True ∧ ∀ (b11 : Bool), (b11 = true ↔ (1 : Int) ≤ n4 ∧ n4 ≤ (5 : Int)) → ((!b11) = true → (false = true ↔ codeOk r1)) ∧ ((!b11) = false → inK IntKind.i64 (n3 + (1 : Int)) ∧ (r2 = r1 ∧ (0 : Int) ≤ n3 + (1 : Int) ∧ n3 + (1 : Int) ≤ (↑r2.length : Int) ∧ AllLt (insOkR (↑r2.length : Int)) r2 (n3 + (1 : Int))) ∧ ((↑r2.length : Int) - (n3 + (1 : Int))).toNat < ((↑r2.length : Int) - n3).toNat)) ∧ (¬n4 = (1 : Int) → (n5 = (0 : Int) ∧ s6 = (bs []) ∧ s7 = (bs []) ∧ s8 = (bs []) ∧ True → True ∧ ∀ (b11 : Bool), (b11 = true ↔ (1 : Int) ≤ n4 ∧ n4 ≤ (5 : Int)) → ((!b11) = true → (false = true ↔ codeOk r1)) ∧ ((!b11) = false → inK IntKind.i64 (n3 + (1 : Int)) ∧ (r2 = r1 ∧ (0 : Int) ≤ n3 + (1 : Int) ∧ n3 + (1 : Int) ≤ (↑r2.length : Int) ∧ AllLt (insOkR (↑r2.length : Int)) r2 (n3 + (1 : Int))) ∧ ((↑r2.length : Int) - (n3 + (1 : Int))).toNat < ((↑r2.length : Int) - n3).toNat)) ∧ (¬(n5 = (0 : Int) ∧ s6 = (bs []) ∧ s7 = (bs []) ∧ s8 = (bs []) ∧ True) → True ∧ ∀ (b11 : Bool), (b11 = true ↔ (1 : Int) ≤ n4 ∧ n4 ≤ (5 : Int)) → ((!b11) = true → (false = true ↔ codeOk r1)) ∧ ((!b11) = false → (false = true ↔ codeOk r1))))) ∧ (b10 = false → (n4 = (1 : Int) → True ∧ ∀ (b11 : Bool), (b11 = true ↔ (1 : Int) ≤ n4 ∧ n4 ≤ (5 : Int)) → ((!b11) = true → (false = true ↔ codeOk r1)) ∧ ((!b11) = false → (n9 = (0 : Int) → inK IntKind.i64 (n3 + (1 : Int)) ∧ (r2 = r1 ∧ (0 : Int) ≤ n3 + (1 : Int) ∧ n3 + (1 : Int) ≤ (↑r2.length : Int) ∧ AllLt (insOkR (↑r2.length : Int)) r2 (n3 + (1 : Int))) ∧ ((↑r2.length : Int) - (n3 + (1 : Int))).toNat < ((↑r2.length : Int) - n3).toNat) ∧ (¬n9 = (0 : Int) → (false = true ↔ codeOk r1)))) ∧ (¬n4 = (1 : Int) → (n5 = (0 : Int) ∧ s6 = (bs []) ∧ s7 = (bs []) ∧ s8 = (bs []) ∧ True → True ∧ ∀ (b11 : Bool), (b11 = true ↔ (1 : Int) ≤ n4 ∧ n4 ≤ (5 : Int)) → ((!b11) = true → (false = true ↔ codeOk r1)) ∧ ((!b11) = false → (n9 = (0 : Int) → inK IntKind.i64 (n3 + (1 : Int)) ∧ (r2 = r1 ∧ (0 : Int) ≤ n3 + (1 : Int) ∧ n3 + (1 : Int) ≤ (↑r2.length : Int) ∧ AllLt (insOkR (↑r2.length : Int)) r2 (n3 + (1 : Int))) ∧ ((↑r2.length : Int) - (n3 + (1 : Int))).toNat < ((↑r2.length : Int) - n3).toNat) ∧ (¬n9 = (0 : Int) → (false = true ↔ codeOk r1)))) ∧ (¬(n5 = (0 : Int) ∧ s6 = (bs []) ∧ s7 = (bs []) ∧ s8 = (bs []) ∧ True) → True ∧ ∀ (b11 : Bool), (b11 = true ↔ (1 : Int) ≤ n4 ∧ n4 ≤ (5 : Int)) → ((!b11) = true → (false = true ↔ codeOk r1)) ∧ ((!b11) = false → (false = true ↔ codeOk r1)))))) ∧ (¬n4 = (4 : Int) → (n4 = (1 : Int) → True ∧ ∀ (b10 : Bool), (b10 = true ↔ (1 : Int) ≤ n4 ∧ n4 ≤ (5 : Int)) → ((!b10) = true → (false = true ↔ codeOk r1)) ∧ ((!b10) = false → (n9 = (0 : Int) → inK IntKind.i64 (n3 + (1 : Int)) ∧ (r2 = r1 ∧ (0 : Int) ≤ n3 + (1 : Int) ∧ n3 + (1 : Int) ≤ (↑r2.length : Int) ∧ AllLt (insOkR (↑r2.length : Int)) r2 (n3 + (1 : Int))) ∧ ((↑r2.length : Int) - (n3 + (1 : Int))).toNat < ((↑r2.length : Int) - n3).toNat) ∧ (¬n9 = (0 : Int) → (false = true ↔ codeOk r1)))) ∧ (¬n4 = (1 : Int) → (n5 = (0 : Int) ∧ s6 = (bs []) ∧ s7 = (bs []) ∧ s8 = (bs []) ∧ True → True ∧ ∀ (b10 : Bool), (b10 = true ↔ (1 : Int) ≤ n4 ∧ n4 ≤ (5 : Int)) → ((!b10) = true → (false = true ↔ codeOk r1)) ∧ ((!b10) = false → (n9 = (0 : Int) → inK IntKind.i64 (n3 + (1 : Int)) ∧ (r2 = r1 ∧ (0 : Int) ≤ n3 + (1 : Int) ∧ n3 + (1 : Int) ≤ (↑r2.length : Int) ∧ AllLt (insOkR (↑r2.length : Int)) r2 (n3 + (1 : Int))) ∧ ((↑r2.length : Int) - (n3 + (1 : Int))).toNat < ((↑r2.length : Int) - n3).toNat) ∧ (¬n9 = (0 : Int) → (false = true ↔ codeOk r1)))) ∧ (¬(n5 = (0 : Int) ∧ s6 = (bs []) ∧ s7 = (bs []) ∧ s8 = (bs []) ∧ True) → True ∧ ∀ (b10 : Bool), (b10 = true ↔ (1 : Int) ≤ n4 ∧ n4 ≤ (5 : Int)) → ((!b10) = true → (false = true ↔ codeOk r1)) ∧ ((!b10) = false → (false = true ↔ codeOk r1))))))) ∧ (¬n3 < (↑r2.length : Int) → True ∧ ∀ (b4 : Bool), (b4 = true ↔ (1 : Int) ≤ (↑r2.length : Int) ∧ (↑r2.length : Int) ≤ (20 : Int)) → (b4 = true ↔ codeOk r1))) := by kernel_rfl
set_option maxRecDepth 100000 in
set_option maxHeartbeats 200000 in
theorem t_CodeOkS   : Holds E.P E.md 31 c_CodeOkS := fn_vc (E := E) mix (vc_CodeOkS ) (hct_cons (t_l1In) (hct_nil)) (by
  try simp only [and_imp, forall_eq, Len]
  repeat' (first | (with_reducible intro _) | (with_reducible apply And.intro))
  all_goals (try subst_vars)
  all_goals first | (with_reducible assumption) | (with_reducible rfl) | omega | (simp only [List.length_append, List.length_cons, List.length_nil]; omega) | skip
  all_goals (try exact allLt_zero)
  all_goals (try simp only [Bool.not_true, Bool.not_false, reduceCtorEq, true_iff, false_iff, inK_i64] at *)
  all_goals (try omega)
  all_goals (try exact allLt_succ (by assumption) (by assumption) (insOkR_v.2 (by simp only [insOk, opNil]; grind)))
  all_goals (try exact codeOk_not (by assumption) (by simp only [insOk, opNil]; grind))
  all_goals (try exact codeOk_end (by assumption) (by assumption) (by assumption))
  all_goals (try (simp []; done))
  all_goals (try (simp only [TR_append, TR_cons, TR_nil, tyEl, inK_i64, inK_u8, and_true, true_and]; (repeat' (with_reducible apply And.intro)) <;> first | (with_reducible assumption) | omega))
  all_goals (try grind [])
  all_goals (try (simp only [List.mem_cons, List.cons.injEq, Value.string.injEq, Value.int.injEq, true_and, and_true, List.not_mem_nil, or_false] at *; grind (splits := 30) (gen := 20) [])))
def c_CodeOk1 : Ctr := { ash := [shIns, .ptr false 45 [.r .ro 114]], rsh := [.one .sb], osh := [], pq := fun k o p t d n c => (True, fun b => b = true ↔ ¬ insOk k o p t d n c.length) }
set_option maxRecDepth 100000 in
theorem vc_CodeOk1  : (fnW E [(88, c_insOk)] false 87 c_CodeOk1 (constV c_CodeOk1.ash [])).den = (∀ (n1 n2 : Int) (s3 s4 s5 : ByteArray) (n6 : Int) (r7 : List (List Value)), True → True ∧ ∀ (b8 : Bool), (b8 = true ↔ insOk n1 n2 s3 s4 s5 n6 (↑r7.length : Int)) → ((!b8) = true ↔ ¬insOk n1 n2 s3 s4 s5 n6 (↑r7.length : Int))) := by kernel_rfl
set_option maxRecDepth 100000 in
set_option maxHeartbeats 200000 in
theorem t_CodeOk1   : Holds E.P E.md 87 c_CodeOk1 := fn_vc (E := E) mix (vc_CodeOk1 ) (hct_cons (t_insOk) (hct_nil)) (by
  try simp only [and_imp, forall_eq]
  repeat' (first | (with_reducible intro _) | (with_reducible apply And.intro))
  all_goals (try subst_vars)
  all_goals first | (with_reducible assumption) | (with_reducible rfl) | omega | (simp only [List.length_append, List.length_cons, List.length_nil]; omega) | skip
  all_goals (try (simp []; done))
  all_goals (try (simp only [TR_append, TR_cons, TR_nil, tyEl, inK_i64, inK_u8, and_true, true_and]; (repeat' (with_reducible apply And.intro)) <;> first | (with_reducible assumption) | omega))
  all_goals (try grind [])
  all_goals (try (simp only [List.mem_cons, List.cons.injEq, Value.string.injEq, Value.int.injEq, true_and, and_true, List.not_mem_nil, or_false] at *; grind (splits := 30) (gen := 20) [])))
def c_IxIns : Ctr := { ash := [.one (.r .ro 114), .fn 87 [(false, 45, [.ref 0])]], rsh := [.one (.i .i64)], osh := [], pq := fun c => (TR kIns c ∧ Len c, fun n => 0 ≤ n ↔ ¬ ∀ el ∈ c, insOkR c.length el) }
set_option maxRecDepth 100000 in
theorem vc_IxIns  : (fnW E [(87, c_CodeOk1)] false 132 c_IxIns (fun _ => [⟨0, [.one (.r .ro 114), .fn 87 [(false, 45, [.ref 0])], .one (.i .i64), .one (.i .i64)], .inl fun c0 n0 _ c n i => (c = c0 ∧ n = n0 ∧ 0 ≤ i ∧ i ≤ n ∧ AllLt (insOkR c.length) c i, (c.length - i).toNat)⟩])).den = (∀ (r1 : List (List Value)), TR [Kd.i IntKind.i64, Kd.i IntKind.i64, Kd.s, Kd.s, Kd.s, Kd.i IntKind.i64] r1 ∧ Len r1 → (r1 = r1 ∧ (↑r1.length : Int) = (↑r1.length : Int) ∧ (0 : Int) ≤ (0 : Int) ∧ (0 : Int) ≤ (↑r1.length : Int) ∧ AllLt (insOkR (↑r1.length : Int)) r1 (0 : Int)) ∧ ∀ (r2 : List (List Value)) (n3 n4 : Int), r2 = r1 ∧ n3 = (↑r1.length : Int) ∧ (0 : Int) ≤ n4 ∧ n4 ≤ n3 ∧ AllLt (insOkR (↑r2.length : Int)) r2 n4 → (n4 < n3 → ((0 : Int) ≤ n4 ∧ n4 < (↑r2.length : Int)) ∧ (TR [Kd.i IntKind.i64, Kd.i IntKind.i64, Kd.s, Kd.s, Kd.s, Kd.i IntKind.i64] r2 ∧ n4.toNat < r2.length) ∧ ∀ (n5 n6 : Int) (s7 s8 s9 : ByteArray) (n10 : Int), r2[n4.toNat]? = some [Value.int IntKind.i64 n5, Value.int IntKind.i64 n6, Value.string s7, Value.string s8, Value.string s9, Value.int IntKind.i64 n10] → True ∧ ∀ (b11 : Bool), (b11 = true ↔ ¬insOk n5 n6 s7 s8 s9 n10 (↑r2.length : Int)) → (b11 = true → ((0 : Int) ≤ n4 ↔ ¬∀ (el : List Value), el ∈ r1 → insOkR (↑r1.length : Int) el)) ∧ (b11 = false → inK IntKind.i64 (n4 + (1 : Int)) ∧ (r2 = r1 ∧ n3 = (↑r1.length : Int) ∧ (0 : Int) ≤ n4 + (1 : Int) ∧ n4 + (1 : Int) ≤ n3 ∧ AllLt (insOkR (↑r2.length : Int)) r2 (n4 + (1 : Int))) ∧ ((↑r2.length : Int) - (n4 + (1 : Int))).toNat < ((↑r2.length : Int) - n4).toNat)) ∧ (¬n4 < n3 → ((0 : Int) ≤ (-1 : Int) ↔ ¬∀ (el : List Value), el ∈ r1 → insOkR (↑r1.length : Int) el))) := by kernel_rfl
set_option maxRecDepth 100000 in
set_option maxHeartbeats 200000 in
theorem t_IxIns   : Holds E.P E.md 132 c_IxIns := fn_vc (E := E) mix (vc_IxIns ) (hct_cons (t_CodeOk1) (hct_nil)) (by
  try simp only [and_imp, forall_eq, Len]
  repeat' (first | (with_reducible intro _) | (with_reducible apply And.intro))
  all_goals (try subst_vars)
  all_goals first | (with_reducible assumption) | (with_reducible rfl) | omega | (simp only [List.length_append, List.length_cons, List.length_nil]; omega) | skip
  all_goals (try exact allLt_zero)
  all_goals (try simp only [Bool.not_true, Bool.not_false, reduceCtorEq, true_iff, false_iff, inK_i64, Classical.not_not] at *)
  all_goals (try omega)
  all_goals (try exact allLt_succ (by assumption) (by assumption) (insOkR_v.2 (by assumption)))
  all_goals (try exact ⟨fun _ => all_not (by assumption) (mt insOkR_v.1 (by assumption)), fun _ => by assumption⟩)
  all_goals (try exact ⟨fun h => absurd h (by decide), fun h => absurd (allLt_end (by assumption) (by assumption)) h⟩)
  all_goals (try (simp []; done))
  all_goals (try (simp only [TR_append, TR_cons, TR_nil, tyEl, inK_i64, inK_u8, and_true, true_and]; (repeat' (with_reducible apply And.intro)) <;> first | (with_reducible assumption) | omega))
  all_goals (try grind [])
  all_goals (try (simp only [List.mem_cons, List.cons.injEq, Value.string.injEq, Value.int.injEq, true_and, and_true, List.not_mem_nil, or_false] at *; grind (splits := 30) (gen := 20) [])))
def c_HasIns : Ctr := { ash := [.one (.r .ro 114), .fn 87 [(false, 45, [.ref 0])]], rsh := [.one .sb], osh := [], pq := fun c => (TR kIns c ∧ Len c, fun b => b = true ↔ ¬ ∀ el ∈ c, insOkR c.length el) }
set_option maxRecDepth 100000 in
theorem vc_HasIns  : (fnW E [(132, c_IxIns)] false 86 c_HasIns (constV c_HasIns.ash [])).den = (∀ (r1 : List (List Value)), TR [Kd.i IntKind.i64, Kd.i IntKind.i64, Kd.s, Kd.s, Kd.s, Kd.i IntKind.i64] r1 ∧ Len r1 → (TR [Kd.i IntKind.i64, Kd.i IntKind.i64, Kd.s, Kd.s, Kd.s, Kd.i IntKind.i64] r1 ∧ Len r1) ∧ ∀ (n2 : Int), ((0 : Int) ≤ n2 ↔ ¬∀ (el : List Value), el ∈ r1 → insOkR (↑r1.length : Int) el) → ((0 : Int) ≤ n2 → (true = true ↔ ¬∀ (el : List Value), el ∈ r1 → insOkR (↑r1.length : Int) el)) ∧ (¬(0 : Int) ≤ n2 → (false = true ↔ ¬∀ (el : List Value), el ∈ r1 → insOkR (↑r1.length : Int) el))) := by kernel_rfl
set_option maxRecDepth 100000 in
set_option maxHeartbeats 200000 in
theorem t_HasIns   : Holds E.P E.md 86 c_HasIns := fn_vc (E := E) mix (vc_HasIns ) (hct_cons (t_IxIns) (hct_nil)) (by
  try simp only [and_imp, forall_eq]
  repeat' (first | (with_reducible intro _) | (with_reducible apply And.intro))
  all_goals (try subst_vars)
  all_goals first | (with_reducible assumption) | (with_reducible rfl) | omega | (simp only [List.length_append, List.length_cons, List.length_nil]; omega) | skip
  all_goals (try (simp []; done))
  all_goals (try (simp only [TR_append, TR_cons, TR_nil, tyEl, inK_i64, inK_u8, and_true, true_and]; (repeat' (with_reducible apply And.intro)) <;> first | (with_reducible assumption) | omega))
  all_goals (try grind [])
  all_goals (try (simp only [List.mem_cons, List.cons.injEq, Value.string.injEq, Value.int.injEq, true_and, and_true, List.not_mem_nil, or_false] at *; grind (splits := 30) (gen := 20) [])))
def c_CodeOkI : Ctr := { ash := [.one (.r .ro 114)], rsh := [.one .sb], osh := [], pq := fun c => (TR kIns c ∧ Len c, fun b => b = true ↔ codeOk c) }
set_option maxRecDepth 100000 in
theorem vc_CodeOkI  : (fnW E [(85, c_inI), (86, c_HasIns)] false 30 c_CodeOkI (constV c_CodeOkI.ash [])).den = (∀ (r1 : List (List Value)), TR [Kd.i IntKind.i64, Kd.i IntKind.i64, Kd.s, Kd.s, Kd.s, Kd.i IntKind.i64] r1 ∧ Len r1 → True ∧ ∀ (b2 : Bool), (b2 = true ↔ (1 : Int) ≤ (↑r1.length : Int) ∧ (↑r1.length : Int) ≤ (20 : Int)) → (b2 = true → (TR [Kd.i IntKind.i64, Kd.i IntKind.i64, Kd.s, Kd.s, Kd.s, Kd.i IntKind.i64] r1 ∧ Len r1) ∧ ∀ (b3 : Bool), (b3 = true ↔ ¬∀ (el : List Value), el ∈ r1 → insOkR (↑r1.length : Int) el) → ((!b3) = true → ((bif true then true else false) = true ↔ codeOk r1)) ∧ ((!b3) = false → ((bif true then false else false) = true ↔ codeOk r1))) ∧ (b2 = false → (false = true ↔ codeOk r1))) := by kernel_rfl
set_option maxRecDepth 100000 in
set_option maxHeartbeats 200000 in
theorem t_CodeOkI   : Holds E.P E.md 30 c_CodeOkI := fn_vc (E := E) mix (vc_CodeOkI ) (hct_cons (t_inI) (hct_cons (t_HasIns) (hct_nil))) (by
  try simp only [and_imp, forall_eq]
  repeat' (first | (with_reducible intro _) | (with_reducible apply And.intro))
  all_goals (try subst_vars)
  all_goals first | (with_reducible assumption) | (with_reducible rfl) | omega | (simp only [List.length_append, List.length_cons, List.length_nil]; omega) | skip
  all_goals (try (simp [codeOk, Len, inK_i64]; done))
  all_goals (try (simp only [TR_append, TR_cons, TR_nil, tyEl, inK_i64, inK_u8, and_true, true_and]; (repeat' (with_reducible apply And.intro)) <;> first | (with_reducible assumption) | omega))
  all_goals (try grind [codeOk, Len, inK_i64])
  all_goals (try (simp only [List.mem_cons, List.cons.injEq, Value.string.injEq, Value.int.injEq, true_and, and_true, List.not_mem_nil, or_false] at *; grind (splits := 30) (gen := 20) [codeOk, Len, inK_i64])))
def shPart : VSh := .agg [.r .ro 114, .i .i64, .r .ro 35, .sb]
def partOk (c : List (List Value)) (a : Int) (s : List (List Value)) : Prop := codeOk c ∧ 0 ≤ a ∧ a ≤ c.length - 1 ∧ s.length ≤ 300
def c_PartOkI : Ctr := { ash := [shPart], rsh := [.one .sb], osh := [], pq := fun c a s o => (TR kIns c ∧ Len c ∧ Len s, fun b => b = true ↔ partOk c a s) }
set_option maxRecDepth 100000 in
theorem vc_PartOkI  : (fnW E [(85, c_inI), (30, c_CodeOkI)] false 32 c_PartOkI (constV c_PartOkI.ash [])).den = (∀ (r1 : List (List Value)) (n2 : Int) (r3 : List (List Value)) (b4 : Bool), TR [Kd.i IntKind.i64, Kd.i IntKind.i64, Kd.s, Kd.s, Kd.s, Kd.i IntKind.i64] r1 ∧ Len r1 ∧ Len r3 → (TR [Kd.i IntKind.i64, Kd.i IntKind.i64, Kd.s, Kd.s, Kd.s, Kd.i IntKind.i64] r1 ∧ Len r1) ∧ ∀ (b5 : Bool), (b5 = true ↔ codeOk r1) → (b5 = true → inK IntKind.i64 ((↑r1.length : Int) - (1 : Int)) ∧ True ∧ ∀ (b6 : Bool), (b6 = true ↔ (0 : Int) ≤ n2 ∧ n2 ≤ (↑r1.length : Int) - (1 : Int)) → (b6 = true → ((↑r3.length : Int) ≤ (300 : Int) → ((bif bif true then true else false then true else false) = true ↔ partOk r1 n2 r3)) ∧ (¬(↑r3.length : Int) ≤ (300 : Int) → ((bif bif true then true else false then false else false) = true ↔ partOk r1 n2 r3))) ∧ (b6 = false → (false = true ↔ partOk r1 n2 r3))) ∧ (b5 = false → (false = true ↔ partOk r1 n2 r3))) := by kernel_rfl
set_option maxRecDepth 100000 in
set_option maxHeartbeats 200000 in
theorem t_PartOkI   : Holds E.P E.md 32 c_PartOkI := fn_vc (E := E) mix (vc_PartOkI ) (hct_cons (t_inI) (hct_cons (t_CodeOkI) (hct_nil))) (by
  try simp only [and_imp, forall_eq]
  repeat' (first | (with_reducible intro _) | (with_reducible apply And.intro))
  all_goals (try subst_vars)
  all_goals first | (with_reducible assumption) | (with_reducible rfl) | omega | (simp only [List.length_append, List.length_cons, List.length_nil]; omega) | skip
  all_goals (try (simp [partOk, Len, inK_i64]; done))
  all_goals (try (simp only [TR_append, TR_cons, TR_nil, tyEl, inK_i64, inK_u8, and_true, true_and]; (repeat' (with_reducible apply And.intro)) <;> first | (with_reducible assumption) | omega))
  all_goals (try grind [partOk, Len, inK_i64])
  all_goals (try (simp only [List.mem_cons, List.cons.injEq, Value.string.injEq, Value.int.injEq, true_and, and_true, List.not_mem_nil, or_false] at *; grind (splits := 30) (gen := 20) [partOk, Len, inK_i64])))
def c_PartOkS : Ctr := { ash := [shPart], rsh := [.one .sb], osh := [], pq := fun c a s o => (TR kIns c ∧ Len c ∧ Len s, fun b => b = true ↔ partOk c a s) }
set_option maxRecDepth 100000 in
theorem vc_PartOkS  : (fnW E [(89, c_l1In), (31, c_CodeOkS)] false 33 c_PartOkS (constV c_PartOkS.ash [])).den = (∀ (r1 : List (List Value)) (n2 : Int) (r3 : List (List Value)) (b4 : Bool), TR [Kd.i IntKind.i64, Kd.i IntKind.i64, Kd.s, Kd.s, Kd.s, Kd.i IntKind.i64] r1 ∧ Len r1 ∧ Len r3 → (TR [Kd.i IntKind.i64, Kd.i IntKind.i64, Kd.s, Kd.s, Kd.s, Kd.i IntKind.i64] r1 ∧ Len r1) ∧ ∀ (b5 : Bool), (b5 = true ↔ codeOk r1) → (b5 = true → inK IntKind.i64 ((↑r1.length : Int) - (1 : Int)) ∧ True ∧ ∀ (b6 : Bool), (b6 = true ↔ (0 : Int) ≤ n2 ∧ n2 ≤ (↑r1.length : Int) - (1 : Int)) → (b6 = true → ((↑r3.length : Int) ≤ (300 : Int) → ((bif bif true then true else false then true else false) = true ↔ partOk r1 n2 r3)) ∧ (¬(↑r3.length : Int) ≤ (300 : Int) → ((bif bif true then true else false then false else false) = true ↔ partOk r1 n2 r3))) ∧ (b6 = false → (false = true ↔ partOk r1 n2 r3))) ∧ (b5 = false → (false = true ↔ partOk r1 n2 r3))) := by kernel_rfl
set_option maxRecDepth 100000 in
set_option maxHeartbeats 200000 in
theorem t_PartOkS   : Holds E.P E.md 33 c_PartOkS := fn_vc (E := E) mix (vc_PartOkS ) (hct_cons (t_l1In) (hct_cons (t_CodeOkS) (hct_nil))) (by
  try simp only [and_imp, forall_eq]
  repeat' (first | (with_reducible intro _) | (with_reducible apply And.intro))
  all_goals (try subst_vars)
  all_goals first | (with_reducible assumption) | (with_reducible rfl) | omega | (simp only [List.length_append, List.length_cons, List.length_nil]; omega) | skip
  all_goals (try (simp [partOk, Len, inK_i64]; done))
  all_goals (try (simp only [TR_append, TR_cons, TR_nil, tyEl, inK_i64, inK_u8, and_true, true_and]; (repeat' (with_reducible apply And.intro)) <;> first | (with_reducible assumption) | omega))
  all_goals (try grind [partOk, Len, inK_i64])
  all_goals (try (simp only [List.mem_cons, List.cons.injEq, Value.string.injEq, Value.int.injEq, true_and, and_true, List.not_mem_nil, or_false] at *; grind (splits := 30) (gen := 20) [partOk, Len, inK_i64])))
end Go.Proofs.Ytefofjpjbogilaa
