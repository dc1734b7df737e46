/- The draws' cursor. -/
import Derived.Test.YtefofjpjbogilaaA0
import Derived.Test.YtefofjpjbogilaaLib
set_option linter.unusedVariables false
set_option linter.unusedSimpArgs false
open Go Go.Proofs.Ytefofjpjbogilaa.M
namespace Go.Proofs.Ytefofjpjbogilaa
def shCur : VSh := .ptr true 157 [.r .ro 5, .i .i64, .i .i64]
/-- What is right of a cursor. -/
def CurOk (zs : List (List Value)) (i : Int) : Prop := TR [.i .u8] zs ∧ 0 ≤ i ∧ i ≤ zs.length ∧ zs.length ≤ 1048576
def c_l1New : Ctr := { ash := [.one (.r .ro 5)], rsh := [shCur], osh := [], pq := fun zs => (TR [.i .u8] zs ∧ zs.length ≤ 1048576, fun zs' i _ => zs' = zs ∧ CurOk zs i) }
set_option maxRecDepth 100000 in
theorem vc_l1New  : (fnW E [] false 71 c_l1New (fun _ => [⟨0, [.one (.r .ro 5), .one (.i .i64), .one (.i .i64)], .inl fun zs0 _ _ zs h i => (zs = zs0 ∧ 0 ≤ h ∧ h ≤ 1099511627776 ∧ 0 ≤ i ∧ i ≤ zs.length, (4000 - i).toNat)⟩])).den = (∀ (r1 : List (List Value)), TR [Kd.i IntKind.u8] r1 ∧ r1.length ≤ (1048576 : Nat) → inK IntKind.i64 ((19109 : Int) + (↑r1.length : Int)) ∧ (r1 = r1 ∧ (0 : Int) ≤ (19109 : Int) + (↑r1.length : Int) ∧ (19109 : Int) + (↑r1.length : Int) ≤ (1099511627776 : Int) ∧ (0 : Int) ≤ (0 : Int) ∧ (0 : Int) ≤ (↑r1.length : Int)) ∧ ∀ (r2 : List (List Value)) (n3 n4 : Int), r2 = r1 ∧ (0 : Int) ≤ n3 ∧ n3 ≤ (1099511627776 : Int) ∧ (0 : Int) ≤ n4 ∧ n4 ≤ (↑r2.length : Int) → (n4 < (↑r2.length : Int) → (n4 < (4000 : Int) → inK IntKind.i64 (n3 * (131 : Int)) ∧ ((0 : Int) ≤ n4 ∧ n4 < (↑r2.length : Int)) ∧ (TR [Kd.i IntKind.u8] r2 ∧ n4.toNat < r2.length) ∧ ∀ (n5 : Int), r2[n4.toNat]? = some [Value.int IntKind.u8 n5] → inK IntKind.i64 n5 ∧ inK IntKind.i64 (n3 * (131 : Int) + n5) ∧ inK IntKind.i64 (n3 * (131 : Int) + n5 + (7 : Int)) ∧ inK IntKind.i64 (n4 + (1 : Int)) ∧ (r2 = r1 ∧ (0 : Int) ≤ andI IntKind.i64 (n3 * (131 : Int) + n5 + (7 : Int)) (1073741823 : Int) ∧ andI IntKind.i64 (n3 * (131 : Int) + n5 + (7 : Int)) (1073741823 : Int) ≤ (1099511627776 : Int) ∧ (0 : Int) ≤ n4 + (1 : Int) ∧ n4 + (1 : Int) ≤ (↑r2.length : Int)) ∧ ((4000 : Int) - (n4 + (1 : Int))).toNat < ((4000 : Int) - n4).toNat) ∧ (¬n4 < (4000 : Int) → r2 = r1 ∧ CurOk r1 (0 : Int))) ∧ (¬n4 < (↑r2.length : Int) → r2 = r1 ∧ CurOk r1 (0 : Int))) := by kernel_rfl
set_option maxRecDepth 100000 in
set_option maxHeartbeats 200000 in
theorem t_l1New   : Holds E.P E.md 71 c_l1New := fn_vc (E := E) mix (vc_l1New ) (hct_nil) (by
  rintro r1 ⟨ht, hl⟩
  simp only [inK_i64, CurOk]
  refine ⟨by omega, ⟨by trivial, by omega, by omega, by omega, by omega⟩, ?_⟩
  rintro r2 n3 n4 ⟨rfl, h1, h2, h3, h4⟩
  refine ⟨fun h5 => ⟨fun h6 => ⟨by omega, by omega, ⟨ht, by omega⟩, fun n5 hn => ?_⟩, fun h6 => ⟨by trivial, ht, by omega, by omega, hl⟩⟩, fun h5 => ⟨by trivial, ht, by omega, by omega, hl⟩⟩
  have := (TR_get ht hn).2.1
  simp only [inK_u8] at this
  have := andI_lowI (n3 * 131 + n5 + 7) 1073741823 (by omega) (by omega)
  exact ⟨by omega, by omega, by omega, by omega, ⟨by trivial, by omega, by omega, by omega, by omega⟩, by omega⟩)
def c_l1Byte : Ctr := { ash := [shCur], rsh := [.one (.i .i64)], osh := [shCur], pq := fun zs i _ => (CurOk zs i, fun n zs' i' _ => zs' = zs ∧ CurOk zs i' ∧ 0 ≤ n ∧ n < 256) }
set_option maxRecDepth 100000 in
theorem vc_l1Byte  : (fnW E [] true 126 c_l1Byte (constV c_l1Byte.ash [])).den = (∀ (r1 : List (List Value)) (n2 n3 : Int), CurOk r1 n2 → (0 : Int) ≤ (33 : Int) ∧ (0 : Int) ≤ (45 : Int) ∧ (n2 < (↑r1.length : Int) → ((0 : Int) ≤ n2 ∧ n2 < (↑r1.length : Int)) ∧ (TR [Kd.i IntKind.u8] r1 ∧ n2.toNat < r1.length) ∧ ∀ (n4 : Int), r1[n2.toNat]? = some [Value.int IntKind.u8 n4] → r1 = r1 ∧ CurOk r1 (IntKind.i64.wrap (n2 + (1 : Int))) ∧ (0 : Int) ≤ andI IntKind.i64 (IntKind.i64.wrap (andI IntKind.i64 (xorI IntKind.i64 (shrI IntKind.i64 (IntKind.i64.wrap (IntKind.i64.wrap (n3 * (6364136223846793005 : Int)) + (1442695040888963407 : Int))) (33 : Int)) (shrI IntKind.i64 (IntKind.i64.wrap (IntKind.i64.wrap (n3 * (6364136223846793005 : Int)) + (1442695040888963407 : Int))) (45 : Int))) (255 : Int) + IntKind.i64.wrap n4)) (255 : Int) ∧ andI IntKind.i64 (IntKind.i64.wrap (andI IntKind.i64 (xorI IntKind.i64 (shrI IntKind.i64 (IntKind.i64.wrap (IntKind.i64.wrap (n3 * (6364136223846793005 : Int)) + (1442695040888963407 : Int))) (33 : Int)) (shrI IntKind.i64 (IntKind.i64.wrap (IntKind.i64.wrap (n3 * (6364136223846793005 : Int)) + (1442695040888963407 : Int))) (45 : Int))) (255 : Int) + IntKind.i64.wrap n4)) (255 : Int) < (256 : Int)) ∧ (¬n2 < (↑r1.length : Int) → r1 = r1 ∧ CurOk r1 n2 ∧ (0 : Int) ≤ andI IntKind.i64 (xorI IntKind.i64 (shrI IntKind.i64 (IntKind.i64.wrap (IntKind.i64.wrap (n3 * (6364136223846793005 : Int)) + (1442695040888963407 : Int))) (33 : Int)) (shrI IntKind.i64 (IntKind.i64.wrap (IntKind.i64.wrap (n3 * (6364136223846793005 : Int)) + (1442695040888963407 : Int))) (45 : Int))) (255 : Int) ∧ andI IntKind.i64 (xorI IntKind.i64 (shrI IntKind.i64 (IntKind.i64.wrap (IntKind.i64.wrap (n3 * (6364136223846793005 : Int)) + (1442695040888963407 : Int))) (33 : Int)) (shrI IntKind.i64 (IntKind.i64.wrap (IntKind.i64.wrap (n3 * (6364136223846793005 : Int)) + (1442695040888963407 : Int))) (45 : Int))) (255 : Int) < (256 : Int))) := by kernel_rfl
set_option maxRecDepth 100000 in
set_option maxHeartbeats 200000 in
theorem t_l1Byte   : Holds E.P E.md 126 c_l1Byte := fn_vc (E := E) mix (vc_l1Byte ) (hct_nil) (by
  rintro r1 n2 n3 ⟨ht, h1, h2, h3⟩
  refine ⟨by omega, by omega, fun hlt => ⟨⟨h1, hlt⟩, ⟨ht, by omega⟩, fun n hn => ⟨rfl, ⟨ht, ?_, ?_, h3⟩, ?_, ?_⟩⟩, fun hlt => ⟨rfl, ⟨ht, h1, h2, h3⟩, ?_, ?_⟩⟩
  · rw [wrap64 (by omega)]; omega
  · rw [wrap64 (by omega)]; omega
  · exact (andI_lowI _ 255 (by omega) (by omega)).1
  · exact Int.lt_of_le_of_lt (andI_lowI _ 255 (by omega) (by omega)).2 (by omega)
  · exact (andI_lowI _ 255 (by omega) (by omega)).1
  · exact Int.lt_of_le_of_lt (andI_lowI _ 255 (by omega) (by omega)).2 (by omega))
def c_l1Below : Ctr := { ash := [shCur, .one (.i .i64)], rsh := [.one (.i .i64)], osh := [shCur], pq := fun zs i _ n => (CurOk zs i ∧ inK .i64 n, fun r zs' i' _ => zs' = zs ∧ CurOk zs i' ∧ 0 ≤ r ∧ (0 < n → r < n) ∧ (n ≤ 0 → r = 0)) }
set_option maxRecDepth 100000 in
theorem vc_l1Below  : (fnW E [(126, c_l1Byte)] false 76 c_l1Below (constV c_l1Below.ash [])).den = (∀ (r1 : List (List Value)) (n2 n3 n4 : Int), CurOk r1 n2 ∧ inK IntKind.i64 n4 → (n4 ≤ (0 : Int) → r1 = r1 ∧ CurOk r1 n2 ∧ (0 : Int) ≤ (0 : Int) ∧ ((0 : Int) < n4 → (0 : Int) < n4) ∧ (n4 ≤ (0 : Int) → (0 : Int) = (0 : Int))) ∧ (¬n4 ≤ (0 : Int) → (n4 ≤ (256 : Int) → CurOk r1 n2 ∧ ∀ (n5 : Int) (r6 : List (List Value)) (n7 n8 : Int), r6 = r1 ∧ CurOk r1 n7 ∧ (0 : Int) ≤ n5 ∧ n5 < (256 : Int) → n4 ≠ (0 : Int) ∧ r6 = r1 ∧ CurOk r1 n7 ∧ (0 : Int) ≤ n5.tmod n4 ∧ ((0 : Int) < n4 → n5.tmod n4 < n4) ∧ (n4 ≤ (0 : Int) → n5.tmod n4 = (0 : Int))) ∧ (¬n4 ≤ (256 : Int) → CurOk r1 n2 ∧ ∀ (n5 : Int) (r6 : List (List Value)) (n7 n8 : Int), r6 = r1 ∧ CurOk r1 n7 ∧ (0 : Int) ≤ n5 ∧ n5 < (256 : Int) → CurOk r6 n7 ∧ ∀ (n9 : Int) (r10 : List (List Value)) (n11 n12 : Int), r10 = r6 ∧ CurOk r6 n11 ∧ (0 : Int) ≤ n9 ∧ n9 < (256 : Int) → CurOk r10 n11 ∧ ∀ (n13 : Int) (r14 : List (List Value)) (n15 n16 : Int), r14 = r10 ∧ CurOk r10 n15 ∧ (0 : Int) ≤ n13 ∧ n13 < (256 : Int) → CurOk r14 n15 ∧ ∀ (n17 : Int) (r18 : List (List Value)) (n19 n20 : Int), r18 = r14 ∧ CurOk r14 n19 ∧ (0 : Int) ≤ n17 ∧ n17 < (256 : Int) → inK IntKind.i64 (n5 * (16777216 : Int)) ∧ inK IntKind.i64 (n9 * (65536 : Int)) ∧ inK IntKind.i64 (n5 * (16777216 : Int) + n9 * (65536 : Int)) ∧ inK IntKind.i64 (n13 * (256 : Int)) ∧ inK IntKind.i64 (n5 * (16777216 : Int) + n9 * (65536 : Int) + n13 * (256 : Int)) ∧ inK IntKind.i64 (n5 * (16777216 : Int) + n9 * (65536 : Int) + n13 * (256 : Int) + n17) ∧ n4 ≠ (0 : Int) ∧ r18 = r1 ∧ CurOk r1 n19 ∧ (0 : Int) ≤ (n5 * (16777216 : Int) + n9 * (65536 : Int) + n13 * (256 : Int) + n17).tmod n4 ∧ ((0 : Int) < n4 → (n5 * (16777216 : Int) + n9 * (65536 : Int) + n13 * (256 : Int) + n17).tmod n4 < n4) ∧ (n4 ≤ (0 : Int) → (n5 * (16777216 : Int) + n9 * (65536 : Int) + n13 * (256 : Int) + n17).tmod n4 = (0 : Int))))) := by kernel_rfl
set_option maxRecDepth 100000 in
set_option maxHeartbeats 200000 in
theorem t_l1Below   : Holds E.P E.md 76 c_l1Below := fn_vc (E := E) mix (vc_l1Below ) (hct_cons (t_l1Byte) (hct_nil)) (by
  rintro r1 n2 n3 n4 ⟨hc, h4⟩
  refine ⟨fun h => ⟨rfl, hc, by omega, by omega, by omega⟩, fun h => ⟨fun h2 => ⟨hc, ?_⟩, fun h2 => ⟨hc, ?_⟩⟩⟩
  · rintro n5 r6 n7 n8 ⟨rfl, hc, h5, h6⟩
    have := tmod_lt (b := n4) h5 (by omega)
    exact ⟨by omega, rfl, hc, by omega, by omega, by omega⟩
  · rintro a r6 n7 n8 ⟨rfl, hc, h5, h6⟩
    refine ⟨hc, ?_⟩
    rintro b r6 n7 n8 ⟨rfl, hc, h7, h8⟩
    refine ⟨hc, ?_⟩
    rintro c r6 n7 n8 ⟨rfl, hc, h9, h10⟩
    refine ⟨hc, ?_⟩
    rintro d r6 n7 n8 ⟨rfl, hc, h11, h12⟩
    simp only [inK_i64]
    have := tmod_lt (a := a * 16777216 + b * 65536 + c * 256 + d) (b := n4) (by omega) (by omega)
    exact ⟨by omega, by omega, by omega, by omega, by omega, by omega, by omega, trivial, hc, by omega, by omega, by omega⟩)
def c_l1Once : Ctr := { ash := [shCur, .one (.i .i64)], rsh := [.one .b], osh := [shCur], pq := fun zs i _ n => (CurOk zs i ∧ inK .i64 n, fun _ zs' i' _ => zs' = zs ∧ CurOk zs i') }
set_option maxRecDepth 100000 in
theorem vc_l1Once  : (fnW E [(76, c_l1Below)] false 127 c_l1Once (constV c_l1Once.ash [])).den = (∀ (r1 : List (List Value)) (n2 n3 n4 : Int), CurOk r1 n2 ∧ inK IntKind.i64 n4 → (CurOk r1 n2 ∧ inK IntKind.i64 n4) ∧ ∀ (n5 : Int) (r6 : List (List Value)) (n7 n8 : Int), r6 = r1 ∧ CurOk r1 n7 ∧ (0 : Int) ≤ n5 ∧ ((0 : Int) < n4 → n5 < n4) ∧ (n4 ≤ (0 : Int) → n5 = (0 : Int)) → (n5 = (0 : Int) → r6 = r1 ∧ CurOk r1 n7) ∧ (¬n5 = (0 : Int) → r6 = r1 ∧ CurOk r1 n7)) := by kernel_rfl
set_option maxRecDepth 100000 in
set_option maxHeartbeats 200000 in
theorem t_l1Once   : Holds E.P E.md 127 c_l1Once := fn_vc (E := E) mix (vc_l1Once ) (hct_cons (t_l1Below) (hct_nil)) (by
  try simp only [and_imp, forall_eq]
  repeat' (first | (with_reducible intro _) | (with_reducible apply And.intro))
  all_goals (try subst_vars)
  all_goals first | (with_reducible assumption) | (with_reducible rfl) | omega | (simp only [List.length_append, List.length_cons, List.length_nil]; omega) | skip
  all_goals (try (simp []; done))
  all_goals (try (simp only [TR_append, TR_cons, TR_nil, tyEl, inK_i64, inK_u8, and_true, true_and]; (repeat' (with_reducible apply And.intro)) <;> first | (with_reducible assumption) | omega))
  all_goals (try grind [])
  all_goals (try (simp only [List.mem_cons, List.cons.injEq, Value.string.injEq, Value.int.injEq, true_and, and_true, List.not_mem_nil, or_false] at *; grind (splits := 30) (gen := 20) [])))
/-- What may be drawn from. -/
def StrsOk (xs : List (List Value)) : Prop := TR [.s] xs ∧ 0 < xs.length ∧ xs.length ≤ 1000000
def IntsOk (xs : List (List Value)) : Prop := TR [.i .i64] xs ∧ 0 < xs.length ∧ xs.length ≤ 1000000
def c_l1Pick : Ctr := { ash := [shCur, .one (.r .ro 9)], rsh := [.one .s], osh := [shCur], pq := fun zs i _ xs => (CurOk zs i ∧ StrsOk xs, fun s zs' i' _ => zs' = zs ∧ CurOk zs i' ∧ [.string s] ∈ xs) }
set_option maxRecDepth 100000 in
theorem vc_l1Pick  : (fnW E [(76, c_l1Below)] false 128 c_l1Pick (constV c_l1Pick.ash [])).den = (∀ (r1 : List (List Value)) (n2 n3 : Int) (r4 : List (List Value)), CurOk r1 n2 ∧ StrsOk r4 → (CurOk r1 n2 ∧ inK IntKind.i64 (↑r4.length : Int)) ∧ ∀ (n5 : Int) (r6 : List (List Value)) (n7 n8 : Int), r6 = r1 ∧ CurOk r1 n7 ∧ (0 : Int) ≤ n5 ∧ ((0 : Int) < (↑r4.length : Int) → n5 < (↑r4.length : Int)) ∧ ((↑r4.length : Int) ≤ (0 : Int) → n5 = (0 : Int)) → ((0 : Int) ≤ n5 ∧ n5 < (↑r4.length : Int)) ∧ (TR [Kd.s] r4 ∧ n5.toNat < r4.length) ∧ ∀ (s9 : ByteArray), r4[n5.toNat]? = some [Value.string s9] → r6 = r1 ∧ CurOk r1 n7 ∧ [Value.string s9] ∈ r4) := by kernel_rfl
set_option maxRecDepth 100000 in
set_option maxHeartbeats 200000 in
theorem t_l1Pick   : Holds E.P E.md 128 c_l1Pick := fn_vc (E := E) mix (vc_l1Pick ) (hct_cons (t_l1Below) (hct_nil)) (by
  try simp only [and_imp, forall_eq]
  repeat' (first | (with_reducible intro _) | (with_reducible apply And.intro))
  all_goals (try subst_vars)
  all_goals first | (with_reducible assumption) | (with_reducible rfl) | omega | (simp only [List.length_append, List.length_cons, List.length_nil]; omega) | skip
  all_goals (try (simp [inK_i64, getElem_mem', StrsOk, IntsOk]; done))
  all_goals (try (simp only [TR_append, TR_cons, TR_nil, tyEl, inK_i64, inK_u8, and_true, true_and]; (repeat' (with_reducible apply And.intro)) <;> first | (with_reducible assumption) | omega))
  all_goals (try grind [inK_i64, getElem_mem', StrsOk, IntsOk])
  all_goals (try (simp only [List.mem_cons, List.cons.injEq, Value.string.injEq, Value.int.injEq, true_and, and_true, List.not_mem_nil, or_false] at *; grind (splits := 30) (gen := 20) [inK_i64, getElem_mem', StrsOk, IntsOk])))
def c_l1PickInt : Ctr := { ash := [shCur, .one (.r .ro 3)], rsh := [.one (.i .i64)], osh := [shCur], pq := fun zs i _ xs => (CurOk zs i ∧ IntsOk xs, fun n zs' i' _ => zs' = zs ∧ CurOk zs i' ∧ [.int .i64 n] ∈ xs) }
set_option maxRecDepth 100000 in
theorem vc_l1PickInt  : (fnW E [(76, c_l1Below)] false 129 c_l1PickInt (constV c_l1PickInt.ash [])).den = (∀ (r1 : List (List Value)) (n2 n3 : Int) (r4 : List (List Value)), CurOk r1 n2 ∧ IntsOk r4 → (CurOk r1 n2 ∧ inK IntKind.i64 (↑r4.length : Int)) ∧ ∀ (n5 : Int) (r6 : List (List Value)) (n7 n8 : Int), r6 = r1 ∧ CurOk r1 n7 ∧ (0 : Int) ≤ n5 ∧ ((0 : Int) < (↑r4.length : Int) → n5 < (↑r4.length : Int)) ∧ ((↑r4.length : Int) ≤ (0 : Int) → n5 = (0 : Int)) → ((0 : Int) ≤ n5 ∧ n5 < (↑r4.length : Int)) ∧ (TR [Kd.i IntKind.i64] r4 ∧ n5.toNat < r4.length) ∧ ∀ (n9 : Int), r4[n5.toNat]? = some [Value.int IntKind.i64 n9] → r6 = r1 ∧ CurOk r1 n7 ∧ [Value.int IntKind.i64 n9] ∈ r4) := by kernel_rfl
set_option maxRecDepth 100000 in
set_option maxHeartbeats 200000 in
theorem t_l1PickInt   : Holds E.P E.md 129 c_l1PickInt := fn_vc (E := E) mix (vc_l1PickInt ) (hct_cons (t_l1Below) (hct_nil)) (by
  try simp only [and_imp, forall_eq]
  repeat' (first | (with_reducible intro _) | (with_reducible apply And.intro))
  all_goals (try subst_vars)
  all_goals first | (with_reducible assumption) | (with_reducible rfl) | omega | (simp only [List.length_append, List.length_cons, List.length_nil]; omega) | skip
  all_goals (try (simp [inK_i64, getElem_mem', StrsOk, IntsOk]; done))
  all_goals (try (simp only [TR_append, TR_cons, TR_nil, tyEl, inK_i64, inK_u8, and_true, true_and]; (repeat' (with_reducible apply And.intro)) <;> first | (with_reducible assumption) | omega))
  all_goals (try grind [inK_i64, getElem_mem', StrsOk, IntsOk])
  all_goals (try (simp only [List.mem_cons, List.cons.injEq, Value.string.injEq, Value.int.injEq, true_and, and_true, List.not_mem_nil, or_false] at *; grind (splits := 30) (gen := 20) [inK_i64, getElem_mem', StrsOk, IntsOk])))
def c_l1DrawText : Ctr := { ash := [shCur], rsh := [.one .s], osh := [shCur], pq := fun zs i _ => (CurOk zs i, fun s zs' i' _ => zs' = zs ∧ CurOk zs i' ∧ s.size ≤ 401) }
set_option maxRecDepth 100000 in
theorem vc_l1DrawText  : (fnW E [(76, c_l1Below), (127, c_l1Once), (128, c_l1Pick)] false 77 c_l1DrawText (fun _ _ _ => [⟨0, [shCur, .one (.pref 1), .one (.s)], .inl fun zs0 _ _ _ zs i _ s => (zs = zs0 ∧ CurOk zs i ∧ s.size ≤ 401, 401 - s.size)⟩])).den = (∀ (r1 : List (List Value)) (n2 n3 : Int), CurOk r1 n2 → (CurOk r1 n2 ∧ inK IntKind.i64 (20 : Int)) ∧ (∀ (r4 : List (List Value)) (n5 n6 : Int), r4 = r1 ∧ CurOk r1 n5 → (r4 = r4 ∧ CurOk r4 n5 ∧ (0 : Nat) ≤ (401 : Nat)) ∧ ∀ (r7 : List (List Value)) (n8 n9 : Int) (s10 : ByteArray), r7 = r4 ∧ CurOk r7 n8 ∧ s10.size ≤ (401 : Nat) → (CurOk r7 n8 ∧ inK IntKind.i64 (2 : Int)) ∧ ∀ (n11 : Int) (r12 : List (List Value)) (n13 n14 : Int), r12 = r7 ∧ CurOk r7 n13 ∧ (0 : Int) ≤ n11 ∧ ((0 : Int) < (2 : Int) → n11 < (2 : Int)) ∧ ((2 : Int) ≤ (0 : Int) → n11 = (0 : Int)) → inK IntKind.i64 ((400 : Int) + n11) ∧ ((↑s10.size : Int) < (400 : Int) + n11 → s10.size + (1 : Nat) ≤ (9223372036854775807 : Nat) ∧ (r12 = r4 ∧ CurOk r12 n13 ∧ (s10 ++ (bs [113])).size ≤ (401 : Nat)) ∧ (401 : Nat) - (s10 ++ (bs [113])).size < (401 : Nat) - s10.size) ∧ (¬(↑s10.size : Int) < (400 : Int) + n11 → r12 = r1 ∧ CurOk r1 n13 ∧ s10.size ≤ (401 : Nat))) ∧ ∀ (r4 : List (List Value)) (n5 n6 : Int), r4 = r1 ∧ CurOk r1 n5 → (CurOk r4 n5 ∧ StrsOk [[Value.string (bs [])], [Value.string (bs [97])], [Value.string (bs [104, 101, 108, 108, 111])], [Value.string (bs [116, 119, 111, 32, 119, 111, 114, 100, 115])], [Value.string (bs [0, 255])], [Value.string (bs [100])], [Value.string (bs [102, 100, 97, 116, 97])]]) ∧ ∀ (s7 : ByteArray) (r8 : List (List Value)) (n9 n10 : Int), r8 = r4 ∧ CurOk r4 n9 ∧ [Value.string s7] ∈ [[Value.string (bs [])], [Value.string (bs [97])], [Value.string (bs [104, 101, 108, 108, 111])], [Value.string (bs [116, 119, 111, 32, 119, 111, 114, 100, 115])], [Value.string (bs [0, 255])], [Value.string (bs [100])], [Value.string (bs [102, 100, 97, 116, 97])]] → r8 = r1 ∧ CurOk r1 n9 ∧ s7.size ≤ (401 : Nat)) := by kernel_rfl
set_option maxRecDepth 100000 in
set_option maxHeartbeats 200000 in
theorem t_l1DrawText   : Holds E.P E.md 77 c_l1DrawText := fn_vc (E := E) mix (vc_l1DrawText ) (hct_cons (t_l1Below) (hct_cons (t_l1Once) (hct_cons (t_l1Pick) (hct_nil)))) (by
  try simp only [and_imp, forall_eq]
  repeat' (first | (with_reducible intro _) | (with_reducible apply And.intro))
  all_goals (try subst_vars)
  all_goals first | (with_reducible assumption) | (with_reducible rfl) | omega | (simp only [List.length_append, List.length_cons, List.length_nil]; omega) | skip
  all_goals (try (simp [inK_i64, bs_size, ByteArray.size_append, TR_cons, TR_nil, tyEl, StrsOk, IntsOk]; done))
  all_goals (try (simp only [TR_append, TR_cons, TR_nil, tyEl, inK_i64, inK_u8, and_true, true_and]; (repeat' (with_reducible apply And.intro)) <;> first | (with_reducible assumption) | omega))
  all_goals (try grind [inK_i64, bs_size, ByteArray.size_append, TR_cons, TR_nil, tyEl, StrsOk, IntsOk])
  all_goals (try (simp only [List.mem_cons, List.cons.injEq, Value.string.injEq, Value.int.injEq, true_and, and_true, List.not_mem_nil, or_false] at *; grind (splits := 30) (gen := 20) [inK_i64, bs_size, ByteArray.size_append, TR_cons, TR_nil, tyEl, StrsOk, IntsOk])))
end Go.Proofs.Ytefofjpjbogilaa
