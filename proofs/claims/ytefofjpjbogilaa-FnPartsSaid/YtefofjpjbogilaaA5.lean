/- A step of a program. -/
import Derived.Test.YtefofjpjbogilaaA4
set_option linter.unusedVariables false
set_option linter.unusedSimpArgs false
open Go Go.Proofs.Ytefofjpjbogilaa.M
namespace Go.Proofs.Ytefofjpjbogilaa
structure SR where
  a : Int
  s : List (List Value)
  o : Bool
  k : List (List Value)
  t : List (List Value)
  ok : Bool
/-- The last thing that was noted is done. -/
def lastDone (s : List (List Value)) : Prop := match s[s.length - 1]? with | some [.int .i64 k, .string _] => k = 0 | _ => False
open Classical in
/-- What a place does. -/
noncomputable def insP (len : Int) (a : Int) (s k t : List (List Value)) (kind : Int) (op : List Value) (n : Int) : SR :=
  if kind = 1 then (if k.length = 3 then ⟨a, s, false, k, t, false⟩ else ⟨(goP len a (a + 1) false).1, s, (goP len a (a + 1) false).2, k ++ [op], t, true⟩)
  else if kind = 2 then (if t.length = 0 ∨ 300 ≤ s.length then ⟨a, s, false, k, t, false⟩ else ⟨(goP len a (a + 1) false).1, s ++ t.take 1, (goP len a (a + 1) false).2, k, t.drop 1, true⟩)
  else if kind = 3 then ⟨(goP len a n false).1, s, (goP len a n false).2, k, t, true⟩
  else if kind = 4 then (if lastDone s then ⟨(goP len a n false).1, s, (goP len a n false).2, k, t, true⟩ else ⟨(goP len a (a + 1) false).1, s, (goP len a (a + 1) false).2, k, t, true⟩)
  else ⟨a, s, true, k, t, true⟩
def StepOk (c : List (List Value)) (a : Int) (s k t : List (List Value)) (r : SR) : Prop := ∃ kd o p x d n, c[a.toNat]? = some (vIns kd o p x d n) ∧ r = insP c.length a s k t kd (vOp o p x d) n
/-- A step. -/
def StepR (c : List (List Value)) (a : Int) (s : List (List Value)) (o : Bool) (k t : List (List Value)) (r : SR) : Prop :=
  (partOk c a s ∧ pOk k t ∧ o = false → StepOk c a s k t r) ∧ (¬ (partOk c a s ∧ pOk k t ∧ o = false) → r = ⟨a, s, o, k, t, false⟩)
def StepIn (c s k t : List (List Value)) : Prop := TR kIns c ∧ Len c ∧ TR kTell s ∧ Len s ∧ TR kOp k ∧ Len k ∧ TR kTell t ∧ Len t
theorem stepR_det {c : List (List Value)} {a : Int} {s : List (List Value)} {o : Bool} {k t : List (List Value)} {r r' : SR} (h : StepR c a s o k t r) (h' : StepR c a s o k t r') : r = r' := by
  by_cases hc : partOk c a s ∧ pOk k t ∧ o = false
  · obtain ⟨kd, op, p, x, d, n, h1, rfl⟩ := h.1 hc
    obtain ⟨kd', op', p', x', d', n', h2, rfl⟩ := h'.1 hc
    rw [h1] at h2
    simp only [Option.some.injEq, List.cons.injEq, Value.int.injEq, Value.string.injEq, true_and, and_true] at h2
    obtain ⟨rfl, rfl, rfl, rfl, rfl, rfl⟩ := h2
    rfl
  · rw [h.2 hc, h'.2 hc]
open Classical in
/-- The step, as a function. -/
noncomputable def stepF (c : List (List Value)) (a : Int) (s : List (List Value)) (o : Bool) (k t : List (List Value)) : SR := if h : ∃ r, StepR c a s o k t r then h.choose else ⟨a, s, o, k, t, false⟩
theorem stepF_eq {c : List (List Value)} {a : Int} {s : List (List Value)} {o : Bool} {k t : List (List Value)} {r : SR} (h : StepR c a s o k t r) : stepF c a s o k t = r := by
  have he : ∃ r, StepR c a s o k t r := ⟨r, h⟩
  unfold stepF
  rw [dif_pos he]
  exact stepR_det he.choose_spec h
def StepE (c : List (List Value)) (a : Int) (s : List (List Value)) (o : Bool) (k t : List (List Value)) (a' : Int) (s' : List (List Value)) (o' : Bool) (k' t' : List (List Value)) (ok : Bool) : Prop :=
  a' = (stepF c a s o k t).a ∧ s' = (stepF c a s o k t).s ∧ o' = (stepF c a s o k t).o ∧ k' = (stepF c a s o k t).k ∧ t' = (stepF c a s o k t).t ∧ ok = (stepF c a s o k t).ok
theorem stepE_of {c : List (List Value)} {a : Int} {s : List (List Value)} {o : Bool} {k t : List (List Value)} {a' : Int} {s' : List (List Value)} {o' : Bool} {k' t' : List (List Value)} {ok : Bool} (h : StepR c a s o k t ⟨a', s', o', k', t', ok⟩) : StepE c a s o k t a' s' o' k' t' ok := by
  unfold StepE
  rw [stepF_eq h]
  exact ⟨rfl, rfl, rfl, rfl, rfl, rfl⟩
theorem step_ex {c : List (List Value)} {a : Int} {s k t : List (List Value)} (o : Bool) (hin : StepIn c s k t) : StepR c a s o k t (stepF c a s o k t) := by
  have : ∃ r, StepR c a s o k t r := by
    by_cases hc : partOk c a s ∧ pOk k t ∧ o = false
    · have h1 := hc.1
      have hlt : a.toNat < c.length := by have := h1.2; omega
      have hty := hin.1 _ (List.getElem_mem hlt)
      have : ∃ kd o p x d n, c[a.toNat] = vIns kd o p x d n :=
        genEl_ok (ks := kIns) (K := fun el => VC.fin (∃ kd o p x d n, el = vIns kd o p x d n)) (fun kd o p x d n => ⟨kd, o, p, x, d, n, rfl⟩) hty
      obtain ⟨kd, o1, p, x, d, n, he⟩ := this
      exact ⟨_, fun _ => ⟨kd, o1, p, x, d, n, by rw [List.getElem?_eq_getElem hlt, he], rfl⟩, fun h => absurd hc h⟩
    · exact ⟨⟨a, s, o, k, t, false⟩, fun h => absurd h hc, fun _ => rfl⟩
  obtain ⟨r, hr⟩ := this
  rw [stepF_eq hr]
  exact hr
/-- What a step leaves. -/
structure StepP (c : List (List Value)) (a : Int) (s k t : List (List Value)) (r : SR) : Prop where
  ts : TR kTell r.s
  tk : TR kOp r.k
  tt : TR kTell r.t
  sl : r.s.length ≤ s.length + 1
  k1 : k.length ≤ r.k.length
  k2 : r.k.length ≤ k.length + 1
  tl : r.t.length ≤ t.length
  no : r.ok = false → r.a = a ∧ r.s = s ∧ r.k = k ∧ r.t = t
  yes : r.ok = true → partOk c r.a r.s ∧ pOk r.k r.t
theorem goP_in {len a to : Int} {o : Bool} (h0 : 0 ≤ a) (h1 : a ≤ len - 1) (ht : 0 ≤ to) : 0 ≤ (goP len a to o).1 ∧ (goP len a to o).1 ≤ len - 1 := by
  unfold goP
  split <;> simp <;> omega
theorem step_p {c : List (List Value)} {a : Int} {s k t : List (List Value)} (o : Bool) (hin : StepIn c s k t) : StepP c a s k t (stepF c a s o k t) := by
  have h := step_ex (a := a) o hin
  generalize stepF c a s o k t = r at h
  obtain ⟨hc1, hc2, hs1, hs2, hk1, hk2, ht1, ht2⟩ := hin
  have same : StepP c a s k t ⟨a, s, o, k, t, false⟩ := ⟨hs1, hk1, ht1, Nat.le_succ _, Nat.le_refl _, Nat.le_succ _, Nat.le_refl _, fun _ => ⟨rfl, rfl, rfl, rfl⟩, fun h => (Bool.noConfusion h)⟩
  by_cases hc : partOk c a s ∧ pOk k t ∧ o = false
  · obtain ⟨kd, op, p, x, d, n, h1, rfl⟩ := h.1 hc
    obtain ⟨⟨hco, ha0, ha1, hsl⟩, ⟨hkl, htl⟩, rfl⟩ := hc
    have hty := TR_get hc1 h1
    have hop : tyEl kOp (vOp op p x d) := ⟨rfl, hty.2.2.2.1, trivial⟩
    have hin2 := insOkR_v.1 (hco.1 _ (List.mem_of_getElem? h1))
    have g1 := goP_in (o := false) ha0 ha1 (show 0 ≤ a + 1 by omega)
    unfold insP
    split
    · split
      · exact same
      · exact ⟨hs1, TR_append.2 ⟨hk1, TR_cons.2 ⟨hop, TR_nil⟩⟩, ht1, by simp, by simp, by simp, Nat.le_refl _, fun h => (Bool.noConfusion h), fun _ => ⟨⟨hco, g1.1, g1.2, hsl⟩, by simp; omega, htl⟩⟩
    · split
      · split
        · exact same
        · rename_i hn
          exact ⟨TR_append.2 ⟨hs1, TR_take ht1 _⟩, hk1, TR_drop ht1 _, by simp; omega, by simp, by simp, by simp, fun h => (Bool.noConfusion h), fun _ => ⟨⟨hco, g1.1, g1.2, by simp; omega⟩, hkl, by simp; omega⟩⟩
      · split
        · have hn : 0 ≤ n := by
            rcases hin2 with h | h | h
            · omega
            · exact h.2.2.1
            · omega
          have g2 := goP_in (o := false) ha0 ha1 hn
          exact ⟨hs1, hk1, ht1, Nat.le_succ _, Nat.le_refl _, Nat.le_succ _, Nat.le_refl _, fun h => (Bool.noConfusion h), fun _ => ⟨⟨hco, g2.1, g2.2, hsl⟩, hkl, htl⟩⟩
        · split
          · have hn : 0 ≤ n := by
              rcases hin2 with h | h | h
              · omega
              · exact h.2.2.1
              · omega
            have g2 := goP_in (o := false) ha0 ha1 hn
            split
            · exact ⟨hs1, hk1, ht1, Nat.le_succ _, Nat.le_refl _, Nat.le_succ _, Nat.le_refl _, fun h => (Bool.noConfusion h), fun _ => ⟨⟨hco, g2.1, g2.2, hsl⟩, hkl, htl⟩⟩
            · exact ⟨hs1, hk1, ht1, Nat.le_succ _, Nat.le_refl _, Nat.le_succ _, Nat.le_refl _, fun h => (Bool.noConfusion h), fun _ => ⟨⟨hco, g1.1, g1.2, hsl⟩, hkl, htl⟩⟩
          · exact ⟨hs1, hk1, ht1, Nat.le_succ _, Nat.le_refl _, Nat.le_succ _, Nat.le_refl _, fun h => (Bool.noConfusion h), fun _ => ⟨⟨hco, ha0, ha1, hsl⟩, hkl, htl⟩⟩
  · rw [h.2 hc]
    exact same
def shPartR : VSh := .agg [.r .ro 114, .i .i64, .r .ro 35, .sb]
def c_partStepI : Ctr := { ash := [shPart, shPort], rsh := [shPartR, shPort, .one .sb], osh := [], pq := fun c a s o k t => (StepIn c s k t ∧ partOk c a s ∧ pOk k t ∧ o = false, fun c' a' s' o' k' t' ok => c' = c ∧ StepOk c a s k t ⟨a', s', o', k', t', ok⟩) }
set_option maxRecDepth 100000 in
theorem vc_partStepI  : (fnW E [(79, c_clonePart), (11, c_SendI), (19, c_HearI), (74, c_clonePort), (131, c_goOn)] false 80 c_partStepI (constV c_partStepI.ash [])).den = (∀ (r1 : List (List Value)) (n2 : Int) (r3 : List (List Value)) (b4 : Bool) (r5 r6 : List (List Value)), StepIn r1 r3 r5 r6 ∧ partOk r1 n2 r3 ∧ pOk r5 r6 ∧ b4 = false → (Len r1 ∧ Len r3) ∧ ∀ (r7 : List (List Value)) (n8 : Int) (r9 : List (List Value)) (b10 : Bool), r7 = r1 ∧ n8 = n2 ∧ r9 = r3 ∧ b10 = b4 → ((0 : Int) ≤ n2 ∧ n2 < (↑r1.length : Int)) ∧ (TR [Kd.i IntKind.i64, Kd.i IntKind.i64, Kd.s, Kd.s, Kd.s, Kd.i IntKind.i64] r1 ∧ n2.toNat < r1.length) ∧ ∀ (n11 n12 : Int) (s13 s14 s15 : ByteArray) (n16 : Int), r1[n2.toNat]? = some [Value.int IntKind.i64 n11, Value.int IntKind.i64 n12, Value.string s13, Value.string s14, Value.string s15, Value.int IntKind.i64 n16] → (n11 = (1 : Int) → (Len r5 ∧ Len r6) ∧ ∀ (r17 r18 : List (List Value)) (b19 : Bool), (b19 = true ↔ pOk r5 r6 ∧ r5.length ≠ (3 : Nat)) ∧ r18 = r6 ∧ (b19 = true → r17 = r5 ++ [[Value.int IntKind.i64 n12, Value.string s13, Value.string s14, Value.string s15]]) ∧ (b19 = false → r17 = r5) → ((!b19) = true → r7 = r1 ∧ StepOk r1 n2 r3 r5 r6 { a := n8, s := r9, o := b10, k := r17, t := r18, ok := false }) ∧ ((!b19) = false → inK IntKind.i64 (n2 + (1 : Int)) ∧ True ∧ ∀ (r20 : List (List Value)) (n21 : Int) (r22 : List (List Value)) (b23 : Bool) (n24 : Int) (b25 : Bool), r20 = r7 ∧ n21 = (goP (↑r7.length : Int) n8 (n2 + (1 : Int)) b10).fst ∧ b23 = (goP (↑r7.length : Int) n8 (n2 + (1 : Int)) b10).snd ∧ r22 = r9 → r20 = r1 ∧ StepOk r1 n2 r3 r5 r6 { a := n21, s := r22, o := b23, k := r17, t := r18, ok := true })) ∧ (¬n11 = (1 : Int) → (n11 = (2 : Int) → (Len r5 ∧ Len r6 ∧ TR [Kd.i IntKind.i64, Kd.s] r6) ∧ ∀ (r17 r18 : List (List Value)) (n19 : Int) (s20 : ByteArray) (b21 : Bool), (b21 = true ↔ pOk r5 r6 ∧ (0 : Nat) < r6.length) ∧ r17 = r5 ∧ (b21 = true → r6 = [Value.int IntKind.i64 n19, Value.string s20] :: r18) ∧ (b21 = false → r18 = r6) → ((!b21) = true → (Len r5 ∧ Len r6) ∧ ∀ (r22 r23 : List (List Value)), r22 = r5 ∧ r23 = r6 → r7 = r1 ∧ StepOk r1 n2 r3 r5 r6 { a := n8, s := r9, o := b10, k := r22, t := r23, ok := false }) ∧ ((!b21) = false → ((300 : Int) ≤ (↑r3.length : Int) → (Len r5 ∧ Len r6) ∧ ∀ (r22 r23 : List (List Value)), r22 = r5 ∧ r23 = r6 → r7 = r1 ∧ StepOk r1 n2 r3 r5 r6 { a := n8, s := r9, o := b10, k := r22, t := r23, ok := false }) ∧ (¬(300 : Int) ≤ (↑r3.length : Int) → ((r9.length + [[Value.int IntKind.i64 n19, Value.string s20]].length) * (24 : Nat) ≤ (140737488355328 : Nat) ∧ r9.length + [[Value.int IntKind.i64 n19, Value.string s20]].length ≤ (140737488355328 : Nat)) ∧ inK IntKind.i64 (n2 + (1 : Int)) ∧ True ∧ ∀ (r22 : List (List Value)) (n23 : Int) (r24 : List (List Value)) (b25 : Bool) (n26 : Int) (b27 : Bool), r22 = r7 ∧ n23 = (goP (↑r7.length : Int) n8 (n2 + (1 : Int)) b10).fst ∧ b25 = (goP (↑r7.length : Int) n8 (n2 + (1 : Int)) b10).snd ∧ r24 = r9 ++ [[Value.int IntKind.i64 n19, Value.string s20]] → r22 = r1 ∧ StepOk r1 n2 r3 r5 r6 { a := n23, s := r24, o := b25, k := r17, t := r18, ok := true }))) ∧ (¬n11 = (2 : Int) → (n11 = (3 : Int) → True ∧ ∀ (r17 : List (List Value)) (n18 : Int) (r19 : List (List Value)) (b20 : Bool) (n21 : Int) (b22 : Bool), r17 = r7 ∧ n18 = (goP (↑r7.length : Int) n8 n16 b10).fst ∧ b20 = (goP (↑r7.length : Int) n8 n16 b10).snd ∧ r19 = r9 → (Len r5 ∧ Len r6) ∧ ∀ (r23 r24 : List (List Value)), r23 = r5 ∧ r24 = r6 → r17 = r1 ∧ StepOk r1 n2 r3 r5 r6 { a := n18, s := r19, o := b20, k := r23, t := r24, ok := true }) ∧ (¬n11 = (3 : Int) → (n11 = (4 : Int) → ((0 : Int) < (↑r3.length : Int) → inK IntKind.i64 ((↑r3.length : Int) - (1 : Int)) ∧ ((0 : Int) ≤ (↑r3.length : Int) - (1 : Int) ∧ (↑r3.length : Int) - (1 : Int) < (↑r3.length : Int)) ∧ (TR [Kd.i IntKind.i64, Kd.s] r3 ∧ ((↑r3.length : Int) - (1 : Int)).toNat < r3.length) ∧ ∀ (n17 : Int) (s18 : ByteArray), r3[((↑r3.length : Int) - (1 : Int)).toNat]? = some [Value.int IntKind.i64 n17, Value.string s18] → (n17 = (0 : Int) → True ∧ ∀ (r19 : List (List Value)) (n20 : Int) (r21 : List (List Value)) (b22 : Bool) (n23 : Int) (b24 : Bool), r19 = r7 ∧ n20 = (goP (↑r7.length : Int) n8 n16 b10).fst ∧ b22 = (goP (↑r7.length : Int) n8 n16 b10).snd ∧ r21 = r9 → (Len r5 ∧ Len r6) ∧ ∀ (r25 r26 : List (List Value)), r25 = r5 ∧ r26 = r6 → r19 = r1 ∧ StepOk r1 n2 r3 r5 r6 { a := n20, s := r21, o := b22, k := r25, t := r26, ok := true }) ∧ (¬n17 = (0 : Int) → inK IntKind.i64 (n2 + (1 : Int)) ∧ True ∧ ∀ (r19 : List (List Value)) (n20 : Int) (r21 : List (List Value)) (b22 : Bool) (n23 : Int) (b24 : Bool), r19 = r7 ∧ n20 = (goP (↑r7.length : Int) n8 (n2 + (1 : Int)) b10).fst ∧ b22 = (goP (↑r7.length : Int) n8 (n2 + (1 : Int)) b10).snd ∧ r21 = r9 → (Len r5 ∧ Len r6) ∧ ∀ (r25 r26 : List (List Value)), r25 = r5 ∧ r26 = r6 → r19 = r1 ∧ StepOk r1 n2 r3 r5 r6 { a := n20, s := r21, o := b22, k := r25, t := r26, ok := true })) ∧ (¬(0 : Int) < (↑r3.length : Int) → inK IntKind.i64 (n2 + (1 : Int)) ∧ True ∧ ∀ (r17 : List (List Value)) (n18 : Int) (r19 : List (List Value)) (b20 : Bool) (n21 : Int) (b22 : Bool), r17 = r7 ∧ n18 = (goP (↑r7.length : Int) n8 (n2 + (1 : Int)) b10).fst ∧ b20 = (goP (↑r7.length : Int) n8 (n2 + (1 : Int)) b10).snd ∧ r19 = r9 → (Len r5 ∧ Len r6) ∧ ∀ (r23 r24 : List (List Value)), r23 = r5 ∧ r24 = r6 → r17 = r1 ∧ StepOk r1 n2 r3 r5 r6 { a := n18, s := r19, o := b20, k := r23, t := r24, ok := true })) ∧ (¬n11 = (4 : Int) → (Len r5 ∧ Len r6) ∧ ∀ (r17 r18 : List (List Value)), r17 = r5 ∧ r18 = r6 → r7 = r1 ∧ StepOk r1 n2 r3 r5 r6 { a := n8, s := r9, o := true, k := r17, t := r18, ok := true }))))) := by kernel_rfl
set_option maxRecDepth 100000 in
set_option maxHeartbeats 200000 in
theorem t_partStepI   : Holds E.P E.md 80 c_partStepI := fn_vc (E := E) mix (vc_partStepI ) (hct_cons (t_clonePart) (hct_cons (t_SendI) (hct_cons (t_HearI) (hct_cons (t_clonePort) (hct_cons (t_goOn) (hct_nil)))))) (by
  try simp only [and_imp, forall_eq, StepIn, partOk, pOk, codeOk]
  repeat' (first | (with_reducible intro _) | (with_reducible apply And.intro))
  all_goals (try subst_vars)
  all_goals first | (with_reducible assumption) | (with_reducible rfl) | omega | (simp only [List.length_append, List.length_cons, List.length_nil]; omega) | skip
  all_goals (try omega)
  all_goals (try exact ⟨_, _, _, _, _, _, by assumption, by first | (simp_all [insP, lastDone]; done) | (simp_all [insP, lastDone]; omega)⟩)
  all_goals (try simp only [inK_i64] at *)
  all_goals (try omega))
def shPartB : VSh := .agg [.r .ro 114, .i .i64, .r .ro 35, .b]
def c_PartStepI : Ctr := { ash := [shPartB, shPort], rsh := [shPartB, shPort, .one .sb], osh := [], pq := fun c a s o k t => (StepIn c s k t, fun c' a' s' o' k' t' ok => c' = c ∧ StepE c a s o k t a' s' o' k' t' ok) }
set_option maxRecDepth 100000 in
theorem vc_PartStepI  : (fnW E [(32, c_PartOkI), (16, c_PortOkI), (79, c_clonePart), (74, c_clonePort), (80, c_partStepI)] false 25 c_PartStepI (constV c_PartStepI.ash [])).den = (∀ (r1 : List (List Value)) (n2 : Int) (r3 : List (List Value)), (∀ (r4 r5 : List (List Value)), StepIn r1 r3 r4 r5 → (TR [Kd.i IntKind.i64, Kd.i IntKind.i64, Kd.s, Kd.s, Kd.s, Kd.i IntKind.i64] r1 ∧ Len r1 ∧ Len r3) ∧ ∀ (b6 : Bool), (b6 = true ↔ partOk r1 n2 r3) → ((!b6) = true → (Len r1 ∧ Len r3) ∧ ∀ (r7 : List (List Value)) (n8 : Int) (r9 : List (List Value)) (b10 : Bool), r7 = r1 ∧ n8 = n2 ∧ r9 = r3 ∧ b10 = true → (Len r4 ∧ Len r5) ∧ ∀ (r11 r12 : List (List Value)), r11 = r4 ∧ r12 = r5 → r7 = r1 ∧ StepE r1 n2 r3 true r4 r5 n8 r9 b10 r11 r12 false) ∧ ((!b6) = false → True ∧ ∀ (b7 : Bool), (b7 = true ↔ pOk r4 r5) → ((!b7) = true → (Len r1 ∧ Len r3) ∧ ∀ (r8 : List (List Value)) (n9 : Int) (r10 : List (List Value)) (b11 : Bool), r8 = r1 ∧ n9 = n2 ∧ r10 = r3 ∧ b11 = true → (Len r4 ∧ Len r5) ∧ ∀ (r12 r13 : List (List Value)), r12 = r4 ∧ r13 = r5 → r8 = r1 ∧ StepE r1 n2 r3 true r4 r5 n9 r10 b11 r12 r13 false) ∧ ((!b7) = false → (Len r1 ∧ Len r3) ∧ ∀ (r8 : List (List Value)) (n9 : Int) (r10 : List (List Value)) (b11 : Bool), r8 = r1 ∧ n9 = n2 ∧ r10 = r3 ∧ b11 = true → (Len r4 ∧ Len r5) ∧ ∀ (r12 r13 : List (List Value)), r12 = r4 ∧ r13 = r5 → r8 = r1 ∧ StepE r1 n2 r3 true r4 r5 n9 r10 b11 r12 r13 false))) ∧ ∀ (r4 r5 : List (List Value)), StepIn r1 r3 r4 r5 → (TR [Kd.i IntKind.i64, Kd.i IntKind.i64, Kd.s, Kd.s, Kd.s, Kd.i IntKind.i64] r1 ∧ Len r1 ∧ Len r3) ∧ ∀ (b6 : Bool), (b6 = true ↔ partOk r1 n2 r3) → ((!b6) = true → (Len r1 ∧ Len r3) ∧ ∀ (r7 : List (List Value)) (n8 : Int) (r9 : List (List Value)) (b10 : Bool), r7 = r1 ∧ n8 = n2 ∧ r9 = r3 ∧ b10 = false → (Len r4 ∧ Len r5) ∧ ∀ (r11 r12 : List (List Value)), r11 = r4 ∧ r12 = r5 → r7 = r1 ∧ StepE r1 n2 r3 false r4 r5 n8 r9 b10 r11 r12 false) ∧ ((!b6) = false → True ∧ ∀ (b7 : Bool), (b7 = true ↔ pOk r4 r5) → ((!b7) = true → (Len r1 ∧ Len r3) ∧ ∀ (r8 : List (List Value)) (n9 : Int) (r10 : List (List Value)) (b11 : Bool), r8 = r1 ∧ n9 = n2 ∧ r10 = r3 ∧ b11 = false → (Len r4 ∧ Len r5) ∧ ∀ (r12 r13 : List (List Value)), r12 = r4 ∧ r13 = r5 → r8 = r1 ∧ StepE r1 n2 r3 false r4 r5 n9 r10 b11 r12 r13 false) ∧ ((!b7) = false → (StepIn r1 r3 r4 r5 ∧ partOk r1 n2 r3 ∧ pOk r4 r5 ∧ false = false) ∧ ∀ (r8 : List (List Value)) (n9 : Int) (r10 : List (List Value)) (b11 : Bool) (r12 r13 : List (List Value)) (b14 : Bool), r8 = r1 ∧ StepOk r1 n2 r3 r4 r5 { a := n9, s := r10, o := b11, k := r12, t := r13, ok := b14 } → r8 = r1 ∧ StepE r1 n2 r3 false r4 r5 n9 r10 b11 r12 r13 b14))) := by kernel_rfl
set_option maxRecDepth 100000 in
set_option maxHeartbeats 200000 in
theorem t_PartStepI   : Holds E.P E.md 25 c_PartStepI := fn_vc (E := E) mix (vc_PartStepI ) (hct_cons (t_PartOkI) (hct_cons (t_PortOkI) (hct_cons (t_clonePart) (hct_cons (t_clonePort) (hct_cons (t_partStepI) (hct_nil)))))) (by
  try simp only [and_imp, forall_eq, StepIn]
  repeat' (first | (with_reducible intro _) | (with_reducible apply And.intro))
  all_goals (try subst_vars)
  all_goals first | (with_reducible assumption) | (with_reducible rfl) | omega | (simp only [List.length_append, List.length_cons, List.length_nil]; omega) | skip
  all_goals (try refine stepE_of ?_)
  all_goals (try (refine ⟨fun h => absurd h ?_, fun _ => rfl⟩; simp_all; done))
  all_goals (try (refine ⟨fun _ => ?_, fun h => absurd ?_ h⟩ <;> first | assumption | (simp_all; done)))
  all_goals (try (simp_all; done)))
def c_PartStepS : Ctr := { ash := [shPartB, shPort], rsh := [shPartB, shPort, .one .sb], osh := [], pq := fun c a s o k t => (StepIn c s k t, fun c' a' s' o' k' t' ok => c' = c ∧ StepE c a s o k t a' s' o' k' t' ok) }
set_option maxRecDepth 100000 in
theorem vc_PartStepS  : (fnW E [(81, c_l15Copy), (75, c_l14Copy), (33, c_PartOkS), (17, c_PortOkS), (12, c_SendS), (23, c_HearS), (82, c_l15Go)] false 26 c_PartStepS (constV c_PartStepS.ash [])).den = (∀ (r1 : List (List Value)) (n2 : Int) (r3 : List (List Value)), (∀ (r4 r5 : List (List Value)), StepIn r1 r3 r4 r5 → (Len r1 ∧ Len r3) ∧ ∀ (r6 : List (List Value)) (n7 : Int) (r8 : List (List Value)) (b9 : Bool), r6 = r1 ∧ n7 = n2 ∧ r8 = r3 ∧ b9 = true → (Len r4 ∧ Len r5) ∧ ∀ (r10 r11 : List (List Value)), r10 = r4 ∧ r11 = r5 → (TR [Kd.i IntKind.i64, Kd.i IntKind.i64, Kd.s, Kd.s, Kd.s, Kd.i IntKind.i64] r1 ∧ Len r1 ∧ Len r3) ∧ ∀ (b12 : Bool), (b12 = true ↔ partOk r1 n2 r3) → ((!b12) = true → r6 = r1 ∧ StepE r1 n2 r3 true r4 r5 n7 r8 b9 r10 r11 false) ∧ ((!b12) = false → True ∧ ∀ (b13 : Bool), (b13 = true ↔ pOk r4 r5) → ((!b13) = true → r6 = r1 ∧ StepE r1 n2 r3 true r4 r5 n7 r8 b9 r10 r11 false) ∧ ((!b13) = false → r6 = r1 ∧ StepE r1 n2 r3 true r4 r5 n7 r8 b9 r10 r11 false))) ∧ ∀ (r4 r5 : List (List Value)), StepIn r1 r3 r4 r5 → (Len r1 ∧ Len r3) ∧ ∀ (r6 : List (List Value)) (n7 : Int) (r8 : List (List Value)) (b9 : Bool), r6 = r1 ∧ n7 = n2 ∧ r8 = r3 ∧ b9 = false → (Len r4 ∧ Len r5) ∧ ∀ (r10 r11 : List (List Value)), r10 = r4 ∧ r11 = r5 → (TR [Kd.i IntKind.i64, Kd.i IntKind.i64, Kd.s, Kd.s, Kd.s, Kd.i IntKind.i64] r1 ∧ Len r1 ∧ Len r3) ∧ ∀ (b12 : Bool), (b12 = true ↔ partOk r1 n2 r3) → ((!b12) = true → r6 = r1 ∧ StepE r1 n2 r3 false r4 r5 n7 r8 b9 r10 r11 false) ∧ ((!b12) = false → True ∧ ∀ (b13 : Bool), (b13 = true ↔ pOk r4 r5) → ((!b13) = true → r6 = r1 ∧ StepE r1 n2 r3 false r4 r5 n7 r8 b9 r10 r11 false) ∧ ((!b13) = false → ((0 : Int) ≤ n2 ∧ n2 < (↑r1.length : Int)) ∧ (TR [Kd.i IntKind.i64, Kd.i IntKind.i64, Kd.s, Kd.s, Kd.s, Kd.i IntKind.i64] r1 ∧ n2.toNat < r1.length) ∧ ∀ (n14 n15 : Int) (s16 s17 s18 : ByteArray) (n19 : Int), r1[n2.toNat]? = some [Value.int IntKind.i64 n14, Value.int IntKind.i64 n15, Value.string s16, Value.string s17, Value.string s18, Value.int IntKind.i64 n19] → (n14 = (1 : Int) → (Len r4 ∧ Len r5) ∧ ∀ (r20 r21 : List (List Value)) (b22 : Bool), (b22 = true ↔ pOk r4 r5 ∧ r4.length ≠ (3 : Nat)) ∧ r21 = r5 ∧ (b22 = true → r20 = r4 ++ [[Value.int IntKind.i64 n15, Value.string s16, Value.string s17, Value.string s18]]) ∧ (b22 = false → r20 = r4) → ((!b22) = true → r6 = r1 ∧ StepE r1 n2 r3 false r4 r5 n7 r8 b9 r10 r11 false) ∧ ((!b22) = false → inK IntKind.i64 (n2 + (1 : Int)) ∧ True ∧ ∀ (r23 : List (List Value)) (n24 : Int) (r25 : List (List Value)) (b26 : Bool) (n27 : Int) (b28 : Bool), r23 = r6 ∧ n24 = (goP (↑r6.length : Int) n7 (n2 + (1 : Int)) b9).fst ∧ b26 = (goP (↑r6.length : Int) n7 (n2 + (1 : Int)) b9).snd ∧ r25 = r8 → r23 = r1 ∧ StepE r1 n2 r3 false r4 r5 n24 r25 b26 r20 r21 true)) ∧ (¬n14 = (1 : Int) → (n14 = (2 : Int) → (Len r4 ∧ Len r5 ∧ TR [Kd.i IntKind.i64, Kd.s] r5) ∧ ∀ (r20 r21 : List (List Value)) (n22 : Int) (s23 : ByteArray) (b24 : Bool), (b24 = true ↔ pOk r4 r5 ∧ (0 : Nat) < r5.length) ∧ r20 = r4 ∧ (b24 = true → r5 = [Value.int IntKind.i64 n22, Value.string s23] :: r21) ∧ (b24 = false → r21 = r5) → ((!b24) = true → r6 = r1 ∧ StepE r1 n2 r3 false r4 r5 n7 r8 b9 r10 r11 false) ∧ ((!b24) = false → ((↑r3.length : Int) = (300 : Int) → r6 = r1 ∧ StepE r1 n2 r3 false r4 r5 n7 r8 b9 r10 r11 false) ∧ (¬(↑r3.length : Int) = (300 : Int) → ((r8.length + [[Value.int IntKind.i64 n22, Value.string s23]].length) * (24 : Nat) ≤ (140737488355328 : Nat) ∧ r8.length + [[Value.int IntKind.i64 n22, Value.string s23]].length ≤ (140737488355328 : Nat)) ∧ inK IntKind.i64 (n2 + (1 : Int)) ∧ True ∧ ∀ (r25 : List (List Value)) (n26 : Int) (r27 : List (List Value)) (b28 : Bool) (n29 : Int) (b30 : Bool), r25 = r6 ∧ n26 = (goP (↑r6.length : Int) n7 (n2 + (1 : Int)) b9).fst ∧ b28 = (goP (↑r6.length : Int) n7 (n2 + (1 : Int)) b9).snd ∧ r27 = r8 ++ [[Value.int IntKind.i64 n22, Value.string s23]] → r25 = r1 ∧ StepE r1 n2 r3 false r4 r5 n26 r27 b28 r20 r21 true))) ∧ (¬n14 = (2 : Int) → (n14 = (3 : Int) → True ∧ ∀ (r20 : List (List Value)) (n21 : Int) (r22 : List (List Value)) (b23 : Bool) (n24 : Int) (b25 : Bool), r20 = r6 ∧ n21 = (goP (↑r6.length : Int) n7 n19 b9).fst ∧ b23 = (goP (↑r6.length : Int) n7 n19 b9).snd ∧ r22 = r8 → r20 = r1 ∧ StepE r1 n2 r3 false r4 r5 n21 r22 b23 r10 r11 true) ∧ (¬n14 = (3 : Int) → (n14 = (4 : Int) → ((0 : Int) < (↑r3.length : Int) → inK IntKind.i64 ((↑r3.length : Int) - (1 : Int)) ∧ ((0 : Int) ≤ (↑r3.length : Int) - (1 : Int) ∧ (↑r3.length : Int) - (1 : Int) < (↑r3.length : Int)) ∧ (TR [Kd.i IntKind.i64, Kd.s] r3 ∧ ((↑r3.length : Int) - (1 : Int)).toNat < r3.length) ∧ ∀ (n20 : Int) (s21 : ByteArray), r3[((↑r3.length : Int) - (1 : Int)).toNat]? = some [Value.int IntKind.i64 n20, Value.string s21] → (n20 = (0 : Int) → True ∧ ∀ (r22 : List (List Value)) (n23 : Int) (r24 : List (List Value)) (b25 : Bool) (n26 : Int) (b27 : Bool), r22 = r6 ∧ n23 = (goP (↑r6.length : Int) n7 n19 b9).fst ∧ b25 = (goP (↑r6.length : Int) n7 n19 b9).snd ∧ r24 = r8 → r22 = r1 ∧ StepE r1 n2 r3 false r4 r5 n23 r24 b25 r10 r11 true) ∧ (¬n20 = (0 : Int) → inK IntKind.i64 (n2 + (1 : Int)) ∧ True ∧ ∀ (r22 : List (List Value)) (n23 : Int) (r24 : List (List Value)) (b25 : Bool) (n26 : Int) (b27 : Bool), r22 = r6 ∧ n23 = (goP (↑r6.length : Int) n7 (n2 + (1 : Int)) b9).fst ∧ b25 = (goP (↑r6.length : Int) n7 (n2 + (1 : Int)) b9).snd ∧ r24 = r8 → r22 = r1 ∧ StepE r1 n2 r3 false r4 r5 n23 r24 b25 r10 r11 true)) ∧ (¬(0 : Int) < (↑r3.length : Int) → inK IntKind.i64 (n2 + (1 : Int)) ∧ True ∧ ∀ (r20 : List (List Value)) (n21 : Int) (r22 : List (List Value)) (b23 : Bool) (n24 : Int) (b25 : Bool), r20 = r6 ∧ n21 = (goP (↑r6.length : Int) n7 (n2 + (1 : Int)) b9).fst ∧ b23 = (goP (↑r6.length : Int) n7 (n2 + (1 : Int)) b9).snd ∧ r22 = r8 → r20 = r1 ∧ StepE r1 n2 r3 false r4 r5 n21 r22 b23 r10 r11 true)) ∧ (¬n14 = (4 : Int) → r6 = r1 ∧ StepE r1 n2 r3 false r4 r5 n7 r8 true r10 r11 true))))))) := by kernel_rfl
set_option maxRecDepth 100000 in
set_option maxHeartbeats 200000 in
theorem t_PartStepS   : Holds E.P E.md 26 c_PartStepS := fn_vc (E := E) mix (vc_PartStepS ) (hct_cons (t_l15Copy) (hct_cons (t_l14Copy) (hct_cons (t_PartOkS) (hct_cons (t_PortOkS) (hct_cons (t_SendS) (hct_cons (t_HearS) (hct_cons (t_l15Go) (hct_nil)))))))) (by
  try simp only [and_imp, forall_eq, StepIn]
  repeat' (first | (with_reducible intro _) | (with_reducible apply And.intro))
  all_goals (try subst_vars)
  all_goals first | (with_reducible assumption) | (with_reducible rfl) | omega | (simp only [List.length_append, List.length_cons, List.length_nil]; omega) | skip
  all_goals (try refine stepE_of ?_)
  all_goals (try (refine ⟨fun h => absurd h ?_, fun _ => rfl⟩; simp_all; done))
  all_goals (try simp only [partOk, codeOk, pOk, Bool.not_eq_false', Bool.not_eq_true', inK_i64] at *)
  all_goals (try subst_vars)
  all_goals (try simp only [true_iff, List.length_cons, List.length_nil] at *)
  all_goals (try omega)
  all_goals (try trivial)
  all_goals (try (refine ⟨fun _ => ⟨_, _, _, _, _, _, by assumption, ?_⟩, fun h => absurd ?_ h⟩ <;> first | (simp_all [insP, lastDone, partOk, codeOk, pOk]; done) | (simp_all [insP, lastDone, partOk, codeOk, pOk]; omega))))
end Go.Proofs.Ytefofjpjbogilaa
