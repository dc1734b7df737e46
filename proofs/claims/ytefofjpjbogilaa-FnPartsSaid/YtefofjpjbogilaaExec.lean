/- A function's code: what the interpreter answers is what the machine does. -/
import Derived.Test.YtefofjpjbogilaaStep
import Derived.Deep.LoopGhost
namespace Go.Proofs.Ytefofjpjbogilaa.M
set_option linter.unusedVariables false
set_option linter.unusedSimpArgs false
set_option linter.unusedSectionVars false

theorem relVs.length {ρ : Rho} : ∀ {ls : List V} {xs : List Value}, relVs ρ ls xs → xs.length = ls.length
  | [], [], _ => rfl
  | l :: ls, v :: vs, h => congrArg (· + 1) (relVs.length (ls := ls) h.2)
  | [], _ :: _, r => r.elim
  | _ :: _, [], r => r.elim
theorem dead_ok {ρ : Rho} {U : KS} {v : Value} : relT ρ (.v (.one .dead)) v ∧ okT U (.v (.one .dead)) := ⟨⟨trivial, fun h => h.elim⟩, trivial⟩
theorem okVs_get {U : KS} : ∀ {ls : List V} {i : Nat} {l : V}, okVs U ls → ls[i]? = some l → okV U l
  | l :: ls, 0, _, h, e => by cases e; exact h.1
  | l :: ls, i + 1, _, h, e => okVs_get (ls := ls) (i := i) h.2 (by simpa using e)
  | [], i, _, _, e => by simp at e

theorem foldl_upd {α : Type} (g : α → T) (base : Nat → T) : ∀ (l : List (Nat × α)) (n : Nat), (l.foldl (fun f x => upd f x.1 (g x.2)) base) n = base n ∨ ∃ x, (n, x) ∈ l ∧ (l.foldl (fun f x => upd f x.1 (g x.2)) base) n = g x := by
  intro l
  induction l generalizing base with
  | nil => intro n; exact .inl rfl
  | cons y l ih =>
    intro n
    rcases ih (upd base y.1 (g y.2)) n with h | ⟨x, h1, h2⟩
    · rw [List.foldl_cons, h]
      by_cases hn : n = y.1
      · subst hn
        exact .inr ⟨y.2, List.mem_cons_self, upd_same _ _ _⟩
      · exact .inl (upd_ne _ _ _ hn)
    · exact .inr ⟨x, List.mem_cons_of_mem _ h1, h2⟩

section
variable {P : Program} {w0 : World} {X Z : Fp} {ovs : List Value}
theorem head_ok {st : St} {a : Act} {w : World} {U : KS} (keep : List Nat) (h : Fits P w0 X Z ovs U st a w) : Fits P w0 X Z ovs (fun k => k.e < (head keep st).e) (head keep st) a w := by
  obtain ⟨ρ, Fk, hM, hS⟩ := h
  obtain ⟨κ1, g1, r1⟩ := packVs_ok (own := true) st.o (PkOk.nil (m := st.m) (κ := fun _ => pk 0))
  obtain ⟨κ2, g2, r2⟩ := packVs_ok (own := true) (keep.map (slotV st)) g1.ok
  have hU : ∀ n k, Uk n k → k.e < 1 := by rintro n k ⟨j, _, rfl⟩; exact Nat.zero_lt_one
  have hρ := packRho_eq ρ κ2 (packVs true st.m (packVs true st.m ⟨[], []⟩ st.o).2 (keep.map (slotV st))).2.bs.length
  have hkeep : ∀ l : List Nat, relVs ρ (l.map (slotV st)) (l.map fun n => a.tmps.getD n undef) := by
    intro l
    induction l with
    | nil => trivial
    | cons n l ih =>
      refine ⟨?_, ih⟩
      have := (hS.t n).1
      show relV ρ (slotV st n) _
      unfold slotV
      split
      · rename_i x hx
        rw [hx] at this
        exact this
      · exact ⟨trivial, fun h => h.elim⟩
  have hrel := r2.rel hρ (hkeep keep)
  refine ⟨packRho ρ κ2, packFk Fk κ2, (hM.pack g2.ok).mono (hU _), ⟨fun n => ?_, hS.sz, hS.df, (r1.mono g2.same g2.le).rel hρ hS.o.1, (r1.mono g2.same g2.le).ok.imp (hU _)⟩⟩
  simp only [head]
  rcases foldl_upd (fun x => T.v x) (fun _ => T.v (.one .dead)) (keep.zip (packVs true st.m (packVs true st.m ⟨[], []⟩ st.o).2 (keep.map (slotV st))).1) n with h | ⟨x, h1, h2⟩
  · rw [h]; exact dead_ok
  · rw [h2]
    obtain ⟨i, hi⟩ := List.getElem?_of_mem h1
    rw [List.getElem?_zip_eq_some] at hi
    obtain ⟨v, q1, q2, q3⟩ := hrel.get r2.ok hi.2
    have : v = a.tmps.getD n undef := by
      rw [List.getElem?_map, hi.1] at q1
      simpa using q1.symm
    subst this
    exact ⟨q2, q3.imp (hU _)⟩

def exOf : Ex → Exit | .nx => .normal | .exit i => .exit i | .ret => .ret

/-- Regions whose order is drawn. -/
def DrawOk (E : Env) (orc : Orc) : Prop := ∀ (ops : Array Oper) (st st' : St) (w0 : World) (X Z : Fp) (ovs : List Value) (Q : Exit → Act → World → Prop) (a : Act) (w : World) (id : Nat),
  (∀ x, X x → Z x) → drawOk E.P E.md orc ops st = true → runOps E.P E.md orc ops 0 ops.toList st = some st' → Fits E.P w0 X Z ovs (fun k => k.e < st.e) st a w →
  (∀ a' w', Fits E.P w0 X Z ovs (fun k => k.e < st.e + 1) st' a' w' → Q .normal a' w') → (Code.region id ops true).wp E.P Q a w

theorem exec_ok {E : Env} (hP : E.P = P) {orc : Orc} (hXZ : ∀ x, X x → Z x) (horc : OrcOk P E.md orc) (hdraw : DrawOk E orc) (f : Nat) : ∀ (c : Code) (id k : Nat) (st : St) (ex : Ex) (st' : St) (Q : Exit → Act → World → Prop) (a : Act) (w : World),
    exec E orc f c id k st = some (ex, st') → Fits P w0 X Z ovs (fun k => k.e < st.e) st a w → (∀ a' w', Fits P w0 X Z ovs (fun k => k.e < st'.e) st' a' w' → Q (exOf ex) a' w') → c.wp P Q a w := by
  intro c
  induction c with
  | skip =>
    intro id k st ex st' Q a w h hF hQ
    cases h
    exact wp_skip (hQ a w hF)
  | region rid ops draw =>
    intro id k st ex st' Q a w h hF hQ
    simp only [exec] at h
    split at h
    · cases h
    · rename_i hd
      split at h
      · rename_i s hs
        cases h
        rw [hP] at hs
        have fin : ∀ a' w', s.e = st.e → Fits P w0 X Z ovs (fun k => k.e < st.e + 1) s a' w' → Q .normal a' w' := by
          intro a' w' he hF'
          refine hQ a' w' ?_
          rw [show ({ s with e := s.e + 1 } : St).e = st.e + 1 from by simp [he]]
          obtain ⟨ρ, Fk, h1, h2⟩ := hF'
          exact ⟨ρ, Fk, h1, ⟨h2.t, h2.sz, h2.df, h2.o⟩⟩
        have hse : ∀ (l : List Oper) (i : Nat) (st s : St), runOps P E.md orc ops i l st = some s → s.e = st.e := by
          intro l
          induction l with
          | nil => intro i st s h; cases h; rfl
          | cons o l ih =>
            intro i st s h
            simp only [runOps] at h
            split at h
            · split at h
              · rename_i g hg
                cases g with
                | true =>
                  simp only [cond_true] at h
                  split at h
                  · have := ih _ _ _ h; exact this
                  · cases h
                | false =>
                  simp only [cond_false] at h
                  have := ih _ _ _ h; exact this
              · cases h
            · cases h
        cases draw with
        | false =>
          refine wp_region ?_
          have := runOps_ok hXZ horc (Q := Q) ops.toList 0 st s a w rfl (hF.mono fun k hk => .inl hk) hs fin
          rw [Array.length_toList] at this
          rw [List.range_eq_range']
          exact this
        | true =>
          have hok : drawOk E.P E.md orc ops st = true := by simpa using hd
          rw [← hP]
          exact hdraw ops st s w0 X Z ovs Q a w rid hXZ hok (by rw [hP]; exact hs) (by rw [hP]; exact hF) (fun a' w' hF' => fin a' w' (hse _ _ _ _ hs) (by rw [← hP]; exact hF'))
      · cases h
  | seq x y ihx ihy =>
    intro id k st ex st' Q a w h hF hQ
    simp only [exec] at h
    split at h
    · rename_i s hs
      exact wp_seq (ihx id k st _ _ _ a w hs hF fun a' w' hF' => ihy id k s _ _ _ a' w' h hF' hQ)
    · rename_i hne
      refine wp_seq (ihx id k st ex st' _ a w h hF fun a' w' hF' => ?_)
      have := hQ a' w' hF'
      cases ex with
      | nx => exact absurd h (hne st')
      | exit i => exact this
      | ret => exact this
  | cond c x y ihx ihy =>
    intro id k st ex st' Q a w h hF hQ
    simp only [exec] at h
    obtain ⟨ρ, Fk, hM, hS⟩ := hF
    split at h
    · rename_i t ht
      have he := evF_ok hS ht
      refine wp_cond he ?_
      cases t with
      | true => exact ihx id k st ex st' Q a w h ⟨ρ, Fk, hM, hS⟩ hQ
      | false => exact ihy id k st ex st' Q a w h ⟨ρ, Fk, hM, hS⟩ hQ
    · cases h
  | block bid c ih =>
    intro id k st ex st' Q a w h hF hQ
    simp only [exec] at h
    refine wp_block ?_
    split at h
    · rename_i i s hs
      split at h
      · rename_i hi
        cases h
        refine ih bid k st _ _ _ a w hs hF fun a' w' hF' => ?_
        simp only [exOf, Exit.inBlock, hi, if_true]
        exact hQ a' w' hF'
      · rename_i hi
        cases h
        refine ih bid k st _ _ _ a w hs hF fun a' w' hF' => ?_
        simp only [exOf, Exit.inBlock, hi, if_false]
        exact hQ a' w' hF'
    · rename_i hne
      refine ih bid k st ex st' _ a w h hF fun a' w' hF' => ?_
      have := hQ a' w' hF'
      cases ex with
      | nx => exact this
      | exit i => exact absurd h (hne i st')
      | ret => exact this
  | loop c ih =>
    intro id k st ex st' Q a w h hF hQ
    simp only [exec] at h
    refine wp_loop_ghost (fun n a w => ∃ s, Fits P w0 X Z ovs (fun k => k.e < s.e) s a w ∧ loopN (head (E.keep f id)) (exec E orc f c id k) n s = some (ex, st')) k ⟨st, hF, h⟩ ?_
    rintro n a w ⟨s, hF, h⟩
    cases n with
    | zero => cases h
    | succ n =>
      simp only [loopN] at h
      have hF1 := head_ok (E.keep f id) hF
      split at h
      · rename_i s' hs'
        refine ih id k _ _ _ _ a w hs' hF1 fun a' w' hF' => ?_
        exact ⟨n, Nat.lt_succ_self n, s', hF', h⟩
      · rename_i hne
        refine ih id k _ ex st' _ a w h hF1 fun a' w' hF' => ?_
        have := hQ a' w' hF'
        cases ex with
        | nx => exact absurd h (hne st')
        | exit i => exact this
        | ret => exact this
  | exit i =>
    intro id k st ex st' Q a w h hF hQ
    cases h
    exact wp_exit (hQ a w hF)
  | ret =>
    intro id k st ex st' Q a w h hF hQ
    cases h
    exact wp_ret (hQ a w hF)
  | _ =>
    intros
    rename_i h _ _
    simp [exec] at h
end
end Go.Proofs.Ytefofjpjbogilaa.M
