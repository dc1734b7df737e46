/- Regions that draw their order: the machine. -/
import Derived.Test.YtefofjpjbogilaaDraw
namespace Go.Proofs.Ytefofjpjbogilaa.M
set_option linter.unusedVariables false
set_option linter.unusedSimpArgs false
set_option linter.unusedSectionVars false

theorem waits_spec {all : Array Oper} {i j : Nat} {o : Oper} (ho : all[j]? = some o) : waits all i j = true ↔ ∃ e ∈ o.after, Region.binds .any e = true ∧ e.on = i := by
  unfold waits
  rw [ho]
  simp only []
  rw [← Array.any_toList, List.any_eq_true]
  simp
theorem ready_spec {all : Array Oper} {listed : Array Bool} {i : Nat} (h : i ∈ Region.ready .any all listed) : i < all.size ∧ listed.getD i true = false ∧ ∀ j, waits all j i = true → listed.getD j false = true := by
  unfold Region.ready at h
  simp only [List.mem_filter, List.mem_range, Bool.and_eq_true, Bool.not_eq_true'] at h
  obtain ⟨h1, h2, h3⟩ := h
  refine ⟨h1, h2, fun j hw => ?_⟩
  obtain ⟨o, ho⟩ : ∃ o, all[i]? = some o := ⟨all[i], Array.getElem?_eq_getElem h1⟩
  rw [waits_spec ho] at hw
  obtain ⟨e, he, hb, rfl⟩ := hw
  rw [ho] at h3
  simp only [Option.map_some, Option.getD_some] at h3
  rw [Array.all_eq_true_iff_forall_mem] at h3
  have := h3 e he
  rw [hb] at this
  simpa using this
theorem ready_nil {all : Array Oper} {listed : Array Bool} (hback : backward all = true) (hsz : listed.size = all.size) (h : Region.ready .any all listed = []) : ∀ i, i < all.size → listed.getD i false = true := by
  intro i
  induction i using Nat.strongRecOn with
  | _ i ih =>
    intro hi
    obtain ⟨o, ho⟩ : ∃ o, all[i]? = some o := ⟨all[i], Array.getElem?_eq_getElem hi⟩
    have hb : ∀ e ∈ o.after, Region.binds .any e = true → e.on < i := by
      unfold backward at hback
      rw [List.all_eq_true] at hback
      have := hback i (List.mem_range.2 hi)
      rw [ho] at this
      simp only [Array.all_eq_true_iff_forall_mem, Bool.or_eq_true, Bool.not_eq_true', decide_eq_true_eq] at this
      intro e he hbe
      rcases this e he with h | h
      · rw [hbe] at h; cases h
      · exact h
    cases hl : listed.getD i false with
    | true => rfl
    | false =>
      have hmem : i ∈ Region.ready .any all listed := by
        unfold Region.ready
        simp only [List.mem_filter, List.mem_range, Bool.and_eq_true, Bool.not_eq_true']
        refine ⟨hi, ?_, ?_⟩
        · have hlt : i < listed.size := by omega
          simp [Array.getD, hlt] at hl ⊢
          exact hl
        · rw [ho]
          simp only [Option.map_some, Option.getD_some]
          rw [Array.all_eq_true_iff_forall_mem]
          intro e he
          cases hbe : Region.binds .any e with
          | false => rfl
          | true => simpa using ih e.on (hb e he hbe) (by have := hb e he hbe; omega)
      rw [h] at hmem
      cases hmem

def Sof (listed : Array Bool) : Nat → Bool := fun i => listed.getD i false
theorem Sof_set {listed : Array Bool} {i : Nat} (hi : i < listed.size) : Sof (listed.setIfInBounds i true) = fun j => Sof listed j || j == i := by
  funext j
  unfold Sof
  by_cases h : j = i
  · subst h
    simp [Array.getD, hi]
  · simp only [Array.getD_eq_getD_getElem?, Array.getElem?_setIfInBounds, if_neg (Ne.symm h)]
    have : (j == i) = false := by simpa using h
    simp [this]
/-- The keys in use where the operations of S are done. -/
def US (e : Nat) (S : Nat → Bool) : KS := fun k => k.e < e ∨ (k.e = e ∧ 0 < k.d ∧ S (k.d - 1) = true)

theorem draw_wp {P : Program} {w0 : World} {X Z : Fp} {ovs : List Value} (hXZ : ∀ x, X x → Z x) {md : Nat → List Bool} {orc : Orc} (horc : OrcOk P md orc) {all : Array Oper} {Q : Exit → Act → World → Prop} {st0 st' : St} {l : List Tr}
    (hl : trace P md orc all 0 all.toList st0 = some l) (hp : pairsOk all l = true) (hback : backward all = true) (hend : st' = cS (fun _ => true) l st0)
    (hQ : ∀ a' w', Fits P w0 X Z ovs (fun k => k.e < st0.e + 1) st' a' w' → Q .normal a' w') : ∀ (fuel : Nat) (listed : Array Bool) (a : Act) (w : World), listed.size = all.size → listed.toList.count false ≤ fuel →
      (∀ i j, Sof listed j = true → waits all i j = true → Sof listed i = true) → Fits P w0 X Z ovs (US st0.e (Sof listed)) (cS (Sof listed) l st0) a w → wpAny P .any all Q fuel listed a w := by
  have fin : ∀ (listed : Array Bool) (a : Act) (w : World), listed.size = all.size → Fits P w0 X Z ovs (US st0.e (Sof listed)) (cS (Sof listed) l st0) a w → Region.ready .any all listed = [] → Q .normal a w := by
    intro listed a w hsz hF hr
    have hall := ready_nil hback hsz hr
    have he : cS (Sof listed) l st0 = st' := by
      rw [hend]
      have : ∀ x ∈ l, Sof listed x.i = true := by
        intro x hx
        obtain ⟨l1, l2, e⟩ := List.append_of_mem hx
        refine hall x.i ?_
        rw [tr_num hl e]
        have h1 := (trace_spec hl).1
        rw [e] at h1
        simp at h1
        omega
      have go : ∀ (l : List Tr) (st : St), (∀ x ∈ l, Sof listed x.i = true) → cS (Sof listed) l st = cS (fun _ => true) l st := by
        intro l
        induction l with
        | nil => intro st _; rfl
        | cons x l ih =>
          intro st h
          simp only [cS, h x List.mem_cons_self, if_true]
          exact ih _ fun y hy => h y (List.mem_cons_of_mem _ hy)
      exact go l st0 this
    refine hQ a w ?_
    rw [← he]
    refine hF.mono fun k hk => ?_
    rcases hk with h | ⟨h, _⟩
    · show k.e < st0.e + 1; omega
    · show k.e < st0.e + 1; omega
  intro fuel
  induction fuel with
  | zero =>
    intro listed a w hsz hc hcl hF
    have hr : Region.ready .any all listed = [] := by
      cases hr : Region.ready .any all listed with
      | nil => rfl
      | cons i r =>
        obtain ⟨h1, h2, _⟩ := ready_spec (all := all) (listed := listed) (i := i) (by rw [hr]; exact List.mem_cons_self)
        have hlt : i < listed.size := by omega
        simp [Array.getD, hlt] at h2
        have : false ∈ listed.toList := by
          rw [← h2]
          simp
        have := List.count_pos_iff.2 this
        omega
    exact ⟨hr, fin listed a w hsz hF hr⟩
  | succ fuel ih =>
    intro listed a w hsz hc hcl hF
    refine ⟨fin listed a w hsz hF, fun i hi => ?_⟩
    obtain ⟨h1, h2, h3⟩ := ready_spec hi
    have hlt : i < listed.size := by omega
    have hSi : Sof listed i = false := by
      unfold Sof
      simp [Array.getD, hlt] at h2 ⊢
      exact h2
    obtain ⟨l1, x, l2, o, e, hx, hlen, ho, hdst, hls, hrd, hop⟩ := tr_at hl h1
    have hop' := opD_any hl hp e (by rw [hx]; exact hSi) hls hrd (by rw [hx]; exact hop) hcl (fun j hw => h3 j (by rw [hx] at hw; exact hw))
    have happ := app_any hl hp e (by rw [hx]; exact hSi) hcl
    rw [hx] at hop' happ
    have hS' := Sof_set hlt
    have hsame := cS_same (Sof listed) l st0
    have next : ∀ v w', Fits P w0 X Z ovs (fun k => US st0.e (Sof listed) k ∨ ∃ j, k = (cS (Sof listed) l st0).key i j) ((cS (Sof listed) l st0).app o.dst x.δ) (a.put o.dst v) w' → wpAny P .any all Q fuel (listed.setIfInBounds i true) (a.put o.dst v) w' := by
      intro v w' hF'
      refine ih _ _ _ (by simpa using hsz) ?_ ?_ ?_
      · have h2' : listed[i] = false := by simp [Array.getD, hlt] at h2; exact h2
        have hcount : (listed.setIfInBounds i true).toList.count false + 1 = listed.toList.count false := by
          rw [Array.toList_setIfInBounds]
          have hlt2 : i < listed.toList.length := by simpa using hlt
          rw [List.set_eq_take_append_cons_drop, if_pos hlt2]
          have e0 : listed.toList = listed.toList.take i ++ listed.toList[i] :: listed.toList.drop (i + 1) := by rw [List.getElem_cons_drop, List.take_append_drop]
          have e1 : listed.toList[i] = false := by simpa using h2'
          conv => rhs; rw [e0]
          rw [e1]
          simp [List.count_append, List.count_cons]
          omega
        omega
      · intro p q hq hw
        rw [hS'] at hq ⊢
        simp only [Bool.or_eq_true, beq_iff_eq] at hq ⊢
        rcases hq with hq | rfl
        · exact .inl (hcl p q hq hw)
        · exact .inl (h3 p hw)
      · rw [hS', ← happ, hdst]
        refine hF'.mono fun k hk => ?_
        rcases hk with (h | ⟨q1, q2, q3⟩) | ⟨j, rfl⟩
        · exact .inl h
        · exact .inr ⟨q1, q2, by simp [q3]⟩
        · exact .inr ⟨hsame.1, by simp [St.key], by simp [St.key]⟩
    unfold wpOp
    rw [ho]
    simp only []
    obtain ⟨ρ, Fk, hM, hS⟩ := hF
    unfold opD at hop'
    split at hop'
    · rename_i hd
      split at hop'
      · rename_i g hg
        rw [guard_ok hS hg]
        cases g with
        | true =>
          simp only [cond_true] at hop'
          simp only [if_true]
          left
          refine step_ok hXZ hM hS horc (i := i) (fun j hu => ?_) hop' fun v w' ρ' Fk' hL => next v w' (Fits.app hS Uand_of hd hL)
          rcases hu with h | ⟨q1, q2, q3⟩
          · have : ((cS (Sof listed) l st0).key i j).e = st0.e := hsame.1
            omega
          · simp [St.key, hSi] at q3
        | false =>
          simp only [cond_false] at hop'
          simp only [Bool.false_eq_true, if_false]
          cases hδ : x.δ with
          | mk xx ks =>
            rw [hδ] at hop'
            cases hop'
            have := next undef w
            rw [hδ] at this
            exact this (Fits.app hS (fun k h => .inl h) hd (undef_left hM fun k h => .inl h))
      · cases hop'
    · cases hop'

theorem draw_ok {E : Env} (hmix : E.P.follows .mixedOrders = true) {orc : Orc} (horc : OrcOk E.P E.md orc) : DrawOk E orc := by
  intro ops st st' w0 X Z ovs Q a w id hXZ hok hrun hF hQ
  unfold drawOk at hok
  rw [Bool.and_eq_true] at hok
  obtain ⟨hb, hok⟩ := hok
  split at hok
  · rename_i l hl
    refine wp_region_any hmix ?_
    have hnone : ∀ i, Sof (Array.replicate ops.size false) i = false := by
      intro i
      unfold Sof
      rw [Array.getD_eq_getD_getElem?, Array.getElem?_replicate]
      split <;> rfl
    refine draw_wp hXZ horc hl hok hb ((trace_spec hl).2.1 _ hrun) hQ ops.size _ a _ (by simp) (by simp) (fun i j hj => by rw [hnone] at hj; cases hj) ?_
    have e : cS (Sof (Array.replicate ops.size false)) l st = st := by
      have : Sof (Array.replicate ops.size false) = fun _ => false := funext hnone
      rw [this, cS_none]
    rw [e]
    obtain ⟨ρ, Fk, hM, hS⟩ := hF
    refine ⟨ρ, Fk, Mem.mono (U := fun k => k.e < st.e) ?_ fun k h => .inl h, hS.imp (fun k h => .inl h) fun _ _ => ⟨rfl, rfl⟩⟩
    exact ⟨hM.os, hM.tape, hM.output, hM.size, hM.keep, hM.key, fun k b hm => hM.blk k b hm, hM.lt, hM.all, hM.own, hM.apart⟩
  · cases hok
theorem run_sound {E : Env} (hprim : PrimOk E) (hmix : E.P.follows .mixedOrders = true) : ∀ k, OrcOk E.P E.md (run E k) := run_ok hprim fun _ h => draw_ok hmix h
end Go.Proofs.Ytefofjpjbogilaa.M
