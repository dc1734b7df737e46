/- slices.Clone: whether the slice is nil or not, a row of its own with the same elements. -/
import Derived.Test.YtefofjpjbogilaaG2
import Derived.Lib.SliceRun
namespace Go.Proofs.Ytefofjpjbogilaa.M
set_option linter.unusedVariables false
set_option linter.unusedSimpArgs false
set_option linter.unusedSectionVars false

theorem fin_ok {P : Program} {md : List Bool} {fn : Func} {w w' : World} {X Z : Fp} {vals : List Value} {U : KS} {st : St} {a : Act} {rs os : List V} {bs' : List Blk} (hF : Fits P w X Z (ownOf md vals) U st a w') (h : finish P fn.results.toList st = some (rs, os, bs')) :
    bodyPost P fn (fun e w' => ∃ v ρ' Fk', e = .returned v ∧ Mem P w X Z (Uk bs'.length) w' (bsM bs') ρ' Fk' ∧ relT ρ' (resT rs) v ∧ okVs (Uk bs'.length) rs ∧ relVs ρ' os (ownOf md vals) ∧ okVs (Uk bs'.length) os) .ret a w' := by
  obtain ⟨ρ', Fk', hM', hS'⟩ := hF
  unfold finish at h
  split at h
  · rename_i rs0 hrs
    cases h
    obtain ⟨v, vs, v1, v2, v3, v4⟩ := results_ok hM' hS' hrs
    obtain ⟨κ1, g1, r1⟩ := packVs_ok (own := true) rs0 (PkOk.nil (m := st.m) (κ := fun _ => pk 0))
    obtain ⟨κ2, g2, r2⟩ := packVs_ok (own := true) st.o g1.ok
    have hρ := packRho_eq ρ' κ2 (packVs true st.m (packVs true st.m ⟨[], []⟩ rs0).2 st.o).2.bs.length
    have r1' := r1.mono g2.same g2.le
    refine ⟨hS'.df, v, v1, v, packRho ρ' κ2, packFk Fk' κ2, rfl, hM'.pack g2.ok, ?_, r1'.ok, r2.rel hρ hS'.o.1, r2.ok⟩
    rw [v4]
    exact resT_of (r1'.rel hρ v2)
  · cases h

/-- The state behind the test for nil. -/
def nilSt (s : St) (b : Bool) : St := { (s.app (some 3) ⟨.v (.one (.sl (pk 0))), []⟩).app (some 4) ⟨.v (.one (.s (.bool b))), []⟩ with e := s.e + 1 }

theorem clone_ok {E : Env} {orc : Orc} (horc : OrcOk E.P E.md orc) (hmix : E.P.follows .mixedOrders = true) {f : FuncId} {fn : Func} (hfn : E.P.funcs[f]? = some fn) {r0 A B : Code} {o1 o2 : Oper} {T e pp : TypeId} {rid : Nat}
    (hbody : fn.body = some (.seq r0 (.seq (.seq (.region rid #[o1, o2] false) (.cond (.tmp 4) A .skip)) B)))
    (h1 : o1.op = .move (.tmp 0) ∧ o1.dst = some 3 ∧ o1.guard = none) (h2 : o2.op = .binOp .eql T (.tmp 3) (.const (.slice none 0 0)) pp ∧ o2.dst = some 4 ∧ o2.guard = none)
    (hT : elemT E.P T = some e) (hnt : 4 < fn.ntmps) {xs : List (List Value)} {s0 : St} {rs os : List V} {bs' : List Blk} (h0 : exec E orc f r0 0 0 (startSt (E.md f) fn.ntmps [.one (.sl (pk 0))] [.row .ro e xs]) = some (.nx, s0))
    (ht : s0.t 0 = .v (.one (.sl (pk 0)))) (hm : s0.m (pk 0) = some (.row .ro e xs)) (hn : s0.n = fn.ntmps)
    (hnil : xs = [] → ∃ s2, exec E orc f A 0 0 (nilSt s0 true) = some (.ret, s2) ∧ finish E.P fn.results.toList s2 = some (rs, os, bs'))
    (hsome : ∃ s3, exec E orc f B 0 0 (nilSt s0 false) = some (.ret, s3) ∧ finish E.P fn.results.toList s3 = some (rs, os, bs')) :
    CallOk E.P (E.md f) f [.one (.sl (pk 0))] [.row .ro e xs] rs os bs' := by
  intro w ρ Fk vals hM hrel hok
  have hlt : ∀ k, Uk [Blk.row .ro e xs].length k → k.e < 1 := by rintro k ⟨j, _, rfl⟩; exact Nat.zero_lt_one
  obtain ⟨v, rfl⟩ : ∃ v, vals = [v] := by
    have := hrel.length
    simp at this
    cases vals with
    | nil => simp at this
    | cons v vs => cases vs with
      | nil => exact ⟨v, rfl⟩
      | cons _ _ => simp at this
  have hF : Fits E.P w (Xof (bsM [.row .ro e xs]) Fk) (Zof (bsM [.row .ro e xs]) Fk) (ownOf (E.md f) [v]) (fun k => k.e < (startSt (E.md f) fn.ntmps [.one (.sl (pk 0))] [.row .ro e xs]).e) (startSt (E.md f) fn.ntmps [.one (.sl (pk 0))] [.row .ro e xs]) { tmps := [v].toArray ++ Array.replicate (fn.ntmps - [v].toArray.size) undef, defers := [] } w := by
    refine ⟨ρ, Fk, hM.mono hlt, ⟨fun n => ?_, ?_, rfl, ownOf_rel hrel, (ownOf_ok hok).imp hlt⟩⟩
    · cases n with
      | zero =>
        have e0 : ([v].toArray ++ Array.replicate (fn.ntmps - [v].toArray.size) undef).getD 0 undef = v := by simp [Array.getD]
        show relT ρ (.v (.one (.sl (pk 0)))) (([v].toArray ++ Array.replicate (fn.ntmps - [v].toArray.size) undef).getD 0 undef) ∧ _
        rw [e0]
        exact ⟨hrel.1, hlt _ ⟨0, by simp, rfl⟩⟩
      | succ n =>
        show relT ρ (.v (.one .dead)) _ ∧ _
        exact dead_ok
    · simp [startSt]
      omega
  have hdr := draw_ok hmix horc
  refine calls_of_wp hfn hbody (wp_seq (exec_ok (P := E.P) rfl Xof_Zof horc hdr f r0 0 0 _ _ _ _ _ _ h0 hF ?_))
  rintro a1 w1 ⟨ρ1, Fk1, hM1, hS1⟩
  show Code.wp _ _ _ _ _
  refine wp_seq (wp_seq (wp_region ?_))
  have hr := (hS1.t 0).1
  rw [ht] at hr
  have hk0 := (hS1.t 0).2
  rw [ht] at hk0
  obtain ⟨A', c, g1, g2, g3, g4⟩ := (hM1.blk (pk 0) _ hm).rd
  have hv0 : a1.tmps.getD 0 undef = .slice A' xs.length c := hr.1.1.trans g1
  have hsz : a1.tmps.size = fn.ntmps := hS1.sz.trans hn
  have run1 : (execOp a1.eval o1).run E.P w1 = .ok (.value (.slice A' xs.length c)) w1 := by
    unfold execOp
    rw [h1.1]
    show Result.ok (Next.value (a1.tmps.getD 0 undef)) w1 = _
    rw [hv0]
  have e3 : (a1.put (some 3) (.slice A' xs.length c)).eval (.tmp 3) = .slice A' xs.length c := by
    have : 3 < a1.tmps.size := by omega
    show (a1.tmps.setIfInBounds 3 _).getD 3 undef = _
    simp [Array.getD, this]
  have run2 : (execOp (a1.put (some 3) (.slice A' xs.length c)).eval o2).run E.P w1 = .ok (.value (.bool A'.isNone)) w1 := by
    unfold execOp
    rw [h2.1]
    refine exec_v ?_
    simp only [e3]
    have hg : ∀ x y, (eqGuard .eql T x y (.slice A' xs.length c) (.slice none 0 0)).run E.P w1 = .ok () w1 := by intro x y; simp [eqGuard]
    show ((do eqGuard .eql T _ _ (.slice A' xs.length c) (.slice none 0 0); binOp .eql T (.slice A' xs.length c) (.slice none 0 0) : Sem Value)).run E.P w1 = _
    rw [Sem.run_bind, hg, Result.andThen_ok]
    exact Go.Lib.run_eql_slice_nil w1 T e A' xs.length c 0 0 (elemT_spec hT)
  have hw1 : ∀ y, Region.wanted o1 y = true := by intro y; unfold Region.wanted; rw [h1.2.2]
  have hw2 : ∀ y, Region.wanted o2 y = true := by intro y; unfold Region.wanted; rw [h2.2.2]
  show wpOps E.P #[o1, o2] _ [0, 1] a1 w1
  have g0 : (#[o1, o2] : Array Oper)[0]? = some o1 := rfl
  have g1' : (#[o1, o2] : Array Oper)[1]? = some o2 := rfl
  simp only [wpOps, g0, g1', hw1, hw2, if_true]
  left
  unfold Oper.wp
  rw [run1, Oper.upon_value, h1.2.1]
  left
  rw [run2, Oper.upon_value, h2.2.1]
  -- the state behind
  have d3 : okDst s0 o1 = true := by unfold okDst; rw [h1.2.1]; exact decide_eq_true (show 3 < s0.n by omega)
  have d4 : ∀ x : Dl, okDst (s0.app (some 3) x) o2 = true := by intro x; unfold okDst; rw [h2.2.1]; exact decide_eq_true (show 4 < s0.n by omega)
  have hS2 := hS1.app d3 (δ := ⟨.v (.one (.sl (pk 0))), []⟩) (v := .slice A' xs.length c) (by rw [← hv0]; exact hr) hk0
  rw [h1.2.1] at hS2
  have hS3 := hS2.app (d4 _) (δ := ⟨.v (.one (.s (.bool A'.isNone))), []⟩) (v := .bool A'.isNone) ⟨rfl, fun _ cs e => by cases e⟩ trivial
  rw [h2.2.1] at hS3
  have hF3 : Fits E.P w (Xof (bsM [.row .ro e xs]) Fk) (Zof (bsM [.row .ro e xs]) Fk) (ownOf (E.md f) [v]) (fun k => k.e < (nilSt s0 A'.isNone).e) (nilSt s0 A'.isNone) ((a1.put (some 3) (.slice A' xs.length c)).put (some 4) (.bool A'.isNone)) w1 := by
    refine Fits.mono (U := fun k => k.e < s0.e) ⟨ρ1, Fk1, hM1, ⟨hS3.t, hS3.sz, hS3.df, hS3.o⟩⟩ fun k hk => ?_
    show k.e < s0.e + 1
    have : k.e < s0.e := hk
    omega
  cases hA : A'.isNone with
  | true =>
    rw [hA] at hF3
    have hx : xs = [] := by
      cases xs with
      | nil => rfl
      | cons y ys => obtain ⟨ad, e1, _⟩ := g4 (by simp); rw [e1] at hA; cases hA
    obtain ⟨s2, q1, q2⟩ := hnil hx
    refine exec_ok (P := E.P) rfl Xof_Zof horc hdr f (.cond (.tmp 4) A .skip) 0 0 (nilSt s0 true) .ret s2 _ _ _ (by simp only [exec]; exact q1) hF3 fun a' w' hF' => ?_
    exact fin_ok hF' q2
  | false =>
    rw [hA] at hF3
    obtain ⟨s3, q1, q2⟩ := hsome
    refine exec_ok (P := E.P) rfl Xof_Zof horc hdr f (.cond (.tmp 4) A .skip) 0 0 (nilSt s0 false) .nx (nilSt s0 false) _ _ _ (by simp only [exec]; rfl) hF3 fun a' w' hF' => ?_
    refine exec_ok (P := E.P) rfl Xof_Zof horc hdr f B 0 0 (nilSt s0 false) .ret s3 _ _ _ q1 hF' fun a'' w'' hF'' => ?_
    exact fin_ok hF'' q2
/-- A tail of a function, guided, and what is given back. -/
def tailG (E : Env) (f : Nat) (c : Code) (rv : List ResultVar) (st : St) (sc : Scr) : Option (Res × List Con) :=
  match execG E f c st sc with
  | some ((.ret, s), _, cs) => match finish E.P rv s with | some r => some (r, cs) | none => none
  | _ => none
theorem tailG_ok {E : Env} {f : Nat} {orc : Orc} {c : Code} {rv : List ResultVar} {st : St} {sc : Scr} {r : Res} {cs : List Con} (h : tailG E f c rv st sc = some (r, cs)) (hc : ∀ c ∈ cs, c.holds orc) : ∃ s, exec E orc f c 0 0 st = some (.ret, s) ∧ finish E.P rv s = some r := by
  unfold tailG at h
  split at h
  · rename_i s s1 c1 h1
    split at h
    · rename_i r' hr
      cases h
      exact ⟨s, execG_ok c h1 hc, hr⟩
    · cases h
  · cases h
end Go.Proofs.Ytefofjpjbogilaa.M
