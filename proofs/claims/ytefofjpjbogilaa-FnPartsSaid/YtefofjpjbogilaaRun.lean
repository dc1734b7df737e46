/- A call, whole: what the interpreter answers is what the machine does. -/
import Derived.Test.YtefofjpjbogilaaExec
namespace Go.Proofs.Ytefofjpjbogilaa.M
set_option linter.unusedVariables false
set_option linter.unusedSimpArgs false
set_option linter.unusedSectionVars false

theorem loadVal_ok {P : Program} {w0 w : World} {X Z : Fp} {U : KS} {st : St} {ρ : Rho} {Fk : Key → Fp} (hM : Mem P w0 X Z U w st.m ρ Fk) {t : TypeId} {l : L} {v : V} {x : Value} (hl : relL ρ l x) (hk : okL U l) (h : loadV P st.m t l = some v) :
    ∃ y, (do loadVar t (← asAddr x) : Sem Value).run P w = .ok y w ∧ relV ρ v y ∧ okV U v := by
  obtain ⟨y, h1, h2⟩ := loadV_ok hM hl hk h
  have : ∃ ad, x = .pointer (some ad) := by
    unfold loadV at h
    split at h
    · obtain ⟨g, _, rfl⟩ := hl; exact ⟨_, rfl⟩
    · obtain ⟨_, _, _, _, _, rfl⟩ := hl; exact ⟨_, rfl⟩
    · cases h
  obtain ⟨ad, rfl⟩ := this
  exact ⟨y, by simpa [Instr.loadAt, Instr.sureAddr, asAddr] using h1, h2⟩
theorem resV_ok {P : Program} {w0 w : World} {X Z : Fp} {U : KS} {st : St} {ρ : Rho} {Fk : Key → Fp} {a : Act} {ovs : List Value} (hM : Mem P w0 X Z U w st.m ρ Fk) (hS : Slots U ρ st a ovs) : ∀ {r : List ResultVar} {rs : List V}, resV P st r = some rs →
    ∃ vs : List Value, (r.mapM fun x => (match x with | .tmp t => pure (a.tmps.getD t undef) | .cell p t => do loadVar t (← asAddr (a.tmps.getD p undef)) : Sem Value)).run P w = .ok vs w ∧ relVs ρ rs vs ∧ okVs U rs
  | [], rs, h => by cases h; exact ⟨[], rfl, trivial, trivial⟩
  | .tmp t :: r, rs, h => by
    simp only [resV] at h
    split at h
    · rename_i x xs h1 h2
      cases h
      obtain ⟨vs, i1, i2, i3⟩ := resV_ok hM hS h2
      have := hS.t t
      rw [h1] at this
      exact ⟨a.tmps.getD t undef :: vs, by simp only [List.mapM_cons, Sem.run_bind, Sem.run_pure, Result.andThen_ok, i1], ⟨this.1, i2⟩, ⟨this.2, i3⟩⟩
    · cases h
  | .cell p t :: r, rs, h => by
    simp only [resV] at h
    split at h
    · rename_i x xs h1 h2
      cases h
      obtain ⟨vs, i1, i2, i3⟩ := resV_ok hM hS h2
      split at h1
      · rename_i l hl
        have := hS.t p
        rw [hl] at this
        obtain ⟨y, y1, y2, y3⟩ := loadVal_ok hM this.1.1 this.2 h1
        exact ⟨y :: vs, by simp only [List.mapM_cons, Sem.run_bind] at y1 ⊢; simp only [y1, Sem.run_pure, Result.andThen_ok, i1], ⟨y2, i2⟩, ⟨y3, i3⟩⟩
      · cases h1
    · cases h
def outV : List Value → Value | [x] => x | vs => .tuple vs.toArray
theorem results_ok {P : Program} {w0 w : World} {X Z : Fp} {U : KS} {st : St} {ρ : Rho} {Fk : Key → Fp} {a : Act} {ovs : List Value} (hM : Mem P w0 X Z U w st.m ρ Fk) (hS : Slots U ρ st a ovs) {fn : Func} {rs : List V} (h : resV P st fn.results.toList = some rs) :
    ∃ v vs, (results fn a.tmps).run P w = .ok v w ∧ relVs ρ rs vs ∧ okVs U rs ∧ v = outV vs := by
  obtain ⟨vs, h1, h2, h3⟩ := resV_ok hM hS h
  refine ⟨_, vs, ?_, h2, h3, rfl⟩
  have : (fn.results.mapM fun x => (match x with | .tmp t => pure (a.tmps.getD t undef) | .cell p t => do loadVar t (← asAddr (a.tmps.getD p undef)) : Sem Value)).run P w = .ok vs.toArray w := by
    rw [← Array.toArray_toList (xs := fn.results), List.mapM_toArray]
    simp only [Sem.run_map, h1, Result.andThen_ok]
  unfold results
  rw [Sem.run_bind]
  refine Eq.trans (congrArg (fun r => Result.andThen r _) this) ?_
  simp only [Result.andThen_ok, Sem.run_pure]
  congr 1
  cases vs with
  | nil => rfl
  | cons x vs =>
    cases vs with
    | nil => rfl
    | cons y vs => rfl
theorem resT_of {ρ : Rho} {rs : List V} {vs : List Value} (h : relVs ρ rs vs) : relT ρ (resT rs) (outV vs) := by
  cases rs with
  | nil => cases vs <;> first | exact ⟨[], rfl, trivial⟩ | exact h.elim
  | cons r rs =>
    cases vs with
    | nil => exact h.elim
    | cons v vs =>
      cases rs with
      | nil => cases vs <;> first | exact h.1 | exact h.2.elim
      | cons r' rs =>
        cases vs with
        | nil => exact h.2.elim
        | cons v' vs => exact ⟨_, rfl, h⟩
theorem ownOf_rel {ρ : Rho} : ∀ {md : List Bool} {ts : List V} {vals : List Value}, relVs ρ ts vals → relVs ρ (ownOf md ts) (ownOf md vals)
  | [], _, _, _ => by simp [ownOf, relVs]
  | true :: md, [], [], _ => by simp [ownOf, relVs]
  | false :: md, [], [], _ => by simp [ownOf, relVs]
  | true :: md, t :: ts, v :: vals, h => ⟨h.1, ownOf_rel h.2⟩
  | false :: md, t :: ts, v :: vals, h => ownOf_rel (md := md) (ts := ts) h.2
  | _ :: _, [], _ :: _, h => h.elim
  | _ :: _, _ :: _, [], h => h.elim
theorem ownOf_ok {U : KS} : ∀ {md : List Bool} {ts : List V}, okVs U ts → okVs U (ownOf md ts)
  | [], _, _ => by simp [ownOf, okVs]
  | true :: md, [], _ => by simp [ownOf, okVs]
  | false :: md, [], _ => by simp [ownOf, okVs]
  | true :: md, t :: ts, h => ⟨h.1, ownOf_ok h.2⟩
  | false :: md, t :: ts, h => ownOf_ok (md := md) (ts := ts) h.2

/-- The functions that are known without being run. -/
def PrimOk (E : Env) : Prop := ∀ f p, E.prim f = some p → ∀ ts bs rs os bs', p ts bs = some (rs, os, bs') → CallOk E.P (E.md f) f ts bs rs os bs'

theorem body_ok {E : Env} {orc : Orc} (horc : OrcOk E.P E.md orc) (hdraw : DrawOk E orc) {f : FuncId} {fn : Func} {c : Code} (hfn : E.P.funcs[f]? = some fn) (hc : fn.body = some c) {k : Nat} {ts rs os : List V} {bs bs' : List Blk} (hlen : ts.length ≤ fn.ntmps) {ex : Ex} {st : St} (hex : ex = .nx ∨ ex = .ret)
    (h : exec E orc f c 0 k (startSt (E.md f) fn.ntmps ts bs) = some (ex, st)) (hfin : finish E.P fn.results.toList st = some (rs, os, bs')) : CallOk E.P (E.md f) f ts bs rs os bs' := by
  intro w ρ Fk vals hM hrel hok
  have hvl := hrel.length
  have hlt : ∀ k, Uk bs.length k → k.e < 1 := by rintro k ⟨j, _, rfl⟩; exact Nat.zero_lt_one
  have hF : Fits E.P w (Xof (bsM bs) Fk) (Zof (bsM bs) Fk) (ownOf (E.md f) vals) (fun k => k.e < 1) (startSt (E.md f) fn.ntmps ts bs) { tmps := vals.toArray ++ Array.replicate (fn.ntmps - vals.toArray.size) undef, defers := [] } w := by
    refine ⟨ρ, Fk, hM.mono hlt, ⟨fun n => ?_, ?_, rfl, ownOf_rel hrel, (ownOf_ok hok).imp hlt⟩⟩
    · show relT ρ (.v (ts.getD n (.one .dead))) _ ∧ okT _ (.v (ts.getD n (.one .dead)))
      cases hn : ts[n]? with
      | none =>
        rw [List.getD_eq_getElem?_getD, hn]
        exact dead_ok
      | some t =>
        rw [List.getD_eq_getElem?_getD, hn]
        obtain ⟨v, v1, v2, v3⟩ := hrel.get hok hn
        have : (vals.toArray ++ Array.replicate (fn.ntmps - vals.toArray.size) undef).getD n undef = v := by
          have hlt' := (List.getElem?_eq_some_iff.1 v1).1
          rw [Array.getD_eq_getD_getElem?, Array.getElem?_append_left (by simpa using hlt')]
          simp [v1]
        show relT ρ (.v t) ((vals.toArray ++ Array.replicate (fn.ntmps - vals.toArray.size) undef).getD n undef) ∧ _
        rw [this]
        exact ⟨v2, v3.imp hlt⟩
    · simp [startSt]
      omega
  refine calls_of_wp hfn hc (exec_ok (P := E.P) rfl Xof_Zof horc hdraw f c 0 k _ ex st _ _ _ h hF ?_)
  intro a' w' hF'
  obtain ⟨ρ', Fk', hM', hS'⟩ := hF'
  unfold finish at hfin
  split at hfin
  · rename_i rs0 hrs
    cases hfin
    obtain ⟨v, vs, v1, v2, v3, v4⟩ := results_ok hM' hS' hrs
    obtain ⟨κ1, g1, r1⟩ := packVs_ok (own := true) rs0 (PkOk.nil (m := st.m) (κ := fun _ => pk 0))
    obtain ⟨κ2, g2, r2⟩ := packVs_ok (own := true) st.o g1.ok
    have hρ := packRho_eq ρ' κ2 (packVs true st.m (packVs true st.m ⟨[], []⟩ rs0).2 st.o).2.bs.length
    have r1' := r1.mono g2.same g2.le
    have key : bodyPost E.P fn (fun e w' => ∃ v ρ' Fk', e = .returned v ∧ Mem E.P w (Xof (bsM bs) Fk) (Zof (bsM bs) Fk) (Uk (packVs true st.m (packVs true st.m ⟨[], []⟩ rs0).2 st.o).2.bs.length) w' (bsM (packVs true st.m (packVs true st.m ⟨[], []⟩ rs0).2 st.o).2.bs) ρ' Fk' ∧
        relT ρ' (resT (packVs true st.m ⟨[], []⟩ rs0).1) v ∧ okVs (Uk (packVs true st.m (packVs true st.m ⟨[], []⟩ rs0).2 st.o).2.bs.length) (packVs true st.m ⟨[], []⟩ rs0).1 ∧ relVs ρ' (packVs true st.m (packVs true st.m ⟨[], []⟩ rs0).2 st.o).1 (ownOf (E.md f) vals) ∧
        okVs (Uk (packVs true st.m (packVs true st.m ⟨[], []⟩ rs0).2 st.o).2.bs.length) (packVs true st.m (packVs true st.m ⟨[], []⟩ rs0).2 st.o).1) .ret a' w' := by
      refine ⟨hS'.df, v, v1, v, packRho ρ' κ2, packFk Fk' κ2, rfl, hM'.pack g2.ok, ?_, r1'.ok, r2.rel hρ hS'.o.1, r2.ok⟩
      rw [v4]
      exact resT_of (r1'.rel hρ v2)
    rcases hex with rfl | rfl
    · exact key
    · exact key
  · cases hfin

theorem run_ok {E : Env} (hprim : PrimOk E) (hdraw : ∀ orc, OrcOk E.P E.md orc → DrawOk E orc) : ∀ k, OrcOk E.P E.md (run E k)
  | 0 => fun g ts bs rs os bs' h => by cases h
  | k + 1 => fun g ts bs rs os bs' h => by
    have ih := run_ok hprim hdraw k
    simp only [run] at h
    split at h
    · rename_i p hp
      exact hprim g p hp ts bs rs os bs' h
    · split at h
      · rename_i fn hfn
        split at h
        · rename_i c hc
          split at h
          · rename_i hlen
            split at h
            · rename_i st hex
              exact body_ok ih (hdraw _ ih) hfn hc hlen (.inl rfl) hex h
            · rename_i st hex
              exact body_ok ih (hdraw _ ih) hfn hc hlen (.inr rfl) hex h
            · cases h
          · cases h
        · cases h
      · cases h
end Go.Proofs.Ytefofjpjbogilaa.M
