/- One operation, whole; a region whose operations come in the text's order. -/
import Derived.Test.YtefofjpjbogilaaCall2
namespace Go.Proofs.Ytefofjpjbogilaa.M
set_option linter.unusedVariables false
set_option linter.unusedSimpArgs false
set_option linter.unusedSectionVars false

/-- The oracle tells the truth. -/
def OrcOk (P : Program) (md : Nat → List Bool) (orc : Orc) : Prop := ∀ g ts bs rs os bs', orc g ts bs = some (rs, os, bs') → CallOk P (md g) g ts bs rs os bs'

theorem relVs.append {ρ : Rho} : ∀ {ls ls' : List V} {xs xs' : List Value}, relVs ρ ls xs → relVs ρ ls' xs' → relVs ρ (ls ++ ls') (xs ++ xs')
  | [], _, [], _, _, h => h
  | l :: ls, _, v :: vs, _, h, h' => ⟨h.1, relVs.append (ls := ls) h.2 h'⟩
  | [], _, _ :: _, _, r, _ => r.elim
  | _ :: _, _, [], _, r, _ => r.elim
theorem relVs_ones {ρ : Rho} : ∀ {ls : List L} {xs : List Value}, relLs ρ ls xs → relVs ρ (ls.map .one) xs
  | [], [], _ => trivial
  | l :: ls, x :: xs, h => ⟨h.1, relVs_ones h.2⟩
  | [], _ :: _, r => r.elim
  | _ :: _, [], r => r.elim

section
variable {P : Program} {w0 w : World} {X Z : Fp} {U : KS} {st : St} {ρ : Rho} {Fk : Key → Fp} {a : Act} {ovs : List Value} {kf : Nat → Key}
variable (hinj : ∀ i j, kf i = kf j → i = j) (hXZ : ∀ x, X x → Z x)
variable (hM : Mem P w0 X Z U w st.m ρ Fk) (hS : Slots U ρ st a ovs) (hf : ∀ j, ¬ U (kf j))
variable {md : Nat → List Bool} {orc : Orc} (horc : OrcOk P md orc)

theorem MOk.wp {o : Oper} {δ : Dl} {U' : KS} {m : Key → Option Blk} (h : MOk P w0 w X Z U U' ρ m a o δ) {K : Act → World → Prop} {Q : Exit → Act → World → Prop}
    (hK : ∀ v w' ρ' Fk', Left P w0 X Z U U' ρ m δ v w' ρ' Fk' → K (a.put o.dst v) w') : o.wp P a w K Q := by
  obtain ⟨v, w', ρ', Fk', hr, hL⟩ := h
  unfold Oper.wp
  rcases hr with hr | ⟨hr, rfl⟩
  · rw [hr]; exact hK _ _ _ _ hL
  · rw [hr]; exact hK _ _ _ _ hL

include hinj hM hS hf horc in
theorem call_ok {o : Oper} {c : Call} (heq : o.op = .call c) {x : Operand} (hcal : c.callee = .value x) {δ : Dl} (h : stepM P md orc kf o st = some δ) {K : Act → World → Prop} {Q : Exit → Act → World → Prop}
    (hK : ∀ v w' ρ' Fk', Left P w0 X Z U (Uand U kf) ρ st.m δ v w' ρ' Fk' → K (a.put o.dst v) w') : o.wp P a w K Q := by
  unfold stepM at h
  simp only [heq, hcal] at h
  split at h
  · rename_i g caps vs h1 h2
    unfold callF at h
    split at h
    · rename_i hcallable
      split at h
      rename_i ts p hpack
      split at h
      · rename_i rs os bs ho
        simp only at h
        split at h
        · rename_i hck
          cases h
          simp only [Bool.and_eq_true] at hck
          obtain ⟨⟨capv, e1, rc⟩, _, kc⟩ := evL_ok hS h1
          obtain ⟨ra, ka⟩ := evVs_ok hS h2
          have hrel := relVs.append ra (relVs_ones rc)
          obtain ⟨κ, hg, hren⟩ := packArgs_ok (md g) (vs ++ caps.map .one) (PkOk.nil (m := st.m) (κ := fun _ => pk 0))
          rw [hpack] at hg hren
          have hp := hg.ok
          have hC := horc g ts p.bs rs os bs ho w _ _ _ (hM.pack hp).rebase (hren.rel (packRho_eq ρ κ _) hrel) hren.ok
          unfold Oper.wp
          have hrun : (execOp a.eval o).run P w = .ok (.enter g (c.args.toList.map a.eval ++ capv).toArray) w := by
            unfold execOp
            rw [heq]
            unfold callable at hcallable
            split at hcallable
            · rename_i fn hfn
              simp only [Bool.and_eq_true, Bool.not_eq_true', beq_eq_false_iff_ne, ne_eq] at hcallable
              have hbody : fn.body.isNone = false := by cases hb : fn.body <;> simp_all
              have hname : (fn.name == "runtime.NumGoroutine") = false := by simpa using hcallable.1
              simp only [resolve, hcal, e1, Deferred.ofValue, Sem.run_bind, Sem.run_pure, Result.andThen_ok, invoke, callFunc, run_program, hfn, hname, hbody, Bool.false_eq_true, if_false]
              congr 2
              apply Array.ext'
              simp
            · cases hcallable
          rw [hrun, Oper.upon_enter]
          refine hC.mono fun e w' => ?_
          rintro ⟨v, ρ', Fk', rfl, hM', hres, hrk, hos, hok⟩
          obtain ⟨ρ'', Fk'', b1, b2, b3, b4⟩ := back_ok hinj hf hM hp hM' hck.1 hck.2 (fun j k hm => aliases_ok hrel hos hok hm)
          exact hK v w' ρ'' Fk'' ⟨b1, resT_rel b2 hrk hres, resT_ok b4 hrk, b3⟩
        · cases h
      · cases h
    · cases h
  · cases h

include hinj hXZ hM hS hf horc in
theorem stepM_ok {o : Oper} {δ : Dl} (h : stepM P md orc kf o st = some δ) {K : Act → World → Prop} {Q : Exit → Act → World → Prop}
    (hK : ∀ v w' ρ' Fk', Left P w0 X Z U (Uand U kf) ρ st.m δ v w' ρ' Fk' → K (a.put o.dst v) w') : o.wp P a w K Q := by
  cases hop : o.op with
  | alloc t => exact (alloc_ok hinj hXZ hM hS hf hop h).wp hK
  | box t x => exact (box_ok hXZ hM hS hf hop h).wp hK
  | buildSlice t n ps => exact (buildSlice_ok hXZ hM hS hf hop h).wp hK
  | store t x y => exact (store_ok hXZ hM hS hop h).wp hK
  | makeSlice t x y => exact (makeSlice_ok hXZ hM hS hf hop h).wp hK
  | convert s d x => exact (convert_ok hXZ hM hS hf hop h).wp hK
  | call c =>
    cases hc : c.callee with
    | value x => exact call_ok hinj hM hS hf horc hop hc h hK
    | builtin b =>
      cases b with
      | append => exact (append_ok hXZ hM hS hf hop hc h).wp hK
      | _ => simp [stepM, hop, hc] at h
    | invoke r n => simp [stepM, hop, hc] at h
  | _ => simp [stepM, hop] at h
end

theorem key_inj (st : St) (i : Nat) : ∀ a b, st.key i a = st.key i b → a = b := fun a b h => by injection h
/-- An operation of a region: what holds behind it. -/
theorem step_ok {P : Program} {w0 w : World} {X Z : Fp} {U : KS} {st : St} {ρ : Rho} {Fk : Key → Fp} {a : Act} {ovs : List Value} (hXZ : ∀ x, X x → Z x)
    (hM : Mem P w0 X Z U w st.m ρ Fk) (hS : Slots U ρ st a ovs) {md : Nat → List Bool} {orc : Orc} (horc : OrcOk P md orc) {i : Nat} (hf : ∀ j, ¬ U (st.key i j)) {o : Oper} {δ : Dl} (h : step P md orc i o st = some δ)
    {K : Act → World → Prop} {Q : Exit → Act → World → Prop}
    (hK : ∀ v w' ρ' Fk', Left P w0 X Z U (Uand U (st.key i)) ρ st.m δ v w' ρ' Fk' → K (a.put o.dst v) w') : o.wp P a w K Q := by
  unfold step at h
  split at h
  · rename_i x hx
    cases h
    obtain ⟨v, hr, r1, r2⟩ := stepT_ok hM hS hx
    obtain ⟨ρ', Fk', hL⟩ := give_ok (kf := st.key i) (key_inj st i) hXZ hM hf (t := giveTy o) r1 r2
    unfold Oper.wp
    rw [hr]
    exact hK v w ρ' Fk' hL
  · exact stepM_ok (key_inj st i) hXZ hM hS hf horc h hK

/-- The keys in use where the operations before number i are done. -/
def Ureg (e i : Nat) : KS := fun k => k.e < e ∨ (k.e = e ∧ 0 < k.d ∧ k.d ≤ i)
/-- A state of the interpreter that the machine's fits. -/
def Fits (P : Program) (w0 : World) (X Z : Fp) (ovs : List Value) (U : KS) (st : St) (a : Act) (w : World) : Prop := ∃ ρ Fk, Mem P w0 X Z U w st.m ρ Fk ∧ Slots U ρ st a ovs
theorem Fits.mono {P : Program} {w0 w : World} {X Z : Fp} {ovs : List Value} {U U' : KS} {st : St} {a : Act} (h : Fits P w0 X Z ovs U st a w) (hU : ∀ k, U k → U' k) : Fits P w0 X Z ovs U' st a w := by
  obtain ⟨ρ, Fk, h1, h2⟩ := h
  exact ⟨ρ, Fk, h1.mono hU, h2.imp hU fun _ _ => ⟨rfl, rfl⟩⟩
theorem Fits.app {P : Program} {w0 w' : World} {X Z : Fp} {ovs : List Value} {U U' : KS} {st : St} {a : Act} {ρ ρ' : Rho} {Fk' : Key → Fp} {o : Oper} {δ : Dl} {v : Value} (hS : Slots U ρ st a ovs) (hU : ∀ k, U k → U' k) (hd : okDst st o = true)
    (hL : Left P w0 X Z U U' ρ st.m δ v w' ρ' Fk') : Fits P w0 X Z ovs U' (st.app o.dst δ) (a.put o.dst v) w' :=
  ⟨ρ', Fk', hL.mem, (hS.imp hU hL.eq).app hd hL.rel hL.ok⟩
theorem guard_ok {U : KS} {ρ : Rho} {st : St} {a : Act} {ovs : List Value} (hS : Slots U ρ st a ovs) {all : Array Oper} {o : Oper} {g : Bool} (h : guardB st all o = some g) : Region.wanted o (yielded all a.tmps) = g := by
  unfold guardB at h
  unfold Region.wanted
  split at h
  · rename_i hg
    cases h
    rw [hg]
  · rename_i j w hg
    rw [hg]
    simp only []
    split at h
    · rename_i d hd
      have hget : ∀ v, a.tmps.getD d undef = v → v ≠ undef → a.tmps[d]? = some v := by
        intro v hv hne
        rw [Array.getD_eq_getD_getElem?] at hv
        cases hx : a.tmps[d]? with
        | none => rw [hx] at hv; exact absurd hv.symm hne
        | some y => rw [hx] at hv; simpa using hv
      split at h
      · rename_i b hb
        cases h
        have hr := (hS.t d).1
        rw [hb] at hr
        have := hget _ hr.1 (by intro e; cases e)
        unfold yielded
        rw [hd]
        simp only [Option.bind_some, this]
        cases b <;> cases w <;> rfl
      · rename_i v hne hb
        cases h
        have hr := (hS.t d).1
        rw [hb] at hr
        have hv : a.tmps.getD d undef = v := hr.1
        have hy : yielded all a.tmps j = none := by
          unfold yielded
          rw [hd]
          simp only [Option.bind_some]
          rw [Array.getD_eq_getD_getElem?] at hv
          split
          · rename_i b hb'
            rw [hb'] at hv
            simp at hv
            subst hv
            exact absurd rfl (hne b)
          · rfl
        rw [hy]
        rfl
      · cases h
    · cases h
theorem undef_left {P : Program} {w0 w : World} {X Z : Fp} {U U' : KS} {ρ : Rho} {m : Key → Option Blk} {Fk : Key → Fp} (hM : Mem P w0 X Z U w m ρ Fk) (hU : ∀ k, U k → U' k) : Left P w0 X Z U U' ρ m ⟨undefT, []⟩ undef w ρ Fk :=
  ⟨hM.mono hU, ⟨rfl, fun _ cs e => by cases e⟩, trivial, fun _ _ => ⟨rfl, rfl⟩⟩
theorem runOps_ok {P : Program} {w0 : World} {X Z : Fp} {ovs : List Value} (hXZ : ∀ x, X x → Z x) {md : Nat → List Bool} {orc : Orc} (horc : OrcOk P md orc) {all : Array Oper} {Q : Exit → Act → World → Prop} :
    ∀ (r : List Oper) (i : Nat) (st st' : St) (a : Act) (w : World), all.toList.drop i = r → Fits P w0 X Z ovs (Ureg st.e i) st a w → runOps P md orc all i r st = some st' →
      (∀ a' w', st'.e = st.e → Fits P w0 X Z ovs (fun k => k.e < st.e + 1) st' a' w' → Q .normal a' w') → wpOps P all Q (List.range' i r.length) a w
  | [], i, st, st', a, w, hr, hF, h, hQ => by
    cases h
    refine hQ a w rfl (hF.mono fun k hk => ?_)
    rcases hk with h | ⟨h, _⟩
    · show k.e < st.e + 1
      omega
    · show k.e < st.e + 1
      omega
  | o :: r, i, st, st', a, w, hr, hF, h, hQ => by
    have hi : all[i]? = some o := by
      have : all.toList[i]? = some o := by
        have := congrArg (·[0]?) hr
        simpa using this
      simpa using this
    have hr' : all.toList.drop (i + 1) = r := by
      rw [← List.drop_drop, hr]
      rfl
    simp only [runOps] at h
    split at h
    · rename_i hd
      split at h
      · rename_i g hg
        obtain ⟨ρ, Fk, hM, hS⟩ := hF
        have hw := guard_ok hS hg
        simp only [List.length_cons, List.range'_succ, wpOps, hi, hw]
        have hU : ∀ k, Ureg st.e i k → Ureg st.e (i + 1) k := fun k hk => by
          rcases hk with h | ⟨h1, h2, h3⟩
          · exact .inl h
          · exact .inr ⟨h1, h2, by omega⟩
        cases g with
        | true =>
          simp only [cond_true] at h
          split at h
          · rename_i δ hδ
            left
            refine step_ok hXZ hM hS horc (i := i) (fun j hu => ?_) hδ fun v w' ρ' Fk' hL => ?_
            · rcases hu with h | ⟨h1, h2, h3⟩
              · simp [St.key] at h
              · simp [St.key] at h3; omega
            · refine runOps_ok hXZ horc r (i + 1) _ st' _ _ hr' ?_ h hQ
              refine Fits.mono (Fits.app hS Uand_of hd hL) fun k hk => ?_
              rcases hk with hk | ⟨j, rfl⟩
              · exact hU k hk
              · exact .inr ⟨rfl, by simp [St.key], by simp [St.key]⟩
          · cases h
        | false =>
          simp only [cond_false] at h
          simp only [Bool.false_eq_true, if_false]
          exact runOps_ok hXZ horc r (i + 1) _ st' _ _ hr' (Fits.app hS hU hd (undef_left hM hU)) h hQ
      · cases h
    · cases h
end Go.Proofs.Ytefofjpjbogilaa.M
