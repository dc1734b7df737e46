/- The guided executor: code without loops. -/
import Derived.Test.YtefofjpjbogilaaG
namespace Go.Proofs.Ytefofjpjbogilaa.M
set_option linter.unusedVariables false
set_option linter.unusedSimpArgs false
set_option linter.unusedSectionVars false

theorem stepM_T {P : Program} {md : Nat → List Bool} {orc : Orc} {kf : Nat → Key} {o : Oper} {st : St} {δ : Dl} (h : stepM P md orc kf o st = some δ) : stepT P o st = none := by
  have hel : ∀ {t e}, elemT P t = some e → isStr P t = false := by
    intro t e he
    unfold isStr
    rw [elemT_spec he]
  cases hop : o.op with
  | convert src dst x =>
    simp only [stepM, hop] at h
    simp only [stepT, hop]
    split at h
    · rename_i s h1
      rw [h1]
      split at h
      · rename_i e h2 h3
        simp [hel h2]
      · cases h
    · rename_i k h1
      rw [h1]
      split at h
      · rename_i e xs h2 h3
        split at h
        · rename_i hc
          simp only [hc.1] at *
          simp [hel hc.2.2]
        · cases h
      · cases h
    · cases h
  | call c =>
    simp only [stepM, hop] at h
    simp only [stepT, hop]
    cases hc : c.callee with
    | builtin b => cases b <;> simp only [hc] at h ⊢ <;> first | rfl | cases h
    | _ => rfl
  | makeFunc f a b => simp only [stepM, hop] at h; cases h
  | slice t x lo hi mx => simp only [stepM, hop] at h; cases h
  | _ => first | (simp only [stepM, hop] at h; cases h; done) | simp only [stepT, hop]

def stepG (P : Program) (md : Nat → List Bool) (i : Nat) (o : Oper) (st : St) (sc : Scr) : G Dl :=
  match stepTG P o st sc with
  | some (x, sc', cs) => some (giveD P (st.key i) (giveTy o) x, sc', cs)
  | none => stepMG P md (st.key i) o st sc
theorem stepG_ok {P : Program} {md : Nat → List Bool} {i : Nat} {o : Oper} {st : St} {sc sc' : Scr} {δ : Dl} {cs : List Con} {orc : Orc} (h : stepG P md i o st sc = some (δ, sc', cs)) (hc : ∀ c ∈ cs, c.holds orc) : step P md orc i o st = some δ := by
  unfold stepG at h
  split at h
  · rename_i x s1 c1 h1
    cases h
    unfold step
    rw [stepTG_ok h1 hc]
  · have h1 := stepMG_ok (orc := orc) h hc
    unfold step
    rw [stepM_T h1]
    exact h1
/-- The operations of a region. -/
def opsG (P : Program) (md : Nat → List Bool) (all : Array Oper) : Nat → List Oper → St → Scr → Option ((St × List Tr) × Scr × List Con)
  | _, [], st, sc => some ((st, []), sc, [])
  | i, o :: r, st, sc => if okDst st o = true then
      match guardB st all o with
      | some g =>
        match (bif g then stepG P md i o st sc else some (⟨undefT, []⟩, sc, [])) with
        | some (δ, s1, c1) => match opsG P md all (i + 1) r (st.app o.dst δ) s1 with
          | some ((st', l), s2, c2) => some ((st', ⟨i, o.dst, δ, looks all o, rdK all o st⟩ :: l), s2, c1 ++ c2)
          | none => none
        | none => none
      | none => none
    else none
theorem opsG_ok {P : Program} {md : Nat → List Bool} {all : Array Oper} {orc : Orc} : ∀ {r : List Oper} {i : Nat} {st st' : St} {l : List Tr} {sc sc' : Scr} {cs : List Con}, opsG P md all i r st sc = some ((st', l), sc', cs) → (∀ c ∈ cs, c.holds orc) →
    runOps P md orc all i r st = some st' ∧ trace P md orc all i r st = some l
  | [], i, st, st', l, sc, sc', cs, h, hc => by cases h; exact ⟨rfl, rfl⟩
  | o :: r, i, st, st', l, sc, sc', cs, h, hc => by
    simp only [opsG] at h
    split at h
    · rename_i hd
      split at h
      · rename_i g hg
        split at h
        · rename_i δ s1 c1 h1
          split at h
          · rename_i st2 l2 s2 c2 h2
            cases h
            have hc1 : ∀ c ∈ c1, c.holds orc := fun c hm => hc c (List.mem_append_left _ hm)
            obtain ⟨i1, i2⟩ := opsG_ok h2 fun c hm => hc c (List.mem_append_right _ hm)
            cases g with
            | true =>
              simp only [cond_true] at h1
              have hs := stepG_ok h1 hc1
              constructor
              · simp only [runOps, if_pos hd, hg, cond_true, hs, i1]
              · simp only [trace, opD, if_pos hd, hg, cond_true, hs, i2]
            | false =>
              simp only [cond_false] at h1
              cases h1
              constructor
              · simp only [runOps, if_pos hd, hg, cond_false, i1]
              · simp only [trace, opD, if_pos hd, hg, cond_false, i2]
          · cases h
        · cases h
      · cases h
    · cases h
def execG (E : Env) (f : Nat) : Code → St → Scr → Option ((Ex × St) × Scr × List Con)
  | .skip, st, sc => some ((.nx, st), sc, [])
  | .region _ ops draw, st, sc =>
    match opsG E.P E.md ops 0 ops.toList st sc with
    | some ((s, l), s1, c1) => if (!draw || (backward ops && pairsOk ops l)) = true then some ((.nx, { s with e := s.e + 1 }), s1, c1) else none
    | none => none
  | .seq a b, st, sc => match execG E f a st sc with
    | some ((.nx, s), s1, c1) => match execG E f b s s1 with | some (r, s2, c2) => some (r, s2, c1 ++ c2) | none => none
    | r => r
  | .cond c a b, st, sc => match evF st c with
    | some (.bool t) => bif t then execG E f a st sc else execG E f b st sc
    | _ => none
  | .block id c, st, sc => match execG E f c st sc with
    | some ((.exit i, s), s1, c1) => if i = id then some ((.nx, s), s1, c1) else some ((.exit i, s), s1, c1)
    | r => r
  | .exit i, st, sc => some ((.exit i, st), sc, [])
  | .ret, st, sc => some ((.ret, st), sc, [])
  | _, _, _ => none
theorem execG_ok {E : Env} {f : Nat} {orc : Orc} : ∀ (c : Code) {id k : Nat} {st st' : St} {ex : Ex} {sc sc' : Scr} {cs : List Con}, execG E f c st sc = some ((ex, st'), sc', cs) → (∀ c ∈ cs, c.holds orc) → exec E orc f c id k st = some (ex, st') := by
  intro c
  induction c with
  | skip => intro id k st st' ex sc sc' cs h hc; cases h; rfl
  | exit i => intro id k st st' ex sc sc' cs h hc; cases h; rfl
  | ret => intro id k st st' ex sc sc' cs h hc; cases h; rfl
  | region rid ops draw =>
    intro id k st st' ex sc sc' cs h hc
    simp only [execG] at h
    split at h
    · rename_i s l s1 c1 h1
      split at h
      · rename_i hd
        cases h
        obtain ⟨r1, r2⟩ := opsG_ok h1 hc
        simp only [exec, r1]
        rw [if_neg]
        rintro ⟨hdr, hno⟩
        unfold drawOk at hno
        rw [r2] at hno
        rw [hdr] at hd
        simp only [Bool.not_true, Bool.false_or] at hd
        rw [hd] at hno
        cases hno
      · cases h
    · cases h
  | seq x y ihx ihy =>
    intro id k st st' ex sc sc' cs h hc
    simp only [execG] at h
    split at h
    · rename_i s s1 c1 h1
      split at h
      · rename_i r s2 c2 h2
        cases h
        simp only [exec, ihx h1 fun c hm => hc c (List.mem_append_left _ hm)]
        exact ihy h2 fun c hm => hc c (List.mem_append_right _ hm)
      · cases h
    · rename_i hne
      have := ihx (id := id) (k := k) h hc
      simp only [exec, this]
      cases ex with
      | nx => exact absurd h (hne _ _ _)
      | exit i => rfl
      | ret => rfl
  | cond c x y ihx ihy =>
    intro id k st st' ex sc sc' cs h hc
    simp only [execG] at h
    split at h
    · rename_i t ht
      simp only [exec, ht]
      cases t with
      | true => exact ihx h hc
      | false => exact ihy h hc
    · cases h
  | block bid c ih =>
    intro id k st st' ex sc sc' cs h hc
    simp only [execG] at h
    split at h
    · rename_i i s s1 c1 h1
      split at h
      · rename_i hi
        cases h
        simp only [exec, ih h1 hc, hi, if_true]
      · rename_i hi
        cases h
        simp only [exec, ih h1 hc, hi, if_false]
    · rename_i hne
      have := ih (id := bid) (k := k) h hc
      simp only [exec, this]
      cases ex with
      | nx => rfl
      | exit i => exact absurd h (hne _ _ _ _)
      | ret => rfl
  | _ => intros; rename_i h _; simp [execG] at h
theorem Ev.guided {E : Env} {f : Nat} {orc : Orc} {c : Code} {id : Nat} {st st' : St} {ex : Ex} {sc sc' : Scr} {cs : List Con} {Q : Ex → St → Prop} (h : execG E f c st sc = some ((ex, st'), sc', cs)) (hc : ∀ c ∈ cs, c.holds orc) (hq : Q ex st') : Ev E orc f c id st Q :=
  ⟨0, ex, st', execG_ok c h hc, hq⟩
/-- A whole call of a function without loops, guided. -/
def runG (E : Env) (f : Nat) (ts : List V) (bs : List Blk) (sc : Scr) : Option (Res × List Con) :=
  match E.P.funcs[f]? with
  | some fn => match fn.body with
    | some c => if ts.length ≤ fn.ntmps then
        match execG E f c (startSt (E.md f) fn.ntmps ts bs) sc with
        | some ((.nx, st), _, cs) => match finish E.P fn.results.toList st with | some r => some (r, cs) | none => none
        | some ((.ret, st), _, cs) => match finish E.P fn.results.toList st with | some r => some (r, cs) | none => none
        | _ => none
      else none
    | none => none
  | none => none
theorem good_path {E : Env} (hmix : E.P.follows .mixedOrders = true) {Post : PostT} {f : FuncId} {ts : List V} {bs : List Blk} {sc : Scr} {r : Res} {cs : List Con} (h : runG E f ts bs sc = some (r, cs)) (hc : ∀ c ∈ cs, c.holds (orcT E.P E.md Post)) (hp : Post f ts bs r) : Good E.P E.md Post f ts bs := by
  unfold runG at h
  split at h
  · rename_i fn hfn
    split at h
    · rename_i c hb
      split at h
      · rename_i hlen
        split at h
        · rename_i st s1 c1 hx
          split at h
          · rename_i r' hr
            cases h
            exact good_of hmix hfn hb hlen (Ev.guided hx hc ⟨.inl rfl, r, hr, hp⟩)
          · cases h
        · rename_i st s1 c1 hx
          split at h
          · rename_i r' hr
            cases h
            exact good_of hmix hfn hb hlen (Ev.guided hx hc ⟨.inr rfl, r, hr, hp⟩)
          · cases h
        · cases h
      · cases h
    · cases h
  · cases h
end Go.Proofs.Ytefofjpjbogilaa.M
