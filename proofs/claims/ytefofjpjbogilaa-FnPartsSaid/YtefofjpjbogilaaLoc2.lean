/- What an operation looks at: the operations. -/
import Derived.Test.YtefofjpjbogilaaLoc
namespace Go.Proofs.Ytefofjpjbogilaa.M
set_option linter.unusedVariables false
set_option linter.unusedSimpArgs false
set_option linter.unusedSectionVars false

section
variable {all : Array Oper} {o : Oper} {st st' : St}
theorem looks_tmp {n : Nat} (h : Operand.tmp n ∈ opnds o.op) : n ∈ looks all o := by
  unfold looks
  rw [List.mem_append]
  left
  rw [List.mem_filterMap]
  exact ⟨_, h, rfl⟩
/-- The keys of the slots that the operation looks at. -/
def lookK (all : Array Oper) (o : Oper) (st : St) : List Key := (looks all o).flatMap fun n => keysT (st.t n)
variable (hs : ∀ n ∈ looks all o, st'.t n = st.t n)
include hs
theorem ev_loc {x : Operand} (h : x ∈ opnds o.op) : ev st' x = ev st x := by
  cases x with
  | tmp n => exact congrArg some (hs n (looks_tmp h))
  | _ => rfl
theorem evV_loc {x : Operand} (h : x ∈ opnds o.op) : evV st' x = evV st x := by unfold evV; rw [ev_loc hs h]
theorem evL_loc {x : Operand} (h : x ∈ opnds o.op) : evL st' x = evL st x := by unfold evL; rw [ev_loc hs h]
theorem evF_loc {x : Operand} (h : x ∈ opnds o.op) : evF st' x = evF st x := by unfold evF; rw [ev_loc hs h]
theorem evI_loc {x : Operand} (h : x ∈ opnds o.op) : evI st' x = evI st x := by unfold evI; rw [ev_loc hs h]
theorem evN_loc {x : Operand} (h : x ∈ opnds o.op) : evN st' x = evN st x := by unfold evN; rw [evI_loc hs h]
theorem evO_loc {x : Option Operand} (h : ∀ y, x = some y → y ∈ opnds o.op) : evO st' x = evO st x := by
  cases x with
  | none => rfl
  | some y => exact evN_loc hs (h y rfl)
theorem evVs_loc : ∀ {xs : List Operand}, (∀ x ∈ xs, x ∈ opnds o.op) → evVs st' xs = evVs st xs
  | [], _ => rfl
  | x :: xs, h => by
    simp only [evVs, evV_loc hs (h x List.mem_cons_self), evVs_loc fun y hy => h y (List.mem_cons_of_mem _ hy)]
theorem partsV_loc : ∀ {xs : List (Nat × Operand)}, (∀ x ∈ xs, x.2 ∈ opnds o.op) → partsV st' xs = partsV st xs
  | [], _ => rfl
  | (i, x) :: xs, h => by
    simp only [partsV, evV_loc hs (h _ List.mem_cons_self), partsV_loc fun y hy => h y (List.mem_cons_of_mem _ hy)]
omit hs
theorem ev_keys {x : Operand} {t : T} (h : x ∈ opnds o.op) (he : ev st x = some t) : ∀ k ∈ keysT t, k ∈ lookK all o st := by
  intro k hk
  cases x with
  | tmp n =>
    cases he
    exact List.mem_flatMap.2 ⟨n, looks_tmp h, hk⟩
  | const v =>
    cases v with
    | agg cs =>
      simp only [ev] at he
      split at he
      · cases he
        have : ∀ l : List Value, keysLs (l.map L.s) = [] := by
          intro l
          induction l with
          | nil => rfl
          | cons v l ih => simp [keysLs, keysL, ih]
        simp [keysT, keysV, V.leaves, this] at hk
      · cases he
    | _ => cases he; simp [keysT, keysV, V.leaves, keysLs, keysL] at hk
  | global g => cases he
  | func f => cases he; simp [keysT, keysV, V.leaves, keysLs, keysL] at hk
theorem evV_keys {x : Operand} {v : V} (h : x ∈ opnds o.op) (he : evV st x = some v) : ∀ k ∈ keysV v, k ∈ lookK all o st := by
  unfold evV at he
  split at he
  · rename_i a ha
    cases he
    exact ev_keys h ha
  · cases he
theorem evL_keys {x : Operand} {l : L} (h : x ∈ opnds o.op) (he : evL st x = some l) : ∀ k ∈ keysL l, k ∈ lookK all o st := by
  unfold evL at he
  split at he
  · rename_i a ha
    cases he
    intro k hk
    exact ev_keys h ha k (by simpa [keysT, keysV, V.leaves, keysLs] using hk)
  · cases he
theorem evVs_keys : ∀ {xs : List Operand} {vs : List V}, (∀ x ∈ xs, x ∈ opnds o.op) → evVs st xs = some vs → ∀ k ∈ vs.flatMap keysV, k ∈ lookK all o st
  | [], vs, _, he => by cases he; simp
  | x :: xs, vs, h, he => by
    simp only [evVs] at he
    split at he
    · rename_i v us h1 h2
      cases he
      intro k hk
      simp only [List.flatMap_cons, List.mem_append] at hk
      rcases hk with hk | hk
      · exact evV_keys (h x List.mem_cons_self) h1 k hk
      · exact evVs_keys (fun y hy => h y (List.mem_cons_of_mem _ hy)) h2 k hk
    · cases he
include hs

theorem stepT_loc {P : Program} (hk : ∀ k ∈ rdK all o st, st'.m k = st.m k) : stepT P o st' = stepT P o st := by
  cases hop : o.op with
  | move x => simp only [stepT, hop]; rw [ev_loc hs (by rw [hop]; simp [opnds])]
  | assign x => simp only [stepT, hop]; rw [ev_loc hs (by rw [hop]; simp [opnds])]
  | pick c a b => simp only [stepT, hop]; rw [evF_loc hs (x := c) (by rw [hop]; simp [opnds]), evF_loc hs (x := a) (by rw [hop]; simp [opnds]), evF_loc hs (x := b) (by rw [hop]; simp [opnds])]
  | binOp op t x y p => simp only [stepT, hop]; rw [evF_loc hs (x := x) (by rw [hop]; simp [opnds]), evF_loc hs (x := y) (by rw [hop]; simp [opnds])]
  | unOp op t x => simp only [stepT, hop]; rw [evF_loc hs (x := x) (by rw [hop]; simp [opnds])]
  | build t ps => simp only [stepT, hop]; rw [partsV_loc hs (xs := ps.toList) (fun x hx => by rw [hop]; exact List.mem_map_of_mem hx)]
  | load t x =>
    simp only [stepT, hop]
    rw [evL_loc hs (x := x) (by rw [hop]; simp [opnds])]
    cases hl : evL st x with
    | none => rfl
    | some l => simp only [loadV_loc fun k h => hk k (by simp only [rdK, hop]; exact evL_keys (by rw [hop]; simp [opnds]) hl k h)]
  | nilCheck x => simp only [stepT, hop]; rw [evL_loc hs (x := x) (by rw [hop]; simp [opnds])]
  | fieldAddr t x f => simp only [stepT, hop]; rw [evL_loc hs (x := x) (by rw [hop]; simp [opnds])]
  | indexAddr t x i =>
    simp only [stepT, hop]
    rw [evL_loc hs (x := x) (by rw [hop]; simp [opnds]), evI_loc hs (x := i) (by rw [hop]; simp [opnds])]
    cases hl : evL st x with
    | none => rfl
    | some l =>
      have := fun k h => hk k (by simp only [rdK, hop]; exact evL_keys (by rw [hop]; simp [opnds]) hl k h)
      cases l with
      | sl k => cases evI st i <;> simp only [this k (by simp [keysL])]
      | sub k lo n => cases evI st i <;> simp only [this k (by simp [keysL])]
      | _ => rfl
  | index t x i => simp only [stepT, hop]; rw [evF_loc hs (x := x) (by rw [hop]; simp [opnds]), evI_loc hs (x := i) (by rw [hop]; simp [opnds])]
  | slice t x lo hi mx =>
    cases mx with
    | some m => simp only [stepT, hop]
    | none =>
      simp only [stepT, hop]
      have hhi : ∀ d : Nat, evHi st' hi d = evHi st hi d := by
        intro d
        cases hi with
        | none => rfl
        | some y => exact evN_loc hs (by rw [hop]; simp [opnds])
      rw [evL_loc hs (x := x) (by rw [hop]; simp [opnds]), evO_loc hs (x := lo) (fun y hy => by rw [hop]; subst hy; simp [opnds])]
      cases hl : evL st x with
      | none => rfl
      | some l =>
        have := fun k h => hk k (by simp only [rdK, hop]; exact evL_keys (by rw [hop]; simp [opnds]) hl k h)
        cases l with
        | sl k => cases evO st lo <;> simp only [this k (by simp [keysL]), hhi]
        | sub k l0 n => cases evO st lo <;> simp only [this k (by simp [keysL]), hhi]
        | s v => simp only [hhi]; cases v <;> cases evO st lo <;> rfl
        | _ => rfl
  | extract x i => simp only [stepT, hop]; rw [ev_loc hs (by rw [hop]; simp [opnds])]
  | makeFunc f first caps =>
    cases f with
    | func f =>
      simp only [stepT, hop]
      rw [evVs_loc hs (xs := caps.toList) (fun x hx => by rw [hop]; exact hx)]
    | _ => simp only [stepT, hop]
  | convert src dst x =>
    simp only [stepT, hop]
    rw [evL_loc hs (x := x) (by rw [hop]; simp [opnds])]
    cases hl : evL st x with
    | none => rfl
    | some l =>
      have := rowOf_loc (m := st.m) (m' := st'.m) (l := l) fun k h => hk k (by simp only [rdK, hop]; exact evL_keys (by rw [hop]; simp [opnds]) hl k h)
      cases l with
      | s v => cases v <;> simp only [this]
      | _ => simp only [this]
  | call c =>
    simp only [stepT, hop]
    cases hc : c.callee with
    | builtin b =>
      cases b with
      | len =>
        split
        · rename_i x t _ hargs htys
          have hm : x ∈ opnds o.op := by rw [hop]; simp [opnds, hargs]
          rw [evL_loc hs hm]
          cases hl : evL st x with
          | none => rfl
          | some l =>
            have := lenOf_loc (m := st.m) (m' := st'.m) (l := l) fun k h => hk k (by simp only [rdK, hop, hc]; exact evL_keys hm hl k h)
            cases l with
            | s v => cases v <;> simp only [this]
            | _ => simp only [this]
        · rfl
      | _ => rfl
    | _ => rfl
  | _ => simp only [stepT, hop]

theorem stepM_loc {P : Program} {md : Nat → List Bool} {orc : Orc} {kf : Nat → Key} (hk : ∀ k ∈ rdK all o st, st'.m k = st.m k) : stepM P md orc kf o st' = stepM P md orc kf o st := by
  cases hop : o.op with
  | alloc t => simp only [stepM, hop]
  | box t x => simp only [stepM, hop]; rw [evV_loc hs (x := x) (by rw [hop]; simp [opnds])]
  | buildSlice t n ps => simp only [stepM, hop]; rw [partsV_loc hs (xs := ps.toList) (fun x hx => by rw [hop]; exact List.mem_map_of_mem hx)]
  | store t x y =>
    simp only [stepM, hop]
    rw [evL_loc hs (x := x) (by rw [hop]; simp [opnds]), evV_loc hs (x := y) (by rw [hop]; simp [opnds])]
    cases hl : evL st x with
    | none => rfl
    | some l =>
      have := fun v => storeV_loc (P := P) (t := t) (x := v) (m := st.m) (m' := st'.m) (l := l) fun k h => hk k (by simp only [rdK, hop]; exact evL_keys (by rw [hop]; simp [opnds]) hl k h)
      cases evV st y with
      | none => rfl
      | some v => simp only [this]
  | makeSlice t x y => simp only [stepM, hop]; rw [evI_loc hs (x := x) (by rw [hop]; simp [opnds]), evI_loc hs (x := y) (by rw [hop]; simp [opnds])]
  | convert src dst x =>
    simp only [stepM, hop]
    rw [evL_loc hs (x := x) (by rw [hop]; simp [opnds])]
    cases hl : evL st x with
    | none => rfl
    | some l =>
      cases l with
      | sl k => simp only [hk k (by simp only [rdK, hop]; exact evL_keys (by rw [hop]; simp [opnds]) hl k (by simp [keysL]))]
      | s v => cases v <;> rfl
      | _ => rfl
  | call c =>
    simp only [stepM, hop]
    cases hc : c.callee with
    | value x =>
      simp only []
      have hmx : x ∈ opnds o.op := by rw [hop]; simp [opnds, hc]
      have hma : ∀ y ∈ c.args.toList, y ∈ opnds o.op := fun y hy => by rw [hop]; simp only [opnds, hc]; exact List.mem_append_right _ hy
      rw [evL_loc hs hmx, evVs_loc hs hma]
      cases hl : evL st x with
      | none => rfl
      | some l =>
        cases hv : evVs st c.args.toList with
        | none => cases l <;> rfl
        | some vs =>
          cases l with
          | fn g caps =>
            simp only []
            refine callF_loc fun k hkk k' hk' => hk k' ?_
            have hin : k ∈ lookK all o st := by
              rw [List.flatMap_append, List.mem_append] at hkk
              rcases hkk with h | h
              · exact evVs_keys hma hv k h
              · have : ∀ ls : List L, (ls.map V.one).flatMap keysV = keysLs ls := by
                  intro ls
                  induction ls with
                  | nil => rfl
                  | cons l ls ih => simp [keysV, V.leaves, keysLs, ih]
                rw [this] at h
                exact evL_keys hmx hl k (by simpa [keysL] using h)
            simp only [rdK, hop, hc]
            unfold lookK at hin
            rw [List.mem_flatMap] at hin ⊢
            obtain ⟨n, h1, h2⟩ := hin
            exact ⟨n, h1, List.mem_flatMap.2 ⟨k, h2, hk'⟩⟩
          | _ => rfl
    | builtin b =>
      cases b with
      | append =>
        simp only []
        split
        · rename_i s x t t2 hargs htys
          have hms : s ∈ opnds o.op := by rw [hop]; simp [opnds, hargs]
          have hmx : x ∈ opnds o.op := by rw [hop]; simp [opnds, hargs]
          rw [evL_loc hs hms, evL_loc hs hmx]
          have hkey : ∀ {y : Operand} {l : L}, y ∈ opnds o.op → evL st y = some l → ∀ k ∈ keysL l, st'.m k = st.m k := fun hy hl k h => hk k (by simp only [rdK, hop, hc]; exact evL_keys hy hl k h)
          cases hl : evL st s with
          | none => rfl
          | some l =>
            cases hl2 : evL st x with
            | none => cases l <;> rfl
            | some y =>
              have e2 := fun e => srcOf_loc (P := P) (m := st.m) (m' := st'.m) (e := e) (t2 := t2) (hkey hmx hl2)
              cases l with
              | sl k =>
                have e1 := hkey hms hl k (by simp [keysL])
                cases he : elemT P t with
                | none => rfl
                | some e =>
                  cases hb : (some e).bind (bytesOf P) with
                  | none => rfl
                  | some b => simp only [e1, e2]
              | _ => rfl
        · rfl
      | _ => rfl
    | invoke r n => rfl
  | _ => simp only [stepM, hop]

theorem step_loc {P : Program} {md : Nat → List Bool} {orc : Orc} {i : Nat} (he : st'.e = st.e) (hk : ∀ k ∈ rdK all o st, st'.m k = st.m k) : step P md orc i o st' = step P md orc i o st := by
  have hkey : st'.key i = st.key i := by funext j; simp [St.key, he]
  unfold step
  rw [stepT_loc hs hk, hkey, stepM_loc hs hk]
theorem guardB_loc : guardB st' all o = guardB st all o := by
  unfold guardB
  cases hg : o.guard with
  | none => rfl
  | some jw =>
    obtain ⟨j, w⟩ := jw
    simp only []
    cases hd : (all[j]?).bind (·.dst) with
    | none => rfl
    | some d =>
      have : st'.t d = st.t d := hs d (by unfold looks; rw [List.mem_append]; right; simp [hg, hd])
      simp only [this]
theorem opD_loc {P : Program} {md : Nat → List Bool} {orc : Orc} {i : Nat} (he : st'.e = st.e) (hn : st'.n = st.n) (hk : ∀ k ∈ rdK all o st, st'.m k = st.m k) : opD P md orc all i o st' = opD P md orc all i o st := by
  have : okDst st' o = okDst st o := by unfold okDst; rw [hn]
  unfold opD
  rw [this, guardB_loc hs, step_loc hs he hk]
end
end Go.Proofs.Ytefofjpjbogilaa.M
