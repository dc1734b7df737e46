/- What is to be shown of code and of a function. -/
import Derived.Test.YtefofjpjbogilaaW2
namespace Go.Proofs.Ytefofjpjbogilaa.M
set_option linter.unusedVariables false
set_option linter.unusedSimpArgs false
set_option linter.unusedSectionVars false

/-- Bools that are not looked at yet: slots (0), parts of what a call gave (i + 1). -/
abbrev Sy := List (Nat × Nat)
def symOf (sy : Sy) : Operand → List Nat
  | .tmp n => if sy.contains (n, 0) then [n] else []
  | _ => []
/-- The slots that must be looked at before the operation is done. -/
def needW (sy : Sy) (all : Array Oper) (o : Oper) : List Nat :=
  (match o.guard with | some (j, _) => (match (all[j]?).bind (·.dst) with | some d => symOf sy (.tmp d) | none => []) | none => []) ++
  (match o.op with
  | .move _ | .assign _ | .extract _ _ => []
  | .binOp .eql _ _ _ _ | .binOp .neq _ _ _ _ => []
  | .unOp .not _ _ => []
  | op => (opnds op).flatMap (symOf sy))
/-- What the operation's slot is, if it is such a bool. -/
def markW (sy : Sy) (o : Oper) : List Nat :=
  match o.op with
  | .move (.tmp n) | .assign (.tmp n) => (sy.filter fun x => x.1 == n).map (·.2)
  | .extract (.tmp n) i => if sy.contains (n, i + 1) then [0] else []
  | .binOp .eql _ x y _ | .binOp .neq _ x y _ => if (symOf sy x ++ symOf sy y).isEmpty then [] else [0]
  | .unOp .not _ x => if (symOf sy x).isEmpty then [] else [0]
  | _ => []
def syPut (sy : Sy) (d : Option Tmp) (ms : List Nat) : Sy := match d with | some d => ms.map (fun m => (d, m)) ++ sy.filter (fun x => x.1 != d) | none => sy
def St.setB (st : St) (n : Nat) (b : Bool) : St := { st with t := upd st.t n (.v (.one (.s (.bool b)))) }
theorem St.setB_eq {st : St} {n : Nat} {b : Bool} (h : st.t n = .v (.one (.s (.bool b)))) : st.setB n b = st := by
  cases st with
  | mk t m e q o =>
    simp only [St.setB]
    congr
    funext i
    simp only [upd]
    split
    · rename_i hi; subst hi; exact h.symm
    · rfl
/-- Slots are looked at. -/
def splitW : List Nat → Sy → St → (Sy → St → VC) → VC
  | [], sy, st, K => K sy st
  | n :: r, sy, st, K => match st.t n with
    | .v (.one (.s (.bool b))) => .and (.imp (b = true) (splitW r (sy.filter fun x => x != (n, 0)) (st.setB n true) K)) (.imp (b = false) (splitW r (sy.filter fun x => x != (n, 0)) (st.setB n false) K))
    | _ => splitW r sy st K
theorem splitW_ok : ∀ {l : List Nat} {sy : Sy} {st : St} {K : Sy → St → VC}, (splitW l sy st K).den → ∃ sy', (K sy' st).den
  | [], sy, st, K, h => ⟨sy, h⟩
  | n :: r, sy, st, K, h => by
    simp only [splitW] at h
    split at h
    · rename_i b hb
      cases b with
      | true => have := splitW_ok (h.1 rfl); rwa [St.setB_eq hb] at this
      | false => have := splitW_ok (h.2 rfl); rwa [St.setB_eq hb] at this
    · exact splitW_ok h
def opsW (P : Program) (md : Nat → List Bool) (ct : List (Nat × Ctr)) (ov : Bool) (all : Array Oper) : Nat → List Oper → St → Sy → (St → List Tr → Sy → VC) → VC
  | _, [], st, sy, K => K st [] sy
  | i, o :: r, st, sy, K => splitW (needW sy all o) sy st fun sy st => if okDst st o = true then
      match guardB st all o with
      | some g => bif g then stepW P md ct ov i o st (fun δ mk => opsW P md ct ov all (i + 1) r (st.app o.dst δ) (syPut sy o.dst (mk ++ markW sy o)) fun s l => K s (⟨i, o.dst, δ, looks all o, rdK all o st⟩ :: l))
        else opsW P md ct ov all (i + 1) r (st.app o.dst ⟨undefT, []⟩) (syPut sy o.dst []) fun s l => K s (⟨i, o.dst, ⟨undefT, []⟩, looks all o, rdK all o st⟩ :: l)
      | none => .bad 200
    else .bad 201
theorem opsW_ok {P : Program} {md : Nat → List Bool} {ct : List (Nat × Ctr)} (hct : ∀ x ∈ ct, Holds P md x.1 x.2) {ov : Bool} {all : Array Oper} : ∀ {r : List Oper} {i : Nat} {st : St} {sy : Sy} {K : St → List Tr → Sy → VC}, (opsW P md ct ov all i r st sy K).den →
    ∃ s l sy', runOps P md (orcW P md ct) all i r st = some s ∧ trace P md (orcW P md ct) all i r st = some l ∧ (K s l sy').den
  | [], i, st, sy, K, h => ⟨st, [], sy, rfl, rfl, h⟩
  | o :: r, i, st, sy, K, h => by
    simp only [opsW] at h
    obtain ⟨sy1, h⟩ := splitW_ok h
    split at h
    · rename_i hd
      split at h
      · rename_i g hg
        cases g with
        | true =>
          simp only [cond_true] at h
          obtain ⟨δ, mk, d1, d2⟩ := stepW_ok hct h
          obtain ⟨s, l, sy2, s1, s2, s3⟩ := opsW_ok hct d2
          refine ⟨s, _, sy2, ?_, ?_, s3⟩
          · simp only [runOps, if_pos hd, hg, cond_true, d1, s1]
          · simp only [trace, opD, if_pos hd, hg, cond_true, d1, s2]
        | false =>
          simp only [cond_false] at h
          obtain ⟨s, l, sy2, s1, s2, s3⟩ := opsW_ok hct h
          refine ⟨s, _, sy2, ?_, ?_, s3⟩
          · simp only [runOps, if_pos hd, hg, cond_false, s1]
          · simp only [trace, opD, if_pos hd, hg, cond_false, s2]
      · exact h.elim
    · exact h.elim
section
variable {β γ : Type} {bs : List Blk}
theorem appS_cnt {x : Sh} {l : L} {c : Nat} {f : FnS x β} {g : FnS x γ} {b : β} {d : γ} {c1 c2 : Nat} (h : appS bs x l c f = some (b, c1)) (h' : appS bs x l c g = some (d, c2)) : c1 = c2 := by
  obtain ⟨e, he⟩ := appS_zip (g := g) h
  have := appS_map (φ := fun q : β × γ => q.2) he
  have e2 : mapS (fun q : β × γ => q.2) x (zipS x f g) = g := by cases x <;> rfl
  rw [e2, h'] at this
  cases this
  rfl
theorem zipL_snd : ∀ {xs : List Sh} {f : FnL xs β} {g : FnL xs γ}, mapL (fun q : β × γ => q.2) xs (zipL xs f g) = g
  | [], f, g => rfl
  | x :: r, f, g => by
    cases x <;> simp only [mapL, zipL, mapS, zipS] <;> first | (funext n; exact zipL_snd) | exact zipL_snd
theorem appLs_cnt {xs : List Sh} {ls : List L} {c : Nat} {f : FnL xs β} {g : FnL xs γ} {b : β} {d : γ} {c1 c2 : Nat} (h : appLs bs xs ls c f = some (b, c1)) (h' : appLs bs xs ls c g = some (d, c2)) : c1 = c2 := by
  obtain ⟨e, he⟩ := appLs_zip (g := g) h
  have := appLs_map (φ := fun q : β × γ => q.2) he
  rw [zipL_snd, h'] at this
  cases this
  rfl
theorem appP_cnt {w : Bool} {t : TypeId} {xs : List Sh} {l : L} {c : Nat} {f : FnL xs β} {g : FnL xs γ} {b : β} {d : γ} {c1 c2 : Nat} (h : appP bs w t xs l c f = some (b, c1)) (h' : appP bs w t xs l c g = some (d, c2)) : c1 = c2 := by
  obtain ⟨e, he⟩ := appP_zip (g := g) h
  have := appP_map (φ := fun q : β × γ => q.2) he
  rw [zipL_snd, h'] at this
  cases this
  rfl
theorem appCs_cnt : ∀ {xs : List (Bool × TypeId × List Sh)} {ls : List L} {c : Nat} {f : FnC xs β} {g : FnC xs γ} {b : β} {d : γ} {c1 c2 : Nat}, appCs bs xs ls c f = some (b, c1) → appCs bs xs ls c g = some (d, c2) → c1 = c2
  | [], [], c, f, g, b, d, c1, c2, h, h' => by cases h; cases h'; rfl
  | [], _ :: _, c, f, g, b, d, c1, c2, h, h' => by cases h
  | _ :: _, [], c, f, g, b, d, c1, c2, h, h' => by cases h
  | x :: r, l :: ls, c, f, g, b, d, c1, c2, h, h' => by
    simp only [appCs] at h h'
    split at h
    · rename_i q n1 e1
      split at h'
      · rename_i q' n2 e2
        have := appP_cnt e1 e2
        subst this
        exact appCs_cnt h h'
      · cases h'
    · cases h
theorem appVs_cnt : ∀ {xs : List VSh} {ls : List V} {c : Nat} {f : FnV xs β} {g : FnV xs γ} {b : β} {d : γ} {c1 c2 : Nat}, appVs bs xs ls c f = some (b, c1) → appVs bs xs ls c g = some (d, c2) → c1 = c2
  | [], [], c, f, g, b, d, c1, c2, h, h' => by cases h; cases h'; rfl
  | [], _ :: _, c, f, g, b, d, c1, c2, h, h' => by cases h
  | .one x :: r, ls, c, f, g, b, d, c1, c2, h, h' => by
    cases ls with
    | nil => cases h
    | cons v ls =>
      cases v with
      | agg l => cases h
      | one l =>
        simp only [appVs] at h h'
        split at h
        · rename_i q n1 e1
          split at h'
          · rename_i q' n2 e2
            have := appS_cnt e1 e2
            subst this
            exact appVs_cnt h h'
          · cases h'
        · cases h
  | .agg xs :: r, ls, c, f, g, b, d, c1, c2, h, h' => by
    cases ls with
    | nil => cases h
    | cons v ls =>
      cases v with
      | one l => cases h
      | agg l =>
        simp only [appVs] at h h'
        split at h
        · rename_i q n1 e1
          split at h'
          · rename_i q' n2 e2
            have := appLs_cnt e1 e2
            subst this
            exact appVs_cnt h h'
          · cases h'
        · cases h
  | .ptr w t xs :: r, ls, c, f, g, b, d, c1, c2, h, h' => by
    cases ls with
    | nil => cases h
    | cons v ls =>
      cases v with
      | agg l => cases h
      | one l =>
        simp only [appVs] at h h'
        split at h
        · rename_i q n1 e1
          split at h'
          · rename_i q' n2 e2
            have := appP_cnt e1 e2
            subst this
            exact appVs_cnt h h'
          · cases h'
        · cases h
  | .fn q0 caps :: r, ls, c, f, g, b, d, c1, c2, h, h' => by
    cases ls with
    | nil => cases h
    | cons v ls =>
      cases v with
      | agg l => cases h
      | one l =>
        cases l with
        | fn q' cs =>
          simp only [appVs] at h h'
          split at h
          · rename_i e
            rw [if_pos e] at h'
            split at h
            · rename_i q n1 e1
              split at h'
              · rename_i q' n2 e2
                have := appCs_cnt e1 e2
                subst this
                exact appVs_cnt h h'
              · cases h'
            · cases h
          · cases h
        | _ => cases h
end
/-- Of a loop: its number, the shapes of what lives on (own arguments first); inl: of what it was entered with and what it stands at, what holds and a number that falls; inr: of what it stands at alone (such a loop is shown once, however many ways lead to it). -/
structure Ann where
  id : Nat
  sh : List VSh
  inv : FnV sh (FnV sh (Prop × Nat)) ⊕ FnV sh (Prop × Nat)
def headParts (keep : List Nat) (st : St) : List V × List V × List Blk :=
  let q := packVs true st.m ⟨[], []⟩ st.o
  let r := packVs true st.m q.2 (keep.map (slotV st))
  (q.1, r.1, r.2.bs)
def headOf (keep : List Nat) (n : Nat) (os vs : List V) (bs : List Blk) : St :=
  { t := (keep.zip vs).foldl (fun f x => upd f x.1 (.v x.2)) (fun _ => .v (.one .dead)), m := bsM bs, e := 1, n := n, o := os }
theorem head_eq (keep : List Nat) (st : St) : head keep st = headOf keep st.n (headParts keep st).1 (headParts keep st).2.1 (headParts keep st).2.2 := rfl
def andV : VC → VC → VC
  | .ok, b => b
  | a, .ok => a
  | a, b => .and a b
theorem andV_den {a b : VC} (h : (andV a b).den) : a.den ∧ b.den := by
  unfold andV at h
  split at h
  · exact ⟨trivial, h⟩
  · exact ⟨h, trivial⟩
  · exact h
/-- The slots that live on are looked at before a loop. -/
def liveW (keep : List Nat) (sy : Sy) : List Nat := keep.filter fun n => sy.contains (n, 0)
/-- What a loop's round leaves. -/
def backW (keep : List Nat) (sh : List VSh) (g : FnV sh (Prop × Nat)) (k n0 m1 : Nat) (K : Ex → St → Sy → VC) (ex : Ex) (s : St) (sy : Sy) : VC :=
  match ex with
  | .nx => splitW (liveW keep sy) sy s fun _ s => (match headParts keep s with
    | (os2, vs2, bs2) => match appVs bs2 sh (os2 ++ vs2) 0 g with
      | some ((p2, m2), c2) => if c2 = bs2.length ∧ os2.length = k ∧ s.n = n0 then .must p2 (.fin (m2 < m1)) else .look 20204 (os2 ++ vs2) bs2
      | none => .look 20205 (os2 ++ vs2) bs2)
  | ex => K ex s sy
/-- Code (side: what is to be shown of the loops that are shown once). -/
def execW (E : Env) (ct : List (Nat × Ctr)) (an : List Ann) (ov : Bool) (f n0 k0 : Nat) (side : Bool) : Code → Nat → St → Sy → (Ex → St → Sy → VC) → VC
  | .skip, _, st, sy, K => bif side then .ok else K .nx st sy
  | .region _ ops draw, _, st, sy, K => bif side then .ok else opsW E.P E.md ct ov ops 0 ops.toList st sy fun s l sy => if (!draw || (backward ops && pairsOk ops l)) = true then K .nx { s with e := s.e + 1 } sy else .bad 202
  | .seq a b, id, st, sy, K => bif side then andV (execW E ct an ov f n0 k0 true a id st [] fun ex s sy => match ex with
      | .nx => execW E ct an ov f n0 k0 false b id s sy K
      | ex => K ex s sy) (execW E ct an ov f n0 k0 true b id st [] K)
    else execW E ct an ov f n0 k0 false a id st sy fun ex s sy => match ex with
    | .nx => execW E ct an ov f n0 k0 false b id s sy K
    | ex => K ex s sy
  | .cond c a b, id, st, sy, K => bif side then andV (execW E ct an ov f n0 k0 true a id st [] K) (execW E ct an ov f n0 k0 true b id st [] K) else splitW (symOf sy c) sy st fun sy st => match evF st c with
    | some (.bool t) => bif t then execW E ct an ov f n0 k0 false a id st sy K else execW E ct an ov f n0 k0 false b id st sy K
    | _ => .bad 203
  | .block bid c, _, st, sy, K => execW E ct an ov f n0 k0 side c bid st sy fun ex s sy => match ex with
    | .exit i => if i = bid then K .nx s sy else K (.exit i) s sy
    | ex => K ex s sy
  | .loop c, id, st, sy, K => match an.find? (fun a => a.id == id) with
    | some A => match A.inv with
      | .inl e => bif side then .ok else splitW (liveW (E.keep f id) sy) sy st fun _ st => match headParts (E.keep f id) st with
        | (os, vs, bs) => match appVs bs A.sh (os ++ vs) 0 e with
          | some (g, c0) => if c0 = bs.length ∧ os.length = k0 ∧ st.n = n0 then
              match appVs bs A.sh (os ++ vs) 0 g with
              | some ((p0, m0), _) => .must p0 (genVs A.sh 0 g fun us bs1 _ pm1 => match pm1 with
                | (p1, m1) => .imp p1 (andV
                    (execW E ct an ov f n0 k0 true c id (headOf (E.keep f id) n0 (us.take k0) (us.drop k0) bs1) [] (backW (E.keep f id) A.sh g k0 n0 m1 K))
                    (execW E ct an ov f n0 k0 false c id (headOf (E.keep f id) n0 (us.take k0) (us.drop k0) bs1) [] (backW (E.keep f id) A.sh g k0 n0 m1 K))))
              | none => .bad 206
            else .look 20207 (os ++ vs) bs
          | none => .look 20208 (os ++ vs) bs
      | .inr g => bif side then genVs A.sh 0 g fun us bs1 _ pm1 => match pm1 with
                | (p1, m1) => .imp p1 (andV
                    (execW E ct an ov f n0 k0 true c id (headOf (E.keep f id) n0 (us.take k0) (us.drop k0) bs1) [] (backW (E.keep f id) A.sh g k0 n0 m1 K))
                    (execW E ct an ov f n0 k0 false c id (headOf (E.keep f id) n0 (us.take k0) (us.drop k0) bs1) [] (backW (E.keep f id) A.sh g k0 n0 m1 K)))
        else splitW (liveW (E.keep f id) sy) sy st fun _ st => match headParts (E.keep f id) st with
        | (os, vs, bs) => match appVs bs A.sh (os ++ vs) 0 g with
          | some ((p0, m0), c0) => if c0 = bs.length ∧ os.length = k0 ∧ st.n = n0 then .fin p0 else .look 20217 (os ++ vs) bs
          | none => .look 20218 (os ++ vs) bs
    | none => bif side then .ok else match headParts (E.keep f id) st with
      | (os, vs, bs) => .look 20209 (os ++ vs) bs
  | .exit i, _, st, sy, K => bif side then .ok else K (.exit i) st sy
  | .ret, _, st, sy, K => bif side then .ok else K .ret st sy
  | _, _, _, _, _ => .bad 210
/-- A loop, out of what its rounds are shown to do. -/
theorem loop_ok {E : Env} {orc : Orc} {f id n0 k0 : Nat} {c : Code} {sh : List VSh} {g : FnV sh (Prop × Nat)} {K : Ex → St → Sy → VC}
    (round : ∀ us bs1 p1 m1, appVs bs1 sh us 0 g = some ((p1, m1), bs1.length) → p1 → Ev E orc f c id (headOf (E.keep f id) n0 (us.take k0) (us.drop k0) bs1) fun ex s => ∃ sy, (backW (E.keep f id) sh g k0 n0 m1 K ex s sy).den)
    {st : St} {os vs : List V} {bs : List Blk} {p0 : Prop} {m0 : Nat} (hhp : headParts (E.keep f id) st = (os, vs, bs)) (hpm : appVs bs sh (os ++ vs) 0 g = some ((p0, m0), bs.length)) (hk : os.length = k0) (hn : st.n = n0) (hp0 : p0) :
    Ev E orc f (.loop c) id st fun ex s => ∃ sy, (K ex s sy).den := by
  refine Ev.loop (fun n s => ∃ us bs1 pm1, s = headOf (E.keep f id) n0 (us.take k0) (us.drop k0) bs1 ∧ appVs bs1 sh us 0 g = some (pm1, bs1.length) ∧ pm1.1 ∧ pm1.2 = n) m0 ?_ ?_
  · refine ⟨os ++ vs, bs, (p0, m0), ?_, hpm, hp0, rfl⟩
    rw [head_eq, hhp, hn, ← hk]
    simp
  · rintro n s ⟨us, bs1, ⟨p1, m1⟩, rfl, ha, hp1, rfl⟩
    refine (round us bs1 p1 m1 ha hp1).mono fun ex s hs => ?_
    obtain ⟨sy, hs⟩ := hs
    cases ex with
    | nx =>
      simp only [backW] at hs
      obtain ⟨_, hs⟩ := splitW_ok hs
      generalize hhp2 : headParts (E.keep f id) s = hp2 at hs
      obtain ⟨os2, vs2, bs2⟩ := hp2
      simp only at hs
      split at hs
      · rename_i p2 m2 c2 hpm2
        split at hs
        · rename_i hcc
          obtain ⟨e1, e2, e3⟩ := hcc
          subst e1
          refine ⟨m2, hs.2, os2 ++ vs2, bs2, (p2, m2), ?_, hpm2, hs.1, rfl⟩
          rw [head_eq, hhp2, e3, ← e2]
          simp
        · exact hs.elim
      · exact hs.elim
    | exit i => exact ⟨sy, hs⟩
    | ret => exact ⟨sy, hs⟩
theorem execW_ok {E : Env} {ct : List (Nat × Ctr)} (hct : ∀ x ∈ ct, Holds E.P E.md x.1 x.2) {an : List Ann} {ov : Bool} {f n0 k0 : Nat} : ∀ (c : Code) {id : Nat} {st st' : St} {sy sy' : Sy} {K : Ex → St → Sy → VC}, (execW E ct an ov f n0 k0 true c id st' sy' K).den → (execW E ct an ov f n0 k0 false c id st sy K).den →
    Ev E (orcW E.P E.md ct) f c id st fun ex s => ∃ sy, (K ex s sy).den := by
  intro c
  induction c with
  | skip => intro id st st' sy sy' K hs h; exact Ev.skip ⟨_, h⟩
  | exit i => intro id st st' sy sy' K hs h; exact Ev.exit ⟨_, h⟩
  | ret => intro id st st' sy sy' K hs h; exact Ev.ret ⟨_, h⟩
  | region rid ops draw =>
    intro id st st' sy sy' K hs h
    simp only [execW, cond_false] at h
    obtain ⟨s, l, sy1, s1, s2, s3⟩ := opsW_ok hct h
    split at s3
    · rename_i hd
      refine Ev.region (fun hdr => ?_) s1 ⟨_, s3⟩
      unfold drawOk
      rw [s2]
      rw [hdr] at hd
      simpa using hd
    · exact s3.elim
  | seq a b iha ihb =>
    intro id st st' sy sy' K hs h
    simp only [execW, cond_true, cond_false] at h hs
    obtain ⟨hs1, hs2⟩ := andV_den hs
    refine Ev.seq ((iha hs1 h).mono fun ex s hx => ?_)
    obtain ⟨sy1, hx⟩ := hx
    cases ex with
    | nx => exact ihb hs2 hx
    | exit i => exact ⟨_, hx⟩
    | ret => exact ⟨_, hx⟩
  | cond x a b iha ihb =>
    intro id st st' sy sy' K hs h
    simp only [execW, cond_true, cond_false] at h hs
    obtain ⟨hs1, hs2⟩ := andV_den hs
    obtain ⟨sy1, h⟩ := splitW_ok h
    split at h
    · rename_i t ht
      refine Ev.cond ht (fun e => ?_) (fun e => ?_)
      · subst e; exact iha hs1 h
      · subst e; exact ihb hs2 h
    · exact h.elim
  | block bid c ih =>
    intro id st st' sy sy' K hs h
    simp only [execW] at h hs
    refine Ev.block ((ih hs h).mono fun ex s hx => ?_)
    obtain ⟨sy1, hx⟩ := hx
    cases ex with
    | nx => exact ⟨_, hx⟩
    | exit i =>
      simp only at hx
      simp only [onExit]
      split at hx
      · rename_i e; rw [if_pos e]; exact ⟨_, hx⟩
      · rename_i e; rw [if_neg e]; exact ⟨_, hx⟩
    | ret => exact ⟨_, hx⟩
  | loop c ih =>
    intro id st st' sy sy' K hs h
    simp only [execW, cond_true, cond_false] at h hs
    have rnd : ∀ {sh : List VSh} {g : FnV sh (Prop × Nat)}, (genVs sh 0 g fun us bs1 _ pm1 => match pm1 with
                | (p1, m1) => .imp p1 (andV
                    (execW E ct an ov f n0 k0 true c id (headOf (E.keep f id) n0 (us.take k0) (us.drop k0) bs1) [] (backW (E.keep f id) sh g k0 n0 m1 K))
                    (execW E ct an ov f n0 k0 false c id (headOf (E.keep f id) n0 (us.take k0) (us.drop k0) bs1) [] (backW (E.keep f id) sh g k0 n0 m1 K)))).den →
        ∀ us bs1 p1 m1, appVs bs1 sh us 0 g = some ((p1, m1), bs1.length) → p1 → Ev E (orcW E.P E.md ct) f c id (headOf (E.keep f id) n0 (us.take k0) (us.drop k0) bs1) fun ex s => ∃ sy, (backW (E.keep f id) sh g k0 n0 m1 K ex s sy).den := by
      intro sh g h us bs1 p1 m1 ha hp1
      obtain ⟨nb, k1, k2⟩ := genVs_ok h ha
      simp only [List.drop_zero, List.drop_length, List.append_nil] at k2
      subst k2
      obtain ⟨j1, j2⟩ := andV_den (k1 hp1)
      exact ih j1 j2
    split at h
    · rename_i A hA
      rw [hA] at hs
      simp only at hs
      split at h
      · rename_i e he
        obtain ⟨_, h⟩ := splitW_ok h
        generalize hhp : headParts (E.keep f id) st = hp at h
        obtain ⟨os, vs, bs⟩ := hp
        simp only at h
        split at h
        · rename_i g c0 hg
          split at h
          · rename_i hc0
            obtain ⟨e1, e2, e3⟩ := hc0
            split at h
            · rename_i p0 m0 c1 hpm
              obtain ⟨hp0, h⟩ := h
              have hc1 : c1 = bs.length := by
                have := appVs_cnt hg hpm
                rw [← this]; exact e1
              subst hc1
              exact loop_ok (rnd h) hhp hpm e2 e3 hp0
            · exact h.elim
          · exact h.elim
        · exact h.elim
      · rename_i g hg
        rw [hg] at hs
        simp only at hs
        obtain ⟨_, h⟩ := splitW_ok h
        generalize hhp : headParts (E.keep f id) st = hp at h
        obtain ⟨os, vs, bs⟩ := hp
        simp only at h
        split at h
        · rename_i p0 m0 c0 hpm
          split at h
          · rename_i hc0
            obtain ⟨e1, e2, e3⟩ := hc0
            subst e1
            exact loop_ok (rnd hs) hhp hpm e2 e3 h
          · exact h.elim
        · exact h.elim
    · exact h.elim
  | _ => intros; rename_i h; exact h.elim

/-! ### A function -/
def roS : Sh → List Bool | .r .ro _ => [true] | .r _ _ => [false] | _ => []
def roV : VSh → List Bool
  | .one x => roS x
  | .agg xs => xs.flatMap roS
  | .ptr w _ xs => xs.flatMap roS ++ [!w]
  | .fn _ caps => caps.flatMap fun c => c.2.2.flatMap roS ++ [!c.1]
/-- The function that does not look at what it is given. -/
def constS {β : Type} : (x : Sh) → β → FnS x β
  | .i _, b => fun _ => b
  | .s, b => fun _ => b
  | .b, b => fun _ => b
  | .sb, b => fun _ => b
  | .r _ _, b => fun _ => b
  | .ref _, b => b
  | .pref _, b => b
  | .dead, b => b
def constL {β : Type} : (xs : List Sh) → β → FnL xs β
  | [], b => b
  | x :: r, b => constS x (constL r b)
def constC {β : Type} : (xs : List (Bool × TypeId × List Sh)) → β → FnC xs β
  | [], b => b
  | x :: r, b => constL x.2.2 (constC r b)
def constV {β : Type} : (xs : List VSh) → β → FnV xs β
  | [], b => b
  | .one x :: r, b => constS x (constV r b)
  | .agg xs :: r, b => constL xs (constV r b)
  | .ptr _ _ xs :: r, b => constL xs (constV r b)
  | .fn _ caps :: r, b => constC caps (constV r b)
theorem hct_nil {P : Program} {md : Nat → List Bool} : ∀ x ∈ ([] : List (Nat × Ctr)), Holds P md x.1 x.2 := by simp
theorem hct_cons {P : Program} {md : Nat → List Bool} {g : Nat} {c : Ctr} {l : List (Nat × Ctr)} (h : Holds P md g c) (hl : ∀ x ∈ l, Holds P md x.1 x.2) : ∀ x ∈ (g, c) :: l, Holds P md x.1 x.2 := by
  intro x hx
  rw [List.mem_cons] at hx
  rcases hx with rfl | hx
  · exact h
  · exact hl x hx
def killSh : VSh → Bool | .one .dead => true | _ => false
def retW (E : Env) (C : Ctr) (q : FnV (C.rsh ++ C.osh) Prop) (rv : List ResultVar) (st : St) : VC :=
  match finish E.P rv st with
  | some (rs, os, bs) => match normR ((C.rsh ++ C.osh).map killSh) ((C.rsh ++ C.osh).flatMap roV) rs os bs with
    | (rs', os', bs') => match appVs bs' (C.rsh ++ C.osh) (rs' ++ os') 0 q with
      | some (Q, c) => if c = bs'.length ∧ rs'.length = C.rsh.length then .fin Q else .look 20300 (rs' ++ os') bs'
      | none => .look 20301 (rs' ++ os') bs'
  | none => .bad 302
def lastW (E : Env) (C : Ctr) (q : FnV (C.rsh ++ C.osh) Prop) (rv : List ResultVar) (ex : Ex) (st : St) (_ : Sy) : VC := match ex with
  | .exit _ => .bad 303
  | _ => retW E C q rv st
def fnW (E : Env) (ct : List (Nat × Ctr)) (ov : Bool) (f : Nat) (C : Ctr) (an : FnV C.ash (List Ann)) : VC :=
  match E.P.funcs[f]? with
  | some fn => match fn.body with
    | some c => genVs C.ash 0 (zipV C.ash C.pq an) fun ts bs _ b => match b with
      | ((pre, q), al) => .imp pre (if ts.length ≤ fn.ntmps then andV
          (execW E ct al ov f fn.ntmps (ownOf (E.md f) ts).length true c 0 (startSt (E.md f) fn.ntmps ts bs) [] (lastW E C q fn.results.toList))
          (execW E ct al ov f fn.ntmps (ownOf (E.md f) ts).length false c 0 (startSt (E.md f) fn.ntmps ts bs) [] (lastW E C q fn.results.toList)) else .bad 304)
    | none => .bad 305
  | none => .bad 306
theorem fn_ok {E : Env} (hmix : E.P.follows .mixedOrders = true) {ct : List (Nat × Ctr)} (hct : ∀ x ∈ ct, Holds E.P E.md x.1 x.2) {ov : Bool} {f : Nat} {C : Ctr} {an : FnV C.ash (List Ann)} (h : (fnW E ct ov f C an).den) : Holds E.P E.md f C := by
  intro ts bs pre q ha hpre
  unfold fnW at h
  split at h
  · rename_i fn hfn
    split at h
    · rename_i c hc
      obtain ⟨d, hz⟩ := appVs_zip (g := an) ha
      obtain ⟨nb, k1, k2⟩ := genVs_ok h hz
      simp only [List.drop_zero, List.drop_length, List.append_nil] at k2
      subst k2
      have k1 := k1 hpre
      split at k1
      · rename_i hlen
        obtain ⟨j1, j2⟩ := andV_den k1
        obtain ⟨k, ex, st, h1, sy, h2⟩ := execW_ok hct c j1 j2
        have fin : ∀ {rv : List ResultVar}, (retW E C q rv st).den → ∃ r : Res, ∃ r' : Res, finish E.P rv st = some r ∧ r' = normR ((C.rsh ++ C.osh).map killSh) ((C.rsh ++ C.osh).flatMap roV) r.1 r.2.1 r.2.2 ∧ resOk C q r' := by
          intro rv hr
          unfold retW at hr
          split at hr
          · rename_i rs os bs' hf
            generalize hn : normR ((C.rsh ++ C.osh).map killSh) ((C.rsh ++ C.osh).flatMap roV) rs os bs' = r' at hr
            obtain ⟨rs', os', bs''⟩ := r'
            simp only at hr
            split at hr
            · rename_i Q c2 hq
              split at hr
              · rename_i hcc
                obtain ⟨e1, e2⟩ := hcc
                subst e1
                exact ⟨(rs, os, bs'), (rs', os', bs''), hf, hn.symm, e2, Q, hq, hr⟩
              · exact hr.elim
            · exact hr.elim
          · exact hr.elim
        have done : (ex = .nx ∨ ex = .ret) → (retW E C q fn.results.toList st).den → ∃ r : Res, resOk C q r ∧ CallOk E.P (E.md f) f ts bs r.1 r.2.1 r.2.2 := by
          intro hex hr
          obtain ⟨⟨rs, os, bs'⟩, r', f1, rfl, f3⟩ := fin hr
          refine ⟨_, f3, normR_ok _ _ ?_⟩
          exact body_ok (orcW_ok _ _ _) (draw_ok hmix (orcW_ok _ _ _)) hfn hc hlen hex h1 f1
        cases ex with
        | nx => exact done (.inl rfl) h2
        | ret => exact done (.inr rfl) h2
        | exit i => exact h2.elim
      · exact k1.elim
    · exact h.elim
  · exact h.elim
theorem fn_vc {E : Env} (hmix : E.P.follows .mixedOrders = true) {ct : List (Nat × Ctr)} {ov : Bool} {f : Nat} {C : Ctr} {an : FnV C.ash (List Ann)} {p : Prop} (hv : (fnW E ct ov f C an).den = p) (hct : ∀ x ∈ ct, Holds E.P E.md x.1 x.2) (h : p) : Holds E.P E.md f C := fn_ok hmix hct (hv ▸ h)
end Go.Proofs.Ytefofjpjbogilaa.M
