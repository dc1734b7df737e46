/- Operations that give a value and leave the memory as it is: the theorem. -/
import Derived.Test.YtefofjpjbogilaaOpsT3
namespace Go.Proofs.Ytefofjpjbogilaa.M
set_option linter.unusedVariables false
set_option linter.unusedSimpArgs false

theorem exec_v {P : Program} {w w' : World} {s : Sem Value} {v : Value} (h : s.run P w = .ok v w') : (do pure (Next.value (← s)) : Sem Next).run P w = .ok (.value v) w' := by
  rw [Sem.run_bind, h]; rfl
theorem eqC_run {P : Program} {w : World} {t : TypeId} {x y : Value} {b : Bool} (d : Nat) (h : eqC P t x y = some b) : (Op.equalIn (d + 1) t x y).run P w = .ok b w ∧ aggT P t = some false := by
  unfold eqC at h
  split at h
  · rename_i k k1 a k2 b' hu
    split at h
    · rename_i hk
      subst hk
      cases h
      exact ⟨run_equalIn_int w d t _ _ _ _ hu, by simp [aggT, hu]⟩
    · cases h
  · rename_i a b' hu
    cases h
    refine ⟨?_, by simp [aggT, hu]⟩
    rw [run_equalIn_string w d t _ _ hu, beq_toListBytes]
  · rename_i a b' hu
    cases h
    exact ⟨run_equalIn_bool w d t _ _ hu, by simp [aggT, hu]⟩
  · cases h
theorem eqFs_run {P : Program} {w : World} {xs ys : Array Value} (d : Nat) : ∀ {fs : List Field} {b : Bool}, eqFs P xs ys fs = some b → (Op.eqFields (d + 1) xs ys fs).run P w = .ok b w
  | [], b, h => by cases h; rfl
  | f :: fs, b, h => by
    simp only [eqFs] at h
    split at h
    · cases h
    · rename_i hn
      split at h
      · rename_i x y hx hy
        split at h
        · rename_i b1 c1 h1 h2
          cases h
          obtain ⟨r1, r2⟩ := eqC_run (w := w) d h1
          have ih := eqFs_run (w := w) d h2
          simp only [Op.eqFields, if_pos hn, part, Sem.run_bind, aggT_run r2, Result.andThen_ok, hx, hy, Bool.false_eq_true, if_false, ne_eq, hn, not_false_eq_true, if_true, Sem.run_pure, r1]
          cases b1
          · rfl
          · exact ih
        · cases h
      · cases h
theorem eqF_run {P : Program} {w : World} {op : BinOp} {t : TypeId} {x y v : Value} {xo yo : Operand} (h : eqF P op t x y = some v) :
    ((do eqGuard op t xo yo x y; binOp op t x y : Sem Value)).run P w = .ok v w ∧ v.oneCell' = true := by
  have hb : ∀ {t}, boolT P t = true → P.underlying t = some .bool := by
    intro t ht
    unfold boolT at ht
    split at ht
    · assumption
    · cases ht
  have hs : ∀ {fs}, eqTy P t = some fs → P.underlying t = some (.struct (P.fieldsOf t)) ∧ (P.fieldsOf t).toList = fs ∧ P.stoodInHeld t = false ∧ P.eqGuardType P.depth t = false := by
    intro fs hf
    unfold eqTy at hf
    split at hf
    · rename_i fs' hu
      split at hf
      · rename_i hc
        cases hf
        have : P.fieldsOf t = fs' := by simp [Program.fieldsOf, hu]
        rw [this]
        exact ⟨hu, rfl, hc⟩
      · cases hf
    · cases hf
  unfold eqF at h
  split at h
  · split at h
    · rename_i a b ht
      cases h
      have hg : (eqGuard .eql t xo yo (.bool a) (.bool b)).run P w = .ok () w := by simp [eqGuard]
      rw [Sem.run_bind, hg, Result.andThen_ok]
      exact ⟨run_eql_bool w t a b (hb ht), rfl⟩
    · cases h
  · split at h
    · rename_i a b ht
      cases h
      have hg : (eqGuard .neq t xo yo (.bool a) (.bool b)).run P w = .ok () w := by simp [eqGuard]
      rw [Sem.run_bind, hg, Result.andThen_ok]
      exact ⟨run_neq_bool w t a b (hb ht), rfl⟩
    · cases h
  · rename_i a b
    split at h
    · rename_i fs hf
      obtain ⟨s1, s2, s3, s4⟩ := hs hf
      simp only [Option.map_eq_some_iff] at h
      obtain ⟨c, hc, rfl⟩ := h
      rw [Sem.run_bind, run_eqGuard_agg w .eql t xo yo a b s4, Result.andThen_ok, run_eql_struct, run_equalIn_struct w 9999 t a b s1 s3, s2, eqFs_run 9998 hc]
      exact ⟨rfl, rfl⟩
    · cases h
  · rename_i a b
    split at h
    · rename_i fs hf
      obtain ⟨s1, s2, s3, s4⟩ := hs hf
      simp only [Option.map_eq_some_iff] at h
      obtain ⟨c, hc, rfl⟩ := h
      rw [Sem.run_bind, run_eqGuard_agg w .neq t xo yo a b s4, Result.andThen_ok, run_neq_struct, run_equalIn_struct w 9999 t a b s1 s3, s2, eqFs_run 9998 hc]
      exact ⟨rfl, rfl⟩
    · cases h
  · cases h

section
variable {P : Program} {w0 w : World} {X Z : Fp} {U : KS} {st : St} {ρ : Rho} {Fk : Key → Fp} {a : Act} {ovs : List Value}
variable (hM : Mem P w0 X Z U w st.m ρ Fk) (hS : Slots U ρ st a ovs)
omit hM in
include hS in
theorem evO_ok {x : Option Operand} {n : Nat} (h : evO st x = some n) : (x.map a.eval = none ∧ n = 0) ∨ ∃ k, x.map a.eval = some (.int k (n : Int)) := by
  cases x with
  | none => cases h; exact .inl ⟨rfl, rfl⟩
  | some y =>
    obtain ⟨k, e⟩ := evN_ok hS h
    exact .inr ⟨k, by simp [e]⟩
omit hM in
include hS in
theorem evH_ok {x : Option Operand} {n d : Nat} (h : evHi st x d = some n) : (x.map a.eval = none ∧ n = d) ∨ ∃ k, x.map a.eval = some (.int k (n : Int)) := by
  cases x with
  | none => cases h; exact .inl ⟨rfl, rfl⟩
  | some y =>
    obtain ⟨k, e⟩ := evN_ok hS h
    exact .inr ⟨k, by simp [e]⟩
omit hM hS in
theorem bounds_run {b : Bool} {len cap l h : Nat} {lo hi : Option Value} (hl : (lo = none ∧ l = 0) ∨ ∃ k, lo = some (.int k (l : Int))) (hh : (hi = none ∧ h = len) ∨ ∃ k, hi = some (.int k (h : Int))) (h1 : l ≤ h) (h2 : h ≤ cap) :
    (Instr.sliceBounds b len cap lo hi none).run P w = .ok (l, h, cap) w := by
  have bnd : ∀ (k : IntKind) (n y : Nat) (code : BoundsCode), n ≤ y → (Instr.sliceBound (.int k (n : Int)) y code).run P w = .ok n w := by
    intro k n y code hn
    rw [run_sliceBound w k n y code (by omega) (by omega)]
    rfl
  rcases hl with ⟨rfl, rfl⟩ | ⟨k, rfl⟩ <;> rcases hh with ⟨rfl, rfl⟩ | ⟨k', rfl⟩ <;> simp [Instr.sliceBounds, bnd, h1, h2]
omit hM hS in
theorem sliceAt_run {t e : TypeId} {z n c l h : Nat} {A : Option Addr} {lo hi : Option Value} (hu : P.underlying t = some (.slice e)) (hz : szOf P e = some z)
    (hl : (lo = none ∧ l = 0) ∨ ∃ k, lo = some (.int k (l : Int))) (hh : (hi = none ∧ h = n) ∨ ∃ k, hi = some (.int k (h : Int))) (h1 : l ≤ h) (h2 : h ≤ c) :
    (Instr.sliceAt t (.slice A n c) lo hi none).run P w = .ok (.slice (if c = l then A else A.map (·.add (l * z))) (h - l) (c - l)) w := by
  simp only [Instr.sliceAt, Sem.run_bind, run_underlying hu, Result.andThen_ok, Instr.slice, bounds_run hl hh h1 h2, szOf_run hz, Sem.run_pure]
omit hM hS in
theorem sliceStr_run {t : TypeId} {s : ByteArray} {l h : Nat} {lo hi : Option Value} (hu : P.underlying t = some .string)
    (hl : (lo = none ∧ l = 0) ∨ ∃ k, lo = some (.int k (l : Int))) (hh : (hi = none ∧ h = s.size) ∨ ∃ k, hi = some (.int k (h : Int))) (h1 : l ≤ h) (h2 : h ≤ s.size) :
    (Instr.sliceAt t (.string s) lo hi none).run P w = .ok (.string (s.extract l h)) w := by
  simp [Instr.sliceAt, run_underlying hu, Instr.slice, bounds_run hl hh h1 h2]
include hM hS

theorem stepT_ok {o : Oper} {x : T} (h : stepT P o st = some x) : TOk P w ρ U a o x := by
  unfold stepT at h
  unfold TOk execOp
  split at h
  · -- move
    rename_i y heq
    rw [heq]
    have := ev_ok hS h
    exact ⟨_, rfl, this⟩
  · -- assign
    rename_i y heq
    rw [heq]
    have := ev_ok hS h
    exact ⟨_, rfl, this⟩
  · -- pick
    rename_i c p q heq
    rw [heq]
    split at h
    · rename_i t y z h1 h2 h3
      split at h
      · rename_i hc
        have e1 := evF_ok hS h1
        have e2 := evF_ok hS h2
        have e3 := evF_ok hS h3
        refine ⟨pickV t y z, ?_, one1_ok h rfl (oneCell'_NA hc) trivial⟩
        have hp : pickV t y z = if t = true then y else z := by
          unfold pickV
          split
          · cases t <;> rfl
          · rfl
        simp only [asBool, e1, e2, e3, Sem.run_bind, Sem.run_pure, Result.andThen_ok, hp]
      · cases h
    · cases h
  · -- binOp
    rename_i op t p q pp heq
    rw [heq]
    split at h
    · rename_i y z h1 h2
      have e1 := evF_ok hS h1
      have e2 := evF_ok hS h2
      simp only [e1, e2]
      split at h
      · rename_i v hv
        obtain ⟨r1, r2⟩ := binF_run (P := P) (w := w) (t := t) (xo := p) (yo := q) hv
        exact ⟨v, exec_v r1, one1_ok h rfl (oneCell'_NA r2) trivial⟩
      · split at h
        · rename_i v hv
          obtain ⟨r1, r2⟩ := eqF_run (P := P) (w := w) (xo := p) (yo := q) hv
          exact ⟨v, exec_v r1, one1_ok h rfl (oneCell'_NA r2) trivial⟩
        · cases h
    · cases h
  · -- unOp
    rename_i op t p heq
    rw [heq]
    split at h
    · rename_i y h1
      have e1 := evF_ok hS h1
      simp only [e1]
      split at h
      · rename_i v hv
        have : (Op.unary op y).run P w = .ok v w ∧ v.oneCell' = true := by
          unfold unF at hv
          split at hv <;> first | (cases hv; done) | (cases hv; exact ⟨by simp [Op.unary, Op.intArith], rfl⟩)
        exact ⟨v, exec_v this.1, one1_ok h rfl (oneCell'_NA this.2) trivial⟩
      · cases h
    · cases h
  · -- build
    rename_i t ps heq
    rw [heq]
    split at h
    · rename_i vs xs h1 h2
      split at h
      · rename_i h3
        split at h
        · rename_i ls h4
          cases h
          obtain ⟨z, z1, z2, z3, _⟩ := zeroT_run (P := P) (w := w) h1
          obtain ⟨us', f1, f2, f3⟩ := fill_ok (us := z.cells) (partsV_ok hS h2) (by rw [z2]; exact relLs_consts z3) okLs_consts h4
          cases hu : P.underlying t with
          | none => simp [allSized, hu] at h3
          | some d =>
            cases d <;> simp only [allSized, hu] at h3 <;> try (cases h3; done)
            rename_i fs
            obtain ⟨pl, p1, p2⟩ := places_run (w := w) hu (by simpa [allSized, hu] using h3)
            refine ⟨.agg us', exec_v ?_, ⟨us'.toList, by simp, f2⟩, f3⟩
            have p3 : (fun i => pl[i]?) = place P t := funext p2
            have f1' : Instr.fill (fun i => pl[i]?) z.cells (List.map (fun p => (p.1, a.eval p.2)) ps.toList) = some us' := by rw [p3]; exact f1
            simp only [Instr.build, Sem.run_bind, z1, Result.andThen_ok, run_underlying hu, p1, Array.toList_map, f1', Sem.run_pure]
        · cases h
      · cases h
    · cases h
  · -- load
    rename_i t p heq
    rw [heq]
    split at h
    · rename_i l h1
      split at h
      · rename_i v h2
        cases h
        obtain ⟨r1, r2, r3⟩ := evL_ok hS h1
        obtain ⟨y, y1, y2⟩ := loadV_ok hM r1 r3 h2
        exact ⟨y, exec_v y1, y2⟩
      · cases h
    · cases h
  · -- nilCheck
    rename_i p heq
    rw [heq]
    split at h
    · rename_i k off h1
      obtain ⟨r1, r2, r3⟩ := evL_ok hS h1
      obtain ⟨g, e1, e2⟩ := r1
      simp only [e2]
      exact ⟨_, rfl, one1_ok h ⟨g, e1, rfl⟩ (fun cs e => by cases e) r3⟩
    · rename_i k i off h1
      obtain ⟨r1, r2, r3⟩ := evL_ok hS h1
      obtain ⟨ad, N, c, e1, e2, e3⟩ := r1
      simp only [e3]
      exact ⟨_, rfl, one1_ok h ⟨ad, N, c, e1, e2, rfl⟩ (fun cs e => by cases e) r3⟩
    · cases h
  · -- fieldAddr
    rename_i t p f heq
    rw [heq]
    have run : ∀ {ad : Addr} {fo n : Nat}, place P t f = some (fo, n + 1) → (Instr.fieldAt t (.pointer (some ad)) f).run P w = .ok (.pointer (some (ad.add fo))) w := by
      intro ad fo n hp
      obtain ⟨fs, fd, p1, p2, p3, p4⟩ := place_spec hp
      simp only [Instr.fieldAt, Sem.run_bind, run_underlying p1, Result.andThen_ok, p2, Instr.sureAddr, Sem.run_pure, fieldPlace, szOf_run p4]
      simp [p3]
    split at h
    · rename_i k off fo n h1 hp
      obtain ⟨r1, r2, r3⟩ := evL_ok hS h1
      obtain ⟨g, e1, e2⟩ := r1
      simp only [e2]
      refine ⟨_, exec_v (run hp), one1_ok h ⟨g, e1, ?_⟩ (fun cs e => by cases e) r3⟩
      rw [Addr.lit_add g off, Addr.add_add, ← Addr.lit_add]
    · rename_i k i off fo n h1 hp
      obtain ⟨r1, r2, r3⟩ := evL_ok hS h1
      obtain ⟨ad, N, c, e1, e2, e3⟩ := r1
      simp only [e3]
      exact ⟨_, exec_v (run hp), one1_ok h ⟨ad, N, c, e1, e2, by rw [Addr.add_add]⟩ (fun cs e => by cases e) r3⟩
    · cases h
  · -- indexAddr
    rename_i t p q heq
    rw [heq]
    split at h
    · rename_i hel
      obtain ⟨e, he⟩ := Option.isSome_iff_exists.1 hel
      have hu := elemT_spec he
      have run : ∀ {ad : Addr} {len c n z : Nat} {k : IntKind} {m : Int}, 0 ≤ m → m < len → szOf P e = some z → (Instr.indexAt t (.slice (some ad) len c) (.int k m)).run P w = .ok (.pointer (some (ad.add (m.toNat * z)))) w := by
        intro ad len c n z k m h0 h1 hz
        simp only [Instr.indexAt, asIntOf, Sem.run_bind, Sem.run_pure, Result.andThen_ok, run_underlying hu]
        simp [h0, h1, szOf_run hz]
      split at h
      · rename_i k n h1 h2
        split at h
        · rename_i o e' xs hm
          split at h
          · rename_i hc
            obtain ⟨c1, c2, c3⟩ := hc
            obtain ⟨r1, r2, r3⟩ := evL_ok hS h1
            obtain ⟨ik, e2⟩ := evI_ok hS h2
            have hb := hM.blk k _ hm
            obtain ⟨A, c, g1, g2, g3, g4⟩ := hb.rd
            obtain ⟨ad, a1, a2, a3⟩ := g4 (by omega)
            subst a1
            have hx : a.eval p = .slice (some ad) xs.length c := r1.1.trans g1
            have hz : szOf P e = some (ρ.z k) := by rw [he] at c3; cases c3; exact hb.1
            simp only [hx, e2]
            refine ⟨_, exec_v (run (n := 0) c1 c2 hz), one1_ok h ⟨ad, _, _, g1, by omega, rfl⟩ (fun cs e => by cases e) r3⟩
          · cases h
        · cases h
      · rename_i k lo len n h1 h2
        split at h
        · rename_i o e' xs hm
          split at h
          · rename_i hc
            obtain ⟨c1, c2, c3⟩ := hc
            obtain ⟨r1, r2, r3⟩ := evL_ok hS h1
            obtain ⟨ik, e2⟩ := evI_ok hS h2
            obtain ⟨A, c, f1, f2, f3⟩ := r1
            obtain ⟨ad, N, c', g1, g2, g3⟩ := f3 (by omega)
            subst g3
            have hz : szOf P e = some (ρ.z k) := by rw [he] at c3; cases c3; exact (hM.blk k _ hm).1
            simp only [f1, e2]
            refine ⟨_, exec_v (run (n := 0) c1 c2 hz), one1_ok h ⟨ad, _, _, g1, by omega, ?_⟩ (fun cs e => by cases e) r3⟩
            rw [Addr.add_add, Addr.add_add]
            congr 3
            rw [Nat.add_mul]
            rfl
          · cases h
        · cases h
      · cases h
    · cases h
  · -- index
    rename_i t p q heq
    rw [heq]
    split at h
    · rename_i s n h1 h2
      split at h
      · rename_i hc
        split at h
        · rename_i b hb
          have e1 := evF_ok hS h1
          obtain ⟨ik, e2⟩ := evI_ok hS h2
          simp only [e1, e2]
          refine ⟨_, exec_v ?_, one1_ok h rfl (fun cs e => by cases e) trivial⟩
          simp only [Instr.index, asIntOf, Sem.run_bind, Sem.run_pure, Result.andThen_ok, run_underlying (isStr_spec hc.1), hc.2, if_true, hb]
        · cases h
      · cases h
    · cases h
  · -- slice
    rename_i t p lo hi heq
    rw [heq]
    split at h
    · rename_i s l h1 hl
      split at h
      · rename_i hb hh
        split at h
        · rename_i hc
          obtain ⟨r1, r2, r3⟩ := evL_ok hS h1
          have e1 : a.eval p = .string s := r1
          simp only [e1]
          exact ⟨_, exec_v (sliceStr_run (isStr_spec hc.1) (evO_ok hS hl) (evH_ok hS hh) hc.2.1 hc.2.2), one1_ok h rfl (fun cs e => by cases e) trivial⟩
        · cases h
      · cases h
    · rename_i k l h1 hl
      split at h
      · rename_i o' e xs hm
        split at h
        · rename_i hb hh
          split at h
          · rename_i hc
            obtain ⟨r1, r2, r3⟩ := evL_ok hS h1
            have hbk := hM.blk k _ hm
            obtain ⟨A, c, g1, g2, g3, g4⟩ := hbk.rd
            have e1 : a.eval p = .slice A xs.length c := r1.1.trans g1
            simp only [e1]
            refine ⟨_, exec_v (sliceAt_run (elemT_spec hc.1) hbk.1 (evO_ok hS hl) (evH_ok hS hh) hc.2.1 (by omega)), one1_ok h ⟨_, _, rfl, by omega, fun hp => ?_⟩ (fun cs e => by cases e) r3⟩
            obtain ⟨ad, a1, _⟩ := g4 (by omega)
            subst a1
            refine ⟨ad, _, _, g1, by omega, ?_⟩
            rw [if_neg (by omega)]
            rfl
          · cases h
        · cases h
      · cases h
    · rename_i k l0 len l h1 hl
      split at h
      · rename_i o' e xs hm
        split at h
        · rename_i hb hh
          split at h
          · rename_i hc
            obtain ⟨r1, r2, r3⟩ := evL_ok hS h1
            have hbk := hM.blk k _ hm
            obtain ⟨A, c, e1, g2, g3⟩ := r1
            simp only [e1]
            refine ⟨_, exec_v (sliceAt_run (elemT_spec hc.1) hbk.1 (evO_ok hS hl) (evH_ok hS hh) hc.2.1 (by omega)), one1_ok h ⟨_, _, rfl, by omega, fun hp => ?_⟩ (fun cs e => by cases e) r3⟩
            obtain ⟨ad, N, c', a1, a2, a3⟩ := g3 (by omega)
            subst a3
            refine ⟨ad, _, _, a1, by omega, ?_⟩
            rw [if_neg (by omega)]
            simp only [Option.map_some, Addr.add_add, Nat.add_mul]
          · cases h
        · cases h
      · cases h
    · cases h
  · -- extract
    rename_i p i heq
    rw [heq]
    split at h
    · rename_i vs h1
      split at h
      · rename_i v hv
        cases h
        obtain ⟨⟨us, e1, r⟩, k⟩ := ev_ok hS h1
        obtain ⟨u, u1, u2, u3⟩ := r.get k hv
        simp only [e1]
        refine ⟨u, exec_v ?_, u2, u3⟩
        simp [Instr.extract, u1]
      · cases h
    · cases h
  · -- makeFunc
    rename_i f first caps heq
    rw [heq]
    split at h
    · rename_i vs h1
      split at h
      · rename_i hc
        obtain ⟨r1, r2⟩ := evVs_ok hS h1
        refine ⟨_, exec_v (v := .func (.func f) #[] (caps.map a.eval)) ?_, one1_ok h ⟨caps.toList.map a.eval, ?_, relVs_leaves hc.2 r1⟩ (fun cs e => by cases e) (okVs_leaves r2)⟩
        · have : first = #[] := Array.eq_empty_of_size_eq_zero hc.1
          subst this
          simp [Instr.makeFunc]
        · congr 1
          exact (Array.toArray_toList (xs := caps.map a.eval)).symm.trans (by rw [Array.toList_map])
      · cases h
    · cases h
  · -- convert
    rename_i src dst p heq
    rw [heq]
    split at h
    · rename_i k n h1
      obtain ⟨r1, r2, r3⟩ := evL_ok hS h1
      have e1 : a.eval p = .int k n := r1
      simp only [e1]
      split at h
      · rename_i k1 k' hk1 hk'
        refine ⟨_, exec_v ?_, one1_ok h rfl (fun cs e => by cases e) trivial⟩
        simp only [convert, Sem.run_bind, run_underlying (intT_spec hk1), run_underlying (intT_spec hk'), Result.andThen_ok, Conv.intToInt]
        rfl
      · cases h
    · rename_i l hne h1
      split at h
      · rename_i hd
        split at h
        · rename_i bs hs hr
          obtain ⟨r1, r2, r3⟩ := evL_ok hS h1
          simp only [Option.bind_eq_some_iff] at hs hr
          obtain ⟨e, he, he'⟩ := hs
          obtain ⟨xs, hxs, hstr⟩ := hr
          obtain ⟨A, c, z, f1, f2, f3, f4⟩ := rowOf_ok hM r1 hxs
          obtain ⟨ns, n1, n2⟩ := strOf_spec hstr
          simp only [f1]
          refine ⟨.string ⟨bs.toArray⟩, exec_v ?_, one1_ok h rfl (fun cs e => by cases e) trivial⟩
          rw [run_convert_bytes_string w src dst e A _ c (elemT_spec he) (intT_spec he') (isStr_spec hd)]
          cases A with
          | none =>
            have hx : xs = [] := by
              cases xs with
              | nil => rfl
              | cons y ys => obtain ⟨ad, h, _⟩ := f4 (by simp); cases h
            subst hx
            cases ns with
            | nil => subst n2; rfl
            | cons n ns => simp at n1
          | some ad =>
            have hv : rowVals xs = ns.map (Value.int .u8) := by
              rw [n1]
              clear n1 n2 hstr
              induction ns with
              | nil => rfl
              | cons n ns ih => simpa [rowVals] using ih
            have hlen : xs.length = (ns.map (Value.int .u8)).length := by rw [n1]; simp
            have hl := run_loadCells_list (P := P) w ad (ns.map (Value.int .u8)) (fun j v hv' => by
              have hp : 0 < xs.length := by
                rw [hlen]
                exact Nat.lt_of_le_of_lt (Nat.zero_le _) (List.getElem?_eq_some_iff.1 hv').1
              obtain ⟨ad', e1, e2⟩ := f4 hp
              cases e1
              exact e2 j v (by rw [hv]; exact hv'))
            rw [← hlen] at hl
            rw [run_bytesToString w ad xs.length c ns hl, push_foldl, n2]
            rfl
        · cases h
      · cases h
    · cases h
  · -- len
    rename_i c heq
    rw [heq]
    split at h
    · rename_i p t hcal hargs htys
      have hres : ∀ v, (Builtin.len_ c.argTypes o.type #[a.eval p]).run P w = .ok v w → (do let d ← resolve a.eval c o.type; invoke d.target d.args : Sem Next).run P w = .ok (.value v) w := by
        intro v hv
        have ha : c.args.map a.eval = #[a.eval p] := by
          apply Array.ext'
          rw [Array.toList_map, hargs]
          rfl
        simp only [resolve, hcal, Sem.run_bind, Sem.run_pure, Result.andThen_ok, invoke, builtin, ha, hv]
      have ht : c.argTypes = #[t] := by apply Array.ext'; rw [htys]
      split at h
      · rename_i s h1
        obtain ⟨r1, r2, r3⟩ := evL_ok hS h1
        have e1 : a.eval p = .string s := r1
        split at h
        · rename_i hstr
          refine ⟨_, hres (.int .i64 s.size) ?_, one1_ok h rfl (fun cs e => by cases e) trivial⟩
          simp [Builtin.len_, ht, e1, run_underlying (isStr_spec hstr), goInt]
        · cases h
      · rename_i l hne h1
        obtain ⟨r1, r2, r3⟩ := evL_ok hS h1
        split at h
        · rename_i hel
          obtain ⟨e, he⟩ := Option.isSome_iff_exists.1 hel
          split at h
          · rename_i n hn
            have : ∃ A c, a.eval p = .slice A n c := by
              unfold lenOf at hn
              split at hn
              · rename_i k
                split at hn
                · rename_i o' e' xs hm
                  cases hn
                  obtain ⟨A, c, g1, _⟩ := (hM.blk k _ hm).rd
                  exact ⟨A, c, r1.1.trans g1⟩
                · cases hn
              · cases hn
                obtain ⟨A, c, f1, _⟩ := r1
                exact ⟨A, c, f1⟩
              · cases hn
                exact ⟨none, 0, r1⟩
              · cases hn
            obtain ⟨A, c', e1⟩ := this
            refine ⟨_, hres (.int .i64 n) ?_, one1_ok h rfl (fun cs e => by cases e) trivial⟩
            simp [Builtin.len_, ht, e1, run_underlying (elemT_spec he), goInt]
          · cases h
        · cases h
      · cases h
    · cases h
  · cases h
end
end Go.Proofs.Ytefofjpjbogilaa.M
