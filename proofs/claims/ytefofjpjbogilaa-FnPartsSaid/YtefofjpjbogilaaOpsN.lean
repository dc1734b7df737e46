/- Operations that change the memory: blocks that are made. -/
import Derived.Test.YtefofjpjbogilaaOpsM
namespace Go.Proofs.Ytefofjpjbogilaa.M
set_option linter.unusedVariables false
set_option linter.unusedSimpArgs false
set_option linter.unusedSectionVars false

section
variable {P : Program} {w0 w : World} {X Z : Fp} {U : KS} {st : St} {ρ : Rho} {Fk : Key → Fp} {a : Act} {ovs : List Value} {kf : Nat → Key}
variable (hinj : ∀ i j, kf i = kf j → i = j) (hXZ : ∀ x, X x → Z x)
variable (hM : Mem P w0 X Z U w st.m ρ Fk) (hS : Slots U ρ st a ovs) (hf : ∀ j, ¬ U (kf j))

/-- The world with a new block. -/
abbrev pushed (w : World) (o : Obj) : World := { w with heap := w.heap.push o }
theorem pushed_new (w : World) (o : Obj) : (pushed w o).heap[w.heap.size]? = some o := by
  show (w.heap.push o)[w.heap.size]? = _
  simp
theorem pushed_size (w : World) (o : Obj) : (pushed w o).heap.size = w.heap.size + 1 := by
  show (w.heap.push o).size = _
  simp

include hXZ hM hf in
theorem row_new {w1 w' : World} (hw1 : w1.heap = w.heap ∧ w1.os = w.os ∧ w1.tape = w.tape ∧ w1.output = w.output) {cur : Array Value} {e : TypeId} {n z : Nat} {xs : List (List Value)} {ow : Own} (how : ow = .own ∨ ow = .lit)
    (hw' : w' = pushed w1 (.cells cur e (0, 0))) (hn : xs.length = n) (hfl : Flat z xs) (hc : cur.toList = rowVals xs) (hm : n ≤ maxLen) (hz : szOf P e = some z) (hz0 : 0 < z) :
    ∃ ρ' Fk', Left P w0 X Z U (Uand U kf) ρ st.m ⟨.v (.one (.sl (kf 0))), [(kf 0, some (.row ow e xs))]⟩ (.slice (some ⟨w.heap.size, 0, none⟩) n n) w' ρ' Fk' := by
  obtain ⟨g1, g2, g3, g4⟩ := hw1
  have hsz : w'.heap.size = w.heap.size + 1 := by rw [hw', pushed_size, g1]
  have hnew : w'.heap[w.heap.size]? = some (.cells cur e (0, 0)) := by rw [hw', ← g1]; exact pushed_new _ _
  have hOwn := OwnRow_new (w := w) w' hnew hn hfl hc hm
  have e2 : appM st.m [(kf 0, some (.row ow e xs))] = upd (upd st.m (kf 0) none) (kf 0) (some (.row ow e xs)) := by rw [upd_upd]; rfl
  refine ⟨ρ.set (kf 0) (.slice (some ⟨w.heap.size, 0, none⟩) n n) z, upd Fk (kf 0) (· = w.heap.size), ⟨?_, ⟨⟨(Rho.set_at _ _ _ _).1.symm, rfl⟩, fun _ cs e => by cases e⟩, Uand_key 0, Rho.set_eqOn (hf 0)⟩⟩
  · rw [e2]
    refine new_ok hXZ hM hf (D := fun _ => False) (v := .slice (some ⟨w.heap.size, 0, none⟩) n n) (fun _ h => h.elim) (by rw [hw']; exact g2) (by rw [hw']; exact g3) (by rw [hw']; exact g4) (by omega) (fun x hx _ => ?_) (fun x hx => ⟨by rw [hx, hsz]; omega, .inr (by rw [hx]; exact Nat.le_refl _)⟩) trivial ?_
    · rw [hw', ← g1]
      exact push_old w1 _ x (by rw [g1]; exact hx)
    · refine ⟨by rw [(Rho.set_at _ _ _ _).2]; exact hz, by rw [(Rho.set_at _ _ _ _).2]; exact hz0, by rw [(Rho.set_at _ _ _ _).2]; exact hfl, ?_⟩
      rcases how with rfl | rfl
      · show OwnRow w' _ e _ _ xs
        rw [(Rho.set_at _ _ _ _).1, (Rho.set_at _ _ _ _).2]
        exact hOwn
      · show OwnRow w' _ e _ _ xs ∧ _
        rw [(Rho.set_at _ _ _ _).1, (Rho.set_at _ _ _ _).2]
        exact ⟨hOwn, _, by rw [hn]⟩

include hXZ hM hf in
theorem box_new {w' : World} {t t' : TypeId} {cs : List L} {vs : List Value} {m : Key → Option Blk} {ρ1 : Rho} {Fk1 : Key → Fp} {U1 : KS} (hM1 : Mem P w0 X Z U1 w m ρ1 Fk1) (h1 : ∀ k, U k → U1 k) (h2 : ∀ k, U1 k → Uand U kf k) (h3 : ¬ U1 (kf 0)) (h4 : ∀ k, U k → ρ.eqOn ρ1 k)
    {ks : List (Key × Option Blk)} (hm : m = appM st.m ks)
    (hw' : w' = pushed w (.cells vs.toArray t' (0, 0))) (hr : relLs ρ1 cs vs) (hk : okLs U1 cs) :
    ∃ ρ' Fk', Left P w0 X Z U (Uand U kf) ρ st.m ⟨.v (.one (.p (kf 0) 0)), ks ++ [(kf 0, some (.box true t cs))]⟩ (.pointer (some ⟨w.heap.size, 0, none⟩)) w' ρ' Fk' := by
  have e2 : appM st.m (ks ++ [(kf 0, some (.box true t cs))]) = upd (upd m (kf 0) none) (kf 0) (some (.box true t cs)) := by rw [upd_upd, appM_append, ← hm]; rfl
  have hsz : w'.heap.size = w.heap.size + 1 := by rw [hw', pushed_size]
  refine ⟨ρ1.set (kf 0) (.pointer (some ⟨w.heap.size, 0, none⟩)) 0, upd Fk1 (kf 0) (· = w.heap.size), ⟨?_, ⟨⟨w.heap.size, (Rho.set_at _ _ _ _).1, rfl⟩, fun _ cs e => by cases e⟩, Uand_key 0, fun k hu => (h4 k hu).trans (Rho.set_eqOn h3 k (h1 k hu))⟩⟩
  rw [e2]
  refine hM1.repl (kf 0) (kf 0) (.box true t cs) _ (fun _ => False) h2 ⟨Uand_key 0, hk.imp h2⟩ hXZ (fun _ h => h.elim) (by rw [hw']) (by rw [hw']) (by rw [hw']) (by omega) (fun x hx _ => ?_) (Rho.set_eqOn h3) (fun x hx => ⟨by rw [hx, hsz]; omega, .inr (by rw [hx]; exact Nat.le_refl _)⟩) ?_
  · rw [hw']; exact push_old w _ x hx
  · exact ⟨w.heap.size, vs, t', (Rho.set_at _ _ _ _).1, rfl, by rw [hw']; exact pushed_new _ _, relLs.congr (hk.imp (Rho.set_eqOn h3)) hr, (Rho.set_at _ _ _ _).2⟩

include hinj hXZ hM hS hf in
theorem alloc_ok {o : Oper} {t : TypeId} (heq : o.op = .alloc t) {md : Nat → List Bool} {orc : Orc} {δ : Dl} (h : stepM P md orc kf o st = some δ) : MOk P w0 w X Z U (Uand U kf) ρ st.m a o δ := by
  unfold stepM at h
  simp only [heq] at h
  split at h
  · rename_i vs h1
    cases h
    obtain ⟨z, z1, z2, z3, _⟩ := zeroT_run (P := P) (w := w) h1
    obtain ⟨V', ρ1, Fk1, n1, n2, n3, n4, n5, n6⟩ := norm_ok hinj hXZ (es := leafT P 6 t) (j := 1) (ls := vs.map .s) (vs := vs) (leafT_sz 6 t) hM (fun i _ => hf i) (relLs_consts z3) okLs_consts
    obtain ⟨ρ', Fk', hL⟩ := box_new (t := t) hXZ hM hf n1 n2 (fun k hk => (n3 k hk).imp id fun ⟨i, _, e⟩ => ⟨i, e⟩) (fun hk => by
      rcases n3 _ hk with h | ⟨i, hi, e⟩
      · exact hf 0 h
      · have := hinj _ _ e; omega) n4 rfl (t' := t) rfl n5 n6
    refine ⟨_, _, ρ', Fk', .inl ?_, hL⟩
    unfold execOp
    rw [heq]
    refine exec_v ?_
    have hz : z.cells = vs.toArray := by rw [← z2]
    simp only [Instr.alloc, Sem.run_bind, z1, Result.andThen_ok, newVar, newRow, run_newObj, Sem.run_pure, hz]
  · cases h

include hXZ hM hS hf in
theorem box_ok {o : Oper} {t : TypeId} {x : Operand} (heq : o.op = .box t x) {md : Nat → List Bool} {orc : Orc} {δ : Dl} (h : stepM P md orc kf o st = some δ) : MOk P w0 w X Z U (Uand U kf) ρ st.m a o δ := by
  unfold stepM at h
  simp only [heq] at h
  split at h
  · rename_i v h1
    split at h
    · rename_i hc
      cases h
      obtain ⟨r1, r2⟩ := evV_ok hS h1
      obtain ⟨ρ', Fk', hL⟩ := box_new (t := t) (ks := []) hXZ hM hf hM (fun _ h => h) Uand_of (hf 0) (fun _ _ => ⟨rfl, rfl⟩) rfl (t' := t) rfl (relV_cells r1 hc) (okV_leaves r2)
      refine ⟨_, _, ρ', Fk', .inl ?_, hL⟩
      unfold execOp
      rw [heq]
      refine exec_v ?_
      simp only [Instr.box, newVar, newRow, Sem.run_bind, run_newObj, Result.andThen_ok, Sem.run_pure]
    · cases h
  · cases h

include hXZ hM hS hf in
theorem makeSlice_ok {o : Oper} {t : TypeId} {x y : Operand} (heq : o.op = .makeSlice t x y) {md : Nat → List Bool} {orc : Orc} {δ : Dl} (h : stepM P md orc kf o st = some δ) : MOk P w0 w X Z U (Uand U kf) ρ st.m a o δ := by
  unfold stepM at h
  simp only [heq] at h
  split at h
  · rename_i e n n' h1 h2 h3
    split at h
    · rename_i sz z by_ h4 h5 h6
      split at h
      · rename_i hc
        obtain ⟨c1, c2, c3, c4, c5, c6⟩ := hc
        cases h
        subst c1
        obtain ⟨zv, z1, z2, z3, i, hi, hz⟩ := zeroT_run (P := P) (w := w) h5
        have hsz : i.size = sz := by simpa [szOf, hi] using h4
        have hby : i.bytes = by_ := by simpa [bytesOf, hi] using h6
        obtain ⟨k1, e1⟩ := evI_ok hS h2
        obtain ⟨k2, e2⟩ := evI_ok hS h3
        have hzs : zv.cells.size = sz := by rw [← c6, ← z2]; simp
        obtain ⟨ρ', Fk', hL⟩ := row_new (w1 := w) (ow := .own) (n := n.toNat) (xs := List.replicate n.toNat z) hXZ hM hf ⟨rfl, rfl, rfl, rfl⟩ (.inl rfl) (e := e) rfl (by simp) (fun el hel => by
          have := List.eq_of_mem_replicate hel
          subst this
          exact ⟨c6, List.all_eq_true.1 z3⟩) (cur := madeCells zv.cells (n.toNat * i.size)) (by
            have := rep_cells (z := zv.cells) (by omega) n.toNat
            rw [hsz, ← hzs, rowVals]
            simp only [madeCells]
            rw [this, z2]) (by simp [maxLen]; omega) h4 c5
        refine ⟨_, _, ρ', Fk', .inl ?_, hL⟩
        unfold execOp
        rw [heq]
        refine exec_v ?_
        simp only [e1, e2]
        exact run_make w t e i zv (elemT_spec h1) hi hz k1 k2 n n c2 (Int.le_refl _) (by rw [hby]; omega) (by omega)
      · cases h
    · cases h
  · cases h

include hXZ hM hS hf in
theorem buildSlice_ok {o : Oper} {t : TypeId} {n : Nat} {ps : Array (Nat × Operand)} (heq : o.op = .buildSlice t n ps) {md : Nat → List Bool} {orc : Orc} {δ : Dl} (h : stepM P md orc kf o st = some δ) : MOk P w0 w X Z U (Uand U kf) ρ st.m a o δ := by
  unfold stepM at h
  simp only [heq] at h
  split at h
  · rename_i e xs h1 h2
    split at h
    · rename_i sz z h3 h4
      split at h
      · rename_i hc
        obtain ⟨c1, c2, c3, c4⟩ := hc
        split at h
        · rename_i ls h5
          split at h
          · rename_i vs h6
            cases h
            obtain ⟨zv, z1, z2, z3, i, hi, hz⟩ := zeroT_run (P := P) (w := w) h4
            have hzs : zv.cells.size = sz := by rw [← c2, ← z2]; simp
            have hrep : (((Array.range (n * sz)).map (fun i => zv.cells[i % zv.cells.size]!)).toList : List Value) = (List.replicate n z).flatten := by
              have := rep_cells (z := zv.cells) (by omega) n
              rw [hzs, z2] at this
              rw [hzs]
              exact this
            have hflat : ∀ k, (List.replicate k (z.map L.s)).flatten = ((List.replicate k z).flatten).map L.s := by
              intro k
              induction k with
              | zero => rfl
              | succ k ih => simp only [List.replicate_succ, List.flatten_cons, ih, List.map_append]
            have hall : ((List.replicate n z).flatten).all Value.oneCell' = true := by
              rw [List.all_eq_true] at z3 ⊢
              intro v hv
              rw [List.mem_flatten] at hv
              obtain ⟨l, hl, hv⟩ := hv
              have := List.eq_of_mem_replicate hl
              subst this
              exact z3 v hv
            obtain ⟨us', f1, f2, f3⟩ := fill_ok (us := (Array.range (n * sz)).map (fun i => zv.cells[i % zv.cells.size]!)) (partsV_ok hS h2) (by rw [hrep, hflat]; exact relLs_consts hall) (by rw [hflat]; exact okLs_consts) h5
            obtain ⟨g1, g2⟩ := relLs_cv f2 h6
            have hlen : vs.length = n * sz := by
              rw [← g1]
              have e0 : ls.length = n * sz := by
                have : ∀ {xs : List (Nat × V)} {cs ls : List L}, fillL (fun i => some (i * sz, sz)) cs xs = some ls → ls.length = cs.length := by
                  intro xs
                  induction xs with
                  | nil => intro cs ls h; cases h; rfl
                  | cons x xs ih =>
                    intro cs ls h
                    obtain ⟨i, v⟩ := x
                    simp only [fillL] at h
                    split at h
                    · rename_i hc
                      rw [ih h, splice_length _ _ _ (by omega)]
                    · cases h
                rw [this h5, hflat]
                simp [c2]
              rw [f2.length, e0]
            obtain ⟨q1, q2, q3⟩ := groups_spec hlen g2
            obtain ⟨ρ', Fk', hL⟩ := row_new (w1 := w) (ow := .lit) (n := n) (xs := groups sz n vs) hXZ hM hf ⟨rfl, rfl, rfl, rfl⟩ (.inr rfl) (e := e) rfl q3 q1 (cur := us') (by rw [q2]; exact g1) c4 h3 c1
            refine ⟨_, _, ρ', Fk', .inl ?_, hL⟩
            unfold execOp
            rw [heq]
            refine exec_v ?_
            have hn : ¬ (n * sz > 2 ^ 24) := by omega
            simp only [Instr.buildSlice, Sem.run_bind, run_underlying (elemT_spec h1), Result.andThen_ok, szOf_run h3, if_neg hn]
            by_cases h0 : n * sz = 0
            · have e0 : (Array.range (n * sz)).map (fun i => zv.cells[i % zv.cells.size]!) = #[] := by rw [h0]; simp
              rw [e0] at f1
              simp only [h0, if_true, Sem.run_pure, Result.andThen_ok, Array.range_zero', Array.map_empty, Array.toList_map]
              rw [f1]
              simp [newRow]
            · simp only [if_neg h0, Sem.run_bind, z1, Result.andThen_ok, Sem.run_pure, Array.toList_map]
              rw [f1]
              simp [newRow]
          · cases h
        · cases h
      · cases h
    · cases h
  · cases h
end
end Go.Proofs.Ytefofjpjbogilaa.M
