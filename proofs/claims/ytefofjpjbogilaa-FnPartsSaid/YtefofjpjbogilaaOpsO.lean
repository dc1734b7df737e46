/- Operations that change the memory: stores, conversions, append. -/
import Derived.Test.YtefofjpjbogilaaOpsN
namespace Go.Proofs.Ytefofjpjbogilaa.M
set_option linter.unusedVariables false
set_option linter.unusedSimpArgs false
set_option linter.unusedSectionVars false

theorem splice_take {α : Type} (cs ys : List α) (off N : Nat) (h : off + ys.length ≤ N) (h2 : N ≤ cs.length) : (splice cs off ys).take N = splice (cs.take N) off ys := by
  simp only [splice]
  rw [List.append_assoc, List.take_append, List.take_append, List.take_take, List.take_take, List.drop_take]
  have e1 : (cs.take off).length = off := by simp; omega
  rw [e1, Nat.min_eq_right (by omega), Nat.min_eq_left (by omega), List.take_of_length_le (l := ys) (by omega), List.append_assoc]
  congr 3
  omega
theorem storeVar_run {P : Program} {w : World} {t : TypeId} {x : Value} {g off : Nat} {cur : Array Value} {t' : TypeId} (hg : w.heap[g]? = some (.cells cur t' (0, 0))) (hz : szOf P t = some x.cells.size) (hfit : off + x.cells.size ≤ cur.size) (h1 : ∀ v ∈ x.cells.toList, v.oneCell' = true) :
    (storeVar t ⟨g, off, none⟩ x).run P w = .ok () (w.setRow g (splice cur.toList off x.cells.toList).toArray) := by
  have := run_storeCells_at P g off t' x.cells.toList 0 cur w hg (by simpa using hfit) h1
  simp only [storeVar, Sem.run_bind, szOf_run hz, Result.andThen_ok, ne_eq, not_true, if_false]
  rw [this]
  simp [splice]

section
variable {P : Program} {w0 w : World} {X Z : Fp} {U : KS} {st : St} {ρ : Rho} {Fk : Key → Fp} {a : Act} {ovs : List Value} {kf : Nat → Key}
variable (hinj : ∀ i j, kf i = kf j → i = j) (hXZ : ∀ x, X x → Z x)
variable (hM : Mem P w0 X Z U w st.m ρ Fk) (hS : Slots U ρ st a ovs) (hf : ∀ j, ¬ U (kf j))

include hXZ hM hS in
theorem store_ok {o : Oper} {t : TypeId} {x y : Operand} (heq : o.op = .store t x y) {md : Nat → List Bool} {orc : Orc} {δ : Dl} (h : stepM P md orc kf o st = some δ) : MOk P w0 w X Z U (Uand U kf) ρ st.m a o δ := by
  unfold stepM at h
  simp only [heq] at h
  split at h
  · rename_i l v h1 h2
    split at h
    · rename_i k b h3
      cases h
      obtain ⟨r1, r2, r3⟩ := evL_ok hS h1
      obtain ⟨s1, s2⟩ := evV_ok hS h2
      -- it is enough that the block's new content is there
      have fin : ∀ {b0 : Blk} {g : Nat} {w' : World}, st.m k = some b0 → b0.mine = true → Fk k g → (Instr.storeAt t (a.eval x) (a.eval y)).run P w = .ok () w' → w'.os = w.os → w'.tape = w.tape → w'.output = w.output → w'.heap.size = w.heap.size →
          (∀ i, i ≠ g → w'.heap[i]? = w.heap[i]?) → okB (Uand U kf) b → BlkOk P w' ρ (Fk k) k b → MOk P w0 w X Z U (Uand U kf) ρ st.m a o ⟨.v (.one (.s undef)), [(k, some b)]⟩ := by
        intro b0 g w' hm hmine hg hrun ho ht hu hs hw hok hb
        have e2 : appM st.m [(k, some b)] = upd (upd st.m k none) k (some b) := by rw [upd_upd]; rfl
        refine ⟨undef, w', ρ, upd Fk k (Fk k), .inr ⟨?_, rfl⟩, ⟨?_, ⟨rfl, fun _ cs e => by cases e⟩, trivial, fun _ _ => ⟨rfl, rfl⟩⟩⟩
        · unfold execOp
          rw [heq]
          show (do (Instr.storeAt t (a.eval x) (a.eval y)); pure Next.skip : Sem Next).run P w = _
          rw [Sem.run_bind, hrun]
          rfl
        · rw [e2]
          refine hM.repl k k b (Fk k) (fun i => Fk k i) Uand_of ⟨Uand_of _ (hM.key k b0 hm).1, hok⟩ hXZ (fun i hi => ⟨b0, hm, hmine, hi⟩) ho ht hu (by omega) (fun i hi hd => hw i fun e => hd (e ▸ hg)) (fun _ _ => ⟨rfl, rfl⟩) (fun i hi => ⟨by rw [hs]; exact hM.lt k b0 hm i hi, .inl hi⟩) hb
      unfold storeV at h3
      split at h3
      · rename_i hc
        obtain ⟨c1, c2, c3⟩ := hc
        have hokB : v.okB = true := by
          cases v with
          | agg ls => rfl
          | one l => cases l <;> first | rfl | simp [V.leaves, L.cellOk] at c3
        have hcells := relV_cells s1 hokB
        have hlen := hcells.length
        simp only [Array.length_toList] at hlen
        have hone := relLs_oneCell hcells c3
        split at h3
        · rename_i k0 off
          split at h3
          · rename_i bt cs hm
            split at h3
            · rename_i hle
              cases h3
              obtain ⟨g, vs, t', e1, e2, e3, r, e4⟩ := hM.blk k _ hm
              obtain ⟨g', f1, f2⟩ := r1
              rw [e1] at f1
              cases f1
              have hvl := r.length
              have hrun := storeVar_run (P := P) (t := t) (x := a.eval y) (off := off) e3 (by rw [hlen]; exact c1) (by simp; omega) hone
              refine fin hm rfl e2 (w' := w.setRow g (splice vs off (a.eval y).cells.toList).toArray) ?_ rfl rfl rfl (by simp) (fun i hi => setRow_other w g i _ hi) (okLs_splice off ((hM.key k _ hm).2.imp Uand_of) ((okV_leaves s2).imp Uand_of)) ?_
              · rw [f2]
                simpa [Instr.storeAt, Instr.sureAddr] using hrun
              · exact ⟨g, splice vs off (a.eval y).cells.toList, t', e1, e2, setRow_heap w g _ _ t' _ e3, relLs_splice off r hcells, e4⟩
            · cases h3
          · cases h3
        · rename_i k0 i off
          split at h3
          · rename_i ow e xs ys hm hys
            split at h3
            · rename_i el hel
              split at h3
              · rename_i hc2
                obtain ⟨d1, d2⟩ := hc2
                cases h3
                have hb := hM.blk k _ hm
                obtain ⟨b1, b2, b3, b4⟩ := hb
                have hOwn : OwnRow w (Fk k) e (ρ.z k) (ρ.v k) xs := by
                  cases ow <;> first | exact b4 | exact b4.1 | cases d1
                obtain ⟨ad, N, c', f1, f2, f3⟩ := r1
                obtain ⟨⟨o1, o2⟩, o3⟩ := hOwn
                rcases o2 with ⟨hn, _⟩ | ⟨g, cap, cur, p1, p2, p3, p4, p5, p6, p7⟩
                · rw [f1] at hn; cases hn
                rw [f1] at p1
                cases p1
                obtain ⟨q1, q2⟩ := relLs_cv hcells hys
                have hel2 := b3 el (List.mem_of_getElem? hel)
                have hys' : ys.length = (a.eval y).cells.size := by rw [← q1]; simp
                have hi : i < xs.length := (List.getElem?_eq_some_iff.1 hel).1
                have hmul : (i + 1) * ρ.z k ≤ xs.length * ρ.z k := Nat.mul_le_mul_right _ (by omega)
                have hmul2 : xs.length * ρ.z k ≤ c' * ρ.z k := Nat.mul_le_mul_right _ p4
                have hmul3 : (i + 1) * ρ.z k = i * ρ.z k + ρ.z k := by rw [Nat.add_mul]; omega
                have hle : i * ρ.z k + off + ys.length ≤ xs.length * ρ.z k := by omega
                have hrun := storeVar_run (P := P) (t := t) (x := a.eval y) (off := i * ρ.z k + off) p3 (by rw [hlen]; exact c1) (by omega) hone
                have hgF : Fk k g := o3 g (by rw [f1]; rfl)
                refine fin hm (by cases ow <;> first | rfl | cases d1) hgF (w' := w.setRow g (splice cur.toList (i * ρ.z k + off) (a.eval y).cells.toList).toArray) ?_ rfl rfl rfl (by simp) (fun j hj => setRow_other w g j _ hj) trivial ?_
                · rw [f3, Addr.add_add, ← Addr.lit_add]
                  simpa [Instr.storeAt, Instr.sureAddr] using hrun
                · have hOwn' : OwnRow (w.setRow g (splice cur.toList (i * ρ.z k + off) (a.eval y).cells.toList).toArray) (Fk k) e (ρ.z k) (ρ.v k) (xs.set i (splice el off ys)) := by
                    refine ⟨⟨?_, .inr ⟨g, c', _, by rw [f1, List.length_set], Nat.zero_le _, setRow_heap w g _ _ _ _ p3, by rw [List.length_set]; exact p4, p5, ?_, ?_⟩⟩, o3⟩
                    · rw [rowVals_set off b3 hel d2, splice_length _ _ _ (by rw [o1]; exact hle), o1, List.length_set]
                    · have := splice_length cur.toList (a.eval y).cells.toList (i * ρ.z k + off) (by simp; omega)
                      simpa [p6] using this
                    · rw [rowVals_set off b3 hel d2, List.length_set, q1]
                      show (splice cur.toList (i * ρ.z k + off) ys).take (xs.length * ρ.z k) = _
                      rw [splice_take _ _ _ _ hle (by simp; omega), p7]
                  have hfl : Flat (ρ.z k) (xs.set i (splice el off ys)) := flat_set b3 ⟨by rw [splice_length _ _ _ d2]; exact hel2.1, fun u hu => by
                    rcases mem_splice hu with hu | hu
                    · exact hel2.2 u hu
                    · exact q2 u hu⟩
                  refine ⟨b1, b2, hfl, ?_⟩
                  cases ow with
                  | own => exact hOwn'
                  | lit => exact ⟨hOwn', by rw [List.length_set]; exact b4.2⟩
                  | ro => cases d1
                  | fix => cases d1
                  | frz => cases d1
              · cases h3
            · cases h3
          · cases h3
        · cases h3
      · cases h3
    · cases h
  · cases h

omit hinj in
include hXZ hM hS hf in
theorem convert_ok {o : Oper} {src dst : TypeId} {x : Operand} (heq : o.op = .convert src dst x) {md : Nat → List Bool} {orc : Orc} {δ : Dl} (h : stepM P md orc kf o st = some δ) : MOk P w0 w X Z U (Uand U kf) ρ st.m a o δ := by
  unfold stepM at h
  simp only [heq] at h
  split at h
  · rename_i s h1
    split at h
    · rename_i e h2 h3
      split at h
      · rename_i hc
        obtain ⟨c1, c2, c3⟩ := hc
        cases h
        obtain ⟨r1, _, _⟩ := evL_ok hS h1
        have e1 : a.eval x = .string s := r1
        have he : P.underlying e = some (.int .u8) := by
          rw [h2] at h3
          exact intT_spec h3
        have hrun := run_bytes_of_string (P := P) w src dst e s (isStr_spec c1) (elemT_spec h2) he
        let cap := grownCap w s.size 0 e
        let cur := bytesRow s cap
        have hcur : ∀ (n : Nat) (u : Value), (rowVals (byteRow s))[n]? = some u → cur[n]? = some u := by
          intro n u hu
          have hr : rowVals (byteRow s) = s.data.toList.map fun b => Value.int .u8 b.toNat := by
            unfold rowVals byteRow
            generalize s.data.toList = l
            induction l with
            | nil => rfl
            | cons b l ih => simp [ih]
          rw [hr] at hu
          have hlt : n < s.data.size := by
            have := (List.getElem?_eq_some_iff.1 hu).1
            simpa using this
          simp only [cur, bytesRow]
          rw [Array.getElem?_append_left (by simpa using hlt)]
          simpa using hu
        have hlen : (byteRow s).length = s.size := by
          show (s.data.toList.map _).length = s.data.size
          rw [List.length_map, Array.length_toList]
        refine ⟨_, w.drew.alloc (.cells cur e (cur.size, cur.size + 1)), ρ.set (kf 0) (.slice (some ⟨w.heap.size, 0, none⟩) s.size cap) 1, upd Fk (kf 0) (· = w.heap.size), .inl ?_, ⟨?_, ⟨⟨(Rho.set_at _ _ _ _).1.symm, rfl⟩, fun _ cs e => by cases e⟩, Uand_key 0, Rho.set_eqOn (hf 0)⟩⟩
        · unfold execOp
          rw [heq]
          refine exec_v ?_
          simp only [e1]
          exact hrun
        · have e2 : appM st.m [(kf 0, some (.row .frz e (byteRow s)))] = upd (upd st.m (kf 0) none) (kf 0) (some (.row .frz e (byteRow s))) := by rw [upd_upd]; rfl
          rw [e2]
          have hnew : (w.drew.alloc (.cells cur e (cur.size, cur.size + 1))).heap[w.heap.size]? = some (.cells cur e (cur.size, cur.size + 1)) := pushed_new w.drew _
          refine new_ok hXZ hM hf (D := fun _ => False) (z := 1) (v := .slice (some ⟨w.heap.size, 0, none⟩) s.size cap) (fun _ h => h.elim) rfl rfl rfl (by rw [show (w.drew.alloc (.cells cur e (cur.size, cur.size + 1))).heap.size = w.heap.size + 1 from pushed_size w.drew _]; omega) (fun i hi _ => push_old w.drew _ i hi) (fun i hi => ⟨by rw [hi, show (w.drew.alloc (.cells cur e (cur.size, cur.size + 1))).heap.size = w.heap.size + 1 from pushed_size w.drew _]; omega, .inr (by rw [hi]; exact Nat.le_refl _)⟩) trivial ?_
          refine ⟨by rw [(Rho.set_at _ _ _ _).2]; exact c2, by rw [(Rho.set_at _ _ _ _).2]; omega, fun el hel => ?_, ?_⟩
          · rw [(Rho.set_at _ _ _ _).2]
            simp only [byteRow, List.mem_map] at hel
            obtain ⟨b, _, rfl⟩ := hel
            exact ⟨rfl, by simp [Value.oneCell']⟩
          · show RdRow _ _ _ _
            rw [(Rho.set_at _ _ _ _).1]
            refine ⟨some ⟨w.heap.size, 0, none⟩, cap, by rw [hlen], by rw [hlen]; exact grownCap_ge w s.size 0 e, grownCap_le_maxLen w s.size 0 e (by simp [maxLen]; omega), fun _ => ⟨_, rfl, rfl, fun n u hu => ?_⟩⟩
            rw [← Addr.lit_add, cell_of_row _ _ _ _ _ _ hnew]
            exact hcur n u hu
      · cases h
    · cases h
  · rename_i k h1
    split at h
    · rename_i e xs h2 h3
      split at h
      · rename_i hc
        obtain ⟨c1, c2, c3⟩ := hc
        cases h
        subst c1
        obtain ⟨⟨r1, r1'⟩, _, r3⟩ := evL_ok hS h1
        obtain ⟨b1, b2, b3, ⟨o, o3⟩, g, b4⟩ := hM.blk k _ h3
        rcases o.2 with ⟨hn, _⟩ | ⟨g', cap, cur, p1, p2, p3, p4, p5, p6, p7⟩
        · rw [b4] at hn; cases hn
        rw [b4] at p1
        injection p1 with p1 p1' p1''
        injection p1 with p1
        injection p1 with p1
        subst p1
        subst p1''
        have hgF : Fk k g := o3 g (by rw [b4]; rfl)
        have hlt := hM.lt k _ h3 g hgF
        have hu : P.underlying e = some (.int .u8) := by
          rw [c3] at h2
          exact intT_spec h2
        have hcur : cur.toList = rowVals xs := by rw [← p7, List.take_of_length_le (by simp; omega)]
        let w' := w.freeze ⟨g, cur.size, none⟩ 1
        have hw' : w'.heap[g]? = some (.cells cur e (cur.size, cur.size + 1)) := by
          simp [w', World.freeze, Array.getElem?_modify, p3]
        have hoth : ∀ i, i ≠ g → w'.heap[i]? = w.heap[i]? := by
          intro i hi
          simp [w', World.freeze, Array.getElem?_modify, if_neg (Ne.symm hi)]
        have hsz : w'.heap.size = w.heap.size := by simp [w', World.freeze]
        have hsh : w.shape? g = some (e, cur.size) := by simp [World.shape?, p3]
        have e1 : a.eval x = .slice (some ⟨g, 0, none⟩) xs.length xs.length := r1.trans b4
        refine ⟨_, w', ρ.set (kf 0) (.slice (some ⟨g, 0, none⟩) xs.length xs.length) (ρ.z k), upd Fk (kf 0) (· = g), .inl ?_, ⟨?_, ⟨⟨(Rho.set_at _ _ _ _).1.symm, rfl⟩, fun _ cs e => by cases e⟩, Uand_key 0, Rho.set_eqOn (hf 0)⟩⟩
        · unfold execOp
          rw [heq]
          refine exec_v ?_
          simp only [e1]
          have hs := elemT_spec c3
          simp only [convert, Sem.run_bind, run_underlying hs, Result.andThen_ok, beq_self_eq_true, run_underlying hu, markStringish, run_shape, hsh, run_freeze]
          rfl
        · show Mem P w0 X Z (Uand U kf) w' (upd (upd st.m k none) (kf 0) (some (.row .fix e xs))) _ _
          refine new_ok hXZ hM hf (D := (· = g)) (z := ρ.z k) (v := .slice (some ⟨g, 0, none⟩) xs.length xs.length) (fun i hi => ⟨_, h3, rfl, by rw [hi]; exact hgF⟩) rfl rfl rfl (by omega) (fun i _ hi => hoth i hi) (fun i hi => ⟨by rw [hi, hsz]; exact hlt, .inl hi⟩) trivial ?_
          refine ⟨by rw [(Rho.set_at _ _ _ _).2]; exact b1, by rw [(Rho.set_at _ _ _ _).2]; exact b2, by rw [(Rho.set_at _ _ _ _).2]; exact b3, g, _, cur, (Rho.set_at _ _ _ _).1, p5, rfl, hw', hcur⟩
      · cases h
    · cases h
  · cases h
end
end Go.Proofs.Ytefofjpjbogilaa.M
