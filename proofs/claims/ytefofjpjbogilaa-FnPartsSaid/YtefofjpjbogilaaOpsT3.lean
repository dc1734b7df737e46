/- Operations that give a value and leave the memory as it is: every case. -/
import Derived.Test.YtefofjpjbogilaaOpsT2
namespace Go.Proofs.Ytefofjpjbogilaa.M
set_option linter.unusedVariables false
set_option linter.unusedSimpArgs false

theorem szOf_info {P : Program} {t : TypeId} {n : Nat} (h : szOf P t = some n) : ∃ i, P.info? t = some i ∧ i.size = n := by
  unfold szOf at h
  cases hi : P.info? t with
  | none => simp [hi] at h
  | some i => simp [hi] at h; exact ⟨i, rfl, h⟩
theorem zeroT_run {P : Program} {w : World} {t : TypeId} {vs : List Value} (h : zeroT P t = some vs) : ∃ z, (zeroValue t).run P w = .ok z w ∧ z.cells.toList = vs ∧ vs.all Value.oneCell' = true ∧ ∃ i, P.info? t = some i ∧ i.zero = some z := by
  unfold zeroT at h
  split at h
  · rename_i i hi
    split at h
    · rename_i z hz
      split at h
      · rename_i hall
        cases h
        exact ⟨z, by simp [zeroValue, typeInfo, hi, hz], rfl, hall, i, hi, hz⟩
      · cases h
    · cases h
  · cases h
theorem place_spec {P : Program} {t : TypeId} {f off n : Nat} (h : place P t f = some (off, n)) : ∃ fs fd, P.underlying t = some (.struct fs) ∧ fs[f]? = some fd ∧ fd.offset = off ∧ szOf P fd.type = some n := by
  unfold place fieldT fieldTy at h
  cases hu : P.underlying t with
  | none => simp [hu] at h
  | some d =>
    cases d <;> simp only [hu] at h <;> try (cases h; done)
    rename_i fs
    cases hf : fs[f]? with
    | none => simp [hf] at h
    | some fd =>
      cases hz : szOf P fd.type with
      | none => simp [hf, hz] at h
      | some m =>
        simp [hf, hz] at h
        exact ⟨fs, fd, rfl, hf, h.1, by rw [← h.2]; exact hz⟩
/-- The places of a struct's fields, all at once. -/
theorem places_run {P : Program} {w : World} {t : TypeId} {fs : Array Field} (hu : P.underlying t = some (.struct fs)) (h : allSized P t = true) :
    ∃ ps : Array (Nat × Nat), (fs.mapM fun f : Field => do pure (f.offset, ← sizeOf f.type) : Sem _).run P w = .ok ps w ∧ ∀ i, ps[i]? = place P t i := by
  unfold allSized at h
  simp only [hu] at h
  rw [Array.all_eq_true_iff_forall_mem] at h
  have key : ∀ l : List Field, (∀ f ∈ l, (szOf P f.type).isSome = true) → ∃ ps : List (Nat × Nat), (l.mapM fun f : Field => do pure (f.offset, ← sizeOf f.type) : Sem _).run P w = .ok ps w ∧
      ∀ i : Nat, ps[i]? = (l[i]?).bind fun (f : Field) => (szOf P f.type).map fun (n : Nat) => (f.offset, n) := by
    intro l
    induction l with
    | nil => intro _; exact ⟨[], by simp, by simp⟩
    | cons f l ih =>
      intro hl
      obtain ⟨ps, h1, h2⟩ := ih fun g hg => hl g (by simp [hg])
      obtain ⟨n, hn⟩ := Option.isSome_iff_exists.1 (hl f (by simp))
      refine ⟨(f.offset, n) :: ps, ?_, ?_⟩
      · simp only [List.mapM_cons, Sem.run_bind, szOf_run hn, Result.andThen_ok, Sem.run_pure, h1]
      · intro i
        cases i with
        | zero => simp [hn]
        | succ i => simpa using h2 i
  obtain ⟨ps, h1, h2⟩ := key fs.toList fun f hf => h f (Array.mem_toList_iff.1 hf)
  refine ⟨ps.toArray, ?_, ?_⟩
  · rw [← Array.toArray_toList (xs := fs), List.mapM_toArray]
    simp only [Sem.run_map, h1, Result.andThen_ok]
  · intro i
    simp only [List.getElem?_toArray, h2]
    unfold place fieldT fieldTy
    simp only [hu, Array.getElem?_toList]
    cases fs[i]? with
    | none => rfl
    | some f => simp; cases szOf P f.type <;> rfl
theorem strOf_spec : ∀ {xs : List (List Value)} {bs : List UInt8}, strOf xs = some bs → ∃ ns : List Int, xs = ns.map (fun n => [Value.int .u8 n]) ∧ bs = ns.map fun n => UInt8.ofNat n.toNat
  | [], bs, h => by cases h; exact ⟨[], rfl, rfl⟩
  | x :: xs, bs, h => by
    simp only [strOf, List.mapM_cons, Option.pure_def, Option.bind_eq_bind] at h
    split at h
    · rename_i n
      simp only [Option.bind_some] at h
      cases hr : strOf xs with
      | none => simp [strOf] at hr; simp [hr] at h
      | some cs =>
        obtain ⟨ns, e1, e2⟩ := strOf_spec hr
        simp [strOf] at hr
        simp [hr] at h
        exact ⟨n :: ns, by simp [e1], by rw [← h, e2]; rfl⟩
    · simp at h
theorem push_foldl : ∀ (ns : List Int) (b : ByteArray), ns.foldl (fun r n => r.push (UInt8.ofNat n.toNat)) b = b ++ ⟨(ns.map fun n => UInt8.ofNat n.toNat).toArray⟩
  | [], b => by
    apply ByteArray.ext
    simp
  | n :: ns, b => by
    rw [List.foldl_cons, push_foldl ns]
    apply ByteArray.ext
    simp [ByteArray.push, ByteArray.data_append]

section
variable {P : Program} {w0 w : World} {X Z : Fp} {U : KS} {st : St} {ρ : Rho} {Fk : Key → Fp} {a : Act} {ovs : List Value}
variable (hM : Mem P w0 X Z U w st.m ρ Fk) (hS : Slots U ρ st a ovs)
include hM in
theorem rowOf_ok {l : L} {xs : List (List Value)} {x : Value} (hl : relL ρ l x) (h : rowOf st.m l = some xs) :
    ∃ A c z, x = .slice A xs.length c ∧ xs.length ≤ c ∧ Flat z xs ∧ (0 < xs.length → ∃ ad, A = some ad ∧ ∀ n u, (rowVals xs)[n]? = some u → w.cell? (ad.add n) = some u) := by
  unfold rowOf at h
  split at h
  · rename_i k
    split at h
    · rename_i o e ys hm
      cases h
      have hb := hM.blk k _ hm
      obtain ⟨A, c, g1, g2, g3, g4⟩ := hb.rd
      exact ⟨A, c, _, hl.1.trans g1, g2, hb.2.2.1, fun hp => by obtain ⟨ad, a1, a2, a3⟩ := g4 hp; exact ⟨ad, a1, a3⟩⟩
    · cases h
  · rename_i k lo n
    split at h
    · rename_i o e ys hm
      split at h
      · rename_i hle
        cases h
        have hb := hM.blk k _ hm
        obtain ⟨A, c, g1, g2, g3, g4⟩ := hb.rd
        obtain ⟨A', c', rfl, f2, f3⟩ := hl
        have hf := hb.2.2.1
        have hlen : ((ys.drop lo).take n).length = n := by simp; omega
        refine ⟨A', c', ρ.z k, by rw [hlen], by rw [hlen]; exact f2.1, fun el hel => hf el (List.mem_of_mem_drop (List.mem_of_mem_take hel)), fun hp => ?_⟩
        rw [hlen] at hp
        obtain ⟨ad, N, c'', h1, h2, h3⟩ := f3 hp
        refine ⟨_, h3, fun j u hu => ?_⟩
        rw [g1] at h1
        cases h1
        obtain ⟨ad', a1, a2, a3⟩ := g4 (by omega)
        cases a1
        rw [Addr.add_add]
        refine a3 _ _ ?_
        have hfl : ∀ (zs : List (List Value)) (q : Nat), Flat (ρ.z k) zs → rowVals (zs.drop q) = (rowVals zs).drop (q * ρ.z k) := by
          intro zs
          induction zs with
          | nil => intro q _; simp [rowVals]
          | cons z zs ih =>
            intro q hz
            cases q with
            | zero => simp
            | succ q =>
              have := ih q fun y hy => hz y (by simp [hy])
              have hz1 := (hz z (by simp)).1
              simp only [rowVals, List.drop_succ_cons, List.flatten_cons] at this ⊢
              rw [this, List.drop_append, List.drop_eq_nil_of_le (as := z) (by rw [hz1, Nat.add_mul]; omega), hz1, List.nil_append]
              congr 1
              rw [Nat.add_mul]; omega
        have hpre : ∀ (zs : List (List Value)) (q j : Nat) (u : Value), (rowVals (zs.take q))[j]? = some u → (rowVals zs)[j]? = some u := by
          intro zs q j u hj
          have : rowVals zs = rowVals (zs.take q) ++ rowVals (zs.drop q) := by simp only [rowVals, ← List.flatten_append, List.take_append_drop]
          rw [this, List.getElem?_append_left (List.getElem?_eq_some_iff.1 hj).1]
          exact hj
        have := hpre _ _ _ _ hu
        rw [hfl ys lo hf] at this
        simpa using this
      · cases h
    · cases h
  · cases h
    exact ⟨none, 0, 0, hl, Nat.le_refl _, fun _ h => by simp at h, fun h => by simp at h⟩
  · cases h
theorem evVs_ok (hS : Slots U ρ st a ovs) : ∀ {xs : List Operand} {vs : List V}, evVs st xs = some vs → relVs ρ vs (xs.map a.eval) ∧ okVs U vs
  | [], vs, h => by cases h; exact ⟨trivial, trivial⟩
  | x :: xs, vs, h => by
    simp only [evVs] at h
    split at h
    · rename_i v us h1 h2
      cases h
      have i1 := evV_ok hS h1
      have i2 := evVs_ok hS h2
      exact ⟨⟨i1.1, i2.1⟩, ⟨i1.2, i2.2⟩⟩
    · cases h
theorem relVs_leaves {ρ : Rho} : ∀ {vs : List V} {xs : List Value}, vs.all (fun v => !v.isAgg) = true → relVs ρ vs xs → relLs ρ (vs.flatMap V.leaves) xs
  | [], [], _, _ => trivial
  | v :: vs, x :: xs, h, r => by
    simp only [List.all_cons, Bool.and_eq_true] at h
    cases v with
    | agg ls => simp [V.isAgg] at h
    | one l => exact ⟨r.1, relVs_leaves h.2 r.2⟩
  | [], _ :: _, _, r => r.elim
  | _ :: _, [], _, r => r.elim
theorem okVs_leaves {U : KS} : ∀ {vs : List V}, okVs U vs → okLs U (vs.flatMap V.leaves)
  | [], _ => trivial
  | v :: vs, h => okLs_mem.2 fun l hl => by
    simp only [List.flatMap_cons, List.mem_append] at hl
    rcases hl with hl | hl
    · exact okLs_mem.1 (okV_leaves h.1) l hl
    · exact okLs_mem.1 (okVs_leaves h.2) l hl
theorem relVs.get {ρ : Rho} {U : KS} : ∀ {ls : List V} {xs : List Value} {i : Nat} {l : V}, relVs ρ ls xs → okVs U ls → ls[i]? = some l → ∃ v, xs[i]? = some v ∧ relV ρ l v ∧ okV U l
  | l :: ls, v :: vs, 0, _, h, k, e => by cases e; exact ⟨v, rfl, h.1, k.1⟩
  | l :: ls, v :: vs, i + 1, _, h, k, e => relVs.get (ls := ls) (xs := vs) (i := i) h.2 k.2 (by simpa using e)
  | [], [], i, _, _, _, e => by simp at e
  | [], _ :: _, _, _, r, _, _ => r.elim
  | _ :: _, [], _, _, r, _, _ => r.elim
end
end Go.Proofs.Ytefofjpjbogilaa.M
