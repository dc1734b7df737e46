/- What an operation looks at: nothing else matters to it. -/
import Derived.Test.YtefofjpjbogilaaRun
namespace Go.Proofs.Ytefofjpjbogilaa.M
set_option linter.unusedVariables false
set_option linter.unusedSimpArgs false
set_option linter.unusedSectionVars false

theorem loadV_loc {P : Program} {m m' : Key → Option Blk} {t : TypeId} {l : L} (h : ∀ k ∈ keysL l, m' k = m k) : loadV P m' t l = loadV P m t l := by
  cases l <;> simp only [loadV] <;> (have := h _ (by simp only [keysL]; exact List.mem_cons_self); rw [this])
theorem rowOf_loc {m m' : Key → Option Blk} {l : L} (h : ∀ k ∈ keysL l, m' k = m k) : rowOf m' l = rowOf m l := by
  cases l with
  | sl k => simp only [rowOf]; rw [h k (by simp [keysL])]
  | sub k lo n => simp only [rowOf]; rw [h k (by simp [keysL])]
  | s v => unfold rowOf; split <;> simp_all
  | _ => rfl
theorem lenOf_loc {m m' : Key → Option Blk} {l : L} (h : ∀ k ∈ keysL l, m' k = m k) : lenOf m' l = lenOf m l := by
  cases l with
  | sl k => simp only [lenOf]; rw [h k (by simp [keysL])]
  | s v => unfold lenOf; split <;> simp_all
  | _ => rfl
theorem srcOf_loc {P : Program} {m m' : Key → Option Blk} {e t2 : TypeId} {l : L} (h : ∀ k ∈ keysL l, m' k = m k) : srcOf P m' e t2 l = srcOf P m e t2 l := by
  cases l with
  | sl k => simp only [srcOf]; rw [h k (by simp [keysL])]
  | sub k lo n => simp only [srcOf]; rw [h k (by simp [keysL])]
  | s v => unfold srcOf; split <;> simp_all
  | _ => rfl
theorem storeV_loc {P : Program} {m m' : Key → Option Blk} {t : TypeId} {l : L} {x : V} (h : ∀ k ∈ keysL l, m' k = m k) : storeV P m' t l x = storeV P m t l x := by
  cases l with
  | p k off => simp only [storeV]; rw [h k (by simp [keysL])]
  | ep k i off => simp only [storeV]; rw [h k (by simp [keysL])]
  | _ => rfl

/-! ### Packing -/
/-- The packing is the same, and what it names is the same in both memories. -/
def SameR (m m' : Key → Option Blk) (p q : Pk) : Prop := ∀ x ∈ q.ren, x ∈ p.ren ∨ m' x.1 = m x.1
theorem packRow_loc {own : Bool} {m m' : Key → Option Blk} {p : Pk} {k : Key} (h : m' k = m k) : packRow own m' p k = packRow own m p k ∧ SameR m m' p (packRow own m p k).2 := by
  unfold packRow
  rw [h]
  refine ⟨by trivial, fun x hx => ?_⟩
  split at hx
  · exact .inl hx
  · split at hx
    · rw [List.mem_cons] at hx
      rcases hx with rfl | hx
      · exact .inr h
      · exact .inl hx
    · exact .inl hx
theorem SameR.refl {m m' : Key → Option Blk} {p : Pk} : SameR m m' p p := fun x hx => .inl hx
theorem SameR.trans {m m' : Key → Option Blk} {p q r : Pk} (h : SameR m m' p q) (h' : SameR m m' q r) : SameR m m' p r := fun x hx => (h' x hx).elim (h x) .inr
theorem packB_loc {own : Bool} {m m' : Key → Option Blk} : ∀ {ls : List L} {p : Pk}, (∀ k ∈ keysLs ls, m' k = m k) → packB own m' p ls = packB own m p ls ∧ SameR m m' p (packB own m p ls).2
  | [], p, _ => ⟨by trivial, .refl⟩
  | l :: ls, p, h => by
    have hl : ∀ k ∈ keysL l, m' k = m k := fun k hk => h k (by simp only [keysLs, List.mem_append]; exact .inl hk)
    have hls : ∀ k ∈ keysLs ls, m' k = m k := fun k hk => h k (by simp only [keysLs, List.mem_append]; exact .inr hk)
    cases l with
    | sl k =>
      obtain ⟨e, s⟩ := packRow_loc (own := own) (p := p) (hl k (by simp [keysL]))
      simp only [packB, e]
      cases hp : packRow own m p k with
      | mk a q =>
        rw [hp] at s
        obtain ⟨e2, s2⟩ := packB_loc (own := own) (ls := ls) (p := q) hls
        cases a <;> simp only [e2] <;> exact ⟨by trivial, s.trans s2⟩
    | sub k lo n =>
      obtain ⟨e, s⟩ := packRow_loc (own := own) (p := p) (hl k (by simp [keysL]))
      simp only [packB, e]
      cases hp : packRow own m p k with
      | mk a q =>
        rw [hp] at s
        obtain ⟨e2, s2⟩ := packB_loc (own := own) (ls := ls) (p := q) hls
        cases a <;> simp only [e2] <;> exact ⟨by trivial, s.trans s2⟩
    | s v =>
      obtain ⟨e2, s2⟩ := packB_loc (own := own) (ls := ls) (p := p) hls
      simp only [packB, e2]
      exact ⟨by trivial, s2⟩
    | p k off =>
      obtain ⟨e2, s2⟩ := packB_loc (own := own) (ls := ls) (p := p) hls
      simp only [packB, e2]
      exact ⟨by trivial, s2⟩
    | ep k i off =>
      obtain ⟨e2, s2⟩ := packB_loc (own := own) (ls := ls) (p := p) hls
      simp only [packB, e2]
      exact ⟨by trivial, s2⟩
    | fn f caps =>
      obtain ⟨e2, s2⟩ := packB_loc (own := own) (ls := ls) (p := p) hls
      simp only [packB, e2]
      exact ⟨by trivial, s2⟩
    | dead =>
      obtain ⟨e2, s2⟩ := packB_loc (own := own) (ls := ls) (p := p) hls
      simp only [packB, e2]
      exact ⟨by trivial, s2⟩
/-- The two memories are the same as far as these keys reach. -/
def SameK (m m' : Key → Option Blk) (ks : List Key) : Prop := ∀ k ∈ ks, ∀ k' ∈ reach m k, m' k' = m k'
theorem SameK.at {m m' : Key → Option Blk} {ks : List Key} (h : SameK m m' ks) {k : Key} (hk : k ∈ ks) : m' k = m k := h k hk k List.mem_cons_self
theorem SameK.left {m m' : Key → Option Blk} {ks ks' : List Key} (h : SameK m m' (ks ++ ks')) : SameK m m' ks := fun k hk => h k (List.mem_append_left _ hk)
theorem SameK.right {m m' : Key → Option Blk} {ks ks' : List Key} (h : SameK m m' (ks ++ ks')) : SameK m m' ks' := fun k hk => h k (List.mem_append_right _ hk)
mutual
theorem packL_loc {own : Bool} {m m' : Key → Option Blk} : ∀ (l : L) {p : Pk}, SameK m m' (keysL l) → packL own m' p l = packL own m p l ∧ SameR m m' p (packL own m p l).2
  | .s v, p, h => ⟨by trivial, .refl⟩
  | .dead, p, h => ⟨by trivial, .refl⟩
  | .sl k, p, h => by
    obtain ⟨e, s⟩ := packRow_loc (own := own) (p := p) (h.at (k := k) (by simp [keysL]))
    simp only [packL, e]
    cases hp : packRow own m p k with
    | mk a q => rw [hp] at s; cases a <;> exact ⟨by trivial, s⟩
  | .sub k lo n, p, h => by
    obtain ⟨e, s⟩ := packRow_loc (own := own) (p := p) (h.at (k := k) (by simp [keysL]))
    simp only [packL, e]
    cases hp : packRow own m p k with
    | mk a q => rw [hp] at s; cases a <;> exact ⟨by trivial, s⟩
  | .ep k i off, p, h => by
    obtain ⟨e, s⟩ := packRow_loc (own := own) (p := p) (h.at (k := k) (by simp [keysL]))
    simp only [packL, e]
    cases hp : packRow own m p k with
    | mk a q => rw [hp] at s; cases a <;> exact ⟨by trivial, s⟩
  | .p k off, p, h => by
    have hk := h.at (k := k) (by simp [keysL])
    simp only [packL, hk]
    cases hl : p.look k with
    | some j => exact ⟨by trivial, .refl⟩
    | none =>
      cases hm : m k with
      | none => exact ⟨by trivial, .refl⟩
      | some b =>
        cases b with
        | row o e xs => exact ⟨by trivial, .refl⟩
        | box o t cs =>
          obtain ⟨e2, s2⟩ := packB_loc (own := own) (ls := cs) (p := p) (m := m) (m' := m') fun k' hk' => h k (by simp [keysL]) k' (by simp only [reach, hm]; exact List.mem_cons_of_mem _ hk')
          simp only [e2]
          refine ⟨by trivial, fun x hx => ?_⟩
          simp only [List.mem_cons] at hx
          rcases hx with rfl | hx
          · exact .inr hk
          · exact s2 x hx
  | .fn f caps, p, h => by
    obtain ⟨e2, s2⟩ := packLs_loc (own := own) caps (p := p) (by simpa [keysL] using h)
    simp only [packL, e2]
    exact ⟨by trivial, s2⟩
theorem packLs_loc {own : Bool} {m m' : Key → Option Blk} : ∀ (ls : List L) {p : Pk}, SameK m m' (keysLs ls) → packLs own m' p ls = packLs own m p ls ∧ SameR m m' p (packLs own m p ls).2
  | [], p, h => ⟨by trivial, .refl⟩
  | l :: ls, p, h => by
    simp only [keysLs] at h
    obtain ⟨e1, s1⟩ := packL_loc (own := own) l (p := p) h.left
    obtain ⟨e2, s2⟩ := packLs_loc (own := own) ls (p := (packL own m p l).2) h.right
    simp only [packLs, e1, e2]
    exact ⟨by trivial, s1.trans s2⟩
end
theorem packV_loc {own : Bool} {m m' : Key → Option Blk} : ∀ (v : V) {p : Pk}, SameK m m' (keysV v) → packV own m' p v = packV own m p v ∧ SameR m m' p (packV own m p v).2
  | .one l, p, h => by
    obtain ⟨e1, s1⟩ := packL_loc (own := own) l (p := p) (by simpa [keysV, V.leaves, keysLs] using h)
    simp only [packV, e1]
    exact ⟨by trivial, s1⟩
  | .agg ls, p, h => by
    obtain ⟨e1, s1⟩ := packLs_loc (own := own) ls (p := p) (by simpa [keysV, V.leaves] using h)
    simp only [packV, e1]
    exact ⟨by trivial, s1⟩
theorem packArgs_loc {m m' : Key → Option Blk} : ∀ (md : List Bool) (vs : List V) {p : Pk}, SameK m m' (vs.flatMap keysV) → packArgs m' p md vs = packArgs m p md vs ∧ SameR m m' p (packArgs m p md vs).2
  | _, [], p, h => by simp only [packArgs]; exact ⟨by trivial, .refl⟩
  | f, v :: vs, p, h => by
    simp only [List.flatMap_cons] at h
    obtain ⟨e1, s1⟩ := packV_loc (own := f.headD false) v (p := p) h.left
    obtain ⟨e2, s2⟩ := packArgs_loc f.tail vs (p := (packV (f.headD false) m p v).2) h.right
    simp only [packArgs, e1, e2]
    exact ⟨by trivial, s1.trans s2⟩
theorem goneK_loc {m m' : Key → Option Blk} {all : Bool} {bs : List Blk} : ∀ {ren : List (Key × Nat)}, (∀ x ∈ ren, m' x.1 = m x.1) → goneK m' all bs ren = goneK m all bs ren
  | [], _ => rfl
  | (k, j) :: r, h => by
    have h1 := h _ List.mem_cons_self
    have ih := goneK_loc (m := m) (m' := m') (all := all) (bs := bs) (ren := r) fun x hx => h x (List.mem_cons_of_mem _ hx)
    simp only [goneK, h1, ih]
theorem okAl_loc {m m' : Key → Option Blk} {ren : List (Key × Nat)} {bs bs' : List Blk} (h : ∀ x ∈ ren, m' x.1 = m x.1) : ∀ {al : List (Key × Key)}, okAl m' ren bs bs' al = okAl m ren bs bs' al
  | [] => rfl
  | y :: al => by
    have ih := okAl_loc h (bs := bs) (bs' := bs') (al := al)
    unfold okAl at ih ⊢
    rw [List.all_cons, List.all_cons, ih]
    congr 1
    cases hr : (ren.any fun z => z.1 == y.2 && (match bs[z.2]? with | some b => b.mine | none => false)) with
    | false => rfl
    | true =>
      rw [List.any_eq_true] at hr
      obtain ⟨z, h1, h2⟩ := hr
      simp only [Bool.and_eq_true, beq_iff_eq] at h2
      have := h z h1
      rw [h2.1] at this
      rw [this]
theorem callF_loc {P : Program} {md : Nat → List Bool} {orc : Orc} {kf : Nat → Key} {m m' : Key → Option Blk} {g : Nat} {vs : List V} (h : SameK m m' (vs.flatMap keysV)) : callF P md orc kf m' g vs = callF P md orc kf m g vs := by
  obtain ⟨e, s⟩ := packArgs_loc (md g) vs (p := ⟨[], []⟩) h
  have hr : ∀ x ∈ (packArgs m ⟨[], []⟩ (md g) vs).2.ren, m' x.1 = m x.1 := fun x hx => (s x hx).elim (fun h => by simp at h) id
  unfold callF
  rw [e]
  split
  · split
    rename_i ts p hp
    rw [hp] at hr
    split
    · simp only [okAl_loc hr, goneK_loc hr]
    · rfl
  · rfl
end Go.Proofs.Ytefofjpjbogilaa.M
