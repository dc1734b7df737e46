/- Operations that give a value and leave the memory as it is: the theorem. -/
import Derived.Test.YtefofjpjbogilaaOpsT
namespace Go.Proofs.Ytefofjpjbogilaa.M
set_option linter.unusedVariables false
set_option linter.unusedSimpArgs false

theorem elemT_spec {P : Program} {t : TypeId} {e : TypeId} (h : elemT P t = some e) : P.underlying t = some (.slice e) := by
  unfold elemT at h
  split at h
  · cases h; assumption
  · cases h
theorem isStr_spec {P : Program} {t : TypeId} (h : isStr P t = true) : P.underlying t = some .string := by
  unfold isStr at h
  split at h
  · assumption
  · cases h
theorem intT_spec {P : Program} {t : TypeId} {k : IntKind} (h : intT P t = some k) : P.underlying t = some (.int k) := by
  unfold intT at h
  split at h
  · cases h; assumption
  · cases h

section
variable {P : Program} {w0 w : World} {X Z : Fp} {U : KS} {st : St} {ρ : Rho} {Fk : Key → Fp} {a : Act} {ovs : List Value}
variable (hM : Mem P w0 X Z U w st.m ρ Fk) (hS : Slots U ρ st a ovs)

include hM in
theorem loadV_ok {t : TypeId} {l : L} {v : V} {x : Value} (hl : relL ρ l x) (hk : okL U l) (h : loadV P st.m t l = some v) :
    ∃ y, (Instr.loadAt t x).run P w = .ok y w ∧ relV ρ v y ∧ okV U v := by
  unfold loadV at h
  split at h
  · rename_i k off
    split at h
    · rename_i o bt cs hm
      obtain ⟨g, vs, t', e1, e2, e3, r, _⟩ := hM.blk k _ hm
      obtain ⟨g', f1, rfl⟩ := hl
      rw [e1] at f1
      cases f1
      obtain ⟨y, h1, h2⟩ := loadVar_ok (P := P) (box_cells e3) r (hM.key k _ hm).2 h
      rw [← Addr.lit_add] at h1
      exact ⟨y, by simpa [Instr.loadAt, Instr.sureAddr] using h1, h2⟩
    · cases h
  · rename_i k i off
    split at h
    · rename_i o e xs hm
      split at h
      · rename_i el hel
        obtain ⟨ad, N, c', f1, f2, rfl⟩ := hl
        have hb := hM.blk k _ hm
        obtain ⟨A, c, g1, g2, g3, g4⟩ := hb.rd
        obtain ⟨z1, z2, z3, _⟩ := hb
        rw [f1] at g1
        cases g1
        obtain ⟨ad', g5, g6, g7⟩ := g4 (by omega)
        cases g5
        obtain ⟨y, h1, h2⟩ := loadVar_ok (P := P) (w := w) (ρ := ρ) (U := U) (b := ad.add (i * ρ.z k)) (vs := el) (fun n u hu => by
          rw [Addr.add_add]
          exact g7 _ _ (flat_get z3 hel hu)) (relLs_consts (by
            rw [List.all_eq_true]
            exact (z3 el (List.mem_of_getElem? hel)).2)) okLs_consts h
        exact ⟨y, by simpa [Instr.loadAt, Instr.sureAddr] using h1, h2⟩
      · cases h
    · cases h
  · cases h

/-- The parts, one by one. -/
def relPs (ρ : Rho) (U : KS) : List (Nat × V) → List (Nat × Value) → Prop
  | [], [] => True
  | x :: xs, v :: vs => (x.1 = v.1 ∧ relV ρ x.2 v.2 ∧ okV U x.2) ∧ relPs ρ U xs vs
  | _, _ => False
theorem partsV_ok (hS : Slots U ρ st a ovs) : ∀ {ps : List (Nat × Operand)} {xs : List (Nat × V)}, partsV st ps = some xs →
    relPs ρ U xs (ps.map fun p => (p.1, a.eval p.2))
  | [], xs, h => by cases h; trivial
  | (i, x) :: r, xs, h => by
    simp only [partsV] at h
    split at h
    · rename_i v vs h1 h2
      cases h
      exact ⟨⟨rfl, evV_ok hS h1⟩, partsV_ok hS h2⟩
    · cases h
theorem NA_cells {x : Value} (h : NA x) : x.cells = #[x] := by
  cases x <;> first | rfl | exact absurd rfl (h _)
theorem relV_cells {ρ : Rho} {v : V} {x : Value} (h : relV ρ v x) (hd : v.okB = true) : relLs ρ v.leaves x.cells.toList := by
  cases v with
  | one l =>
    have hl : l.live := by cases l <;> first | trivial | cases hd
    rw [NA_cells (h.2 hl)]
    exact ⟨h, trivial⟩
  | agg ls =>
    obtain ⟨vs, rfl, r⟩ := h
    simpa [V.leaves, Value.cells] using r
theorem splice_cons {α : Type} (cs : List α) (n : Nat) (y : α) (ys : List α) (h : n < cs.length) : splice cs n (y :: ys) = splice (cs.set n y) (n + 1) ys := by
  have e : cs.set n y = (cs.take n ++ [y]) ++ cs.drop (n + 1) := by rw [List.set_eq_take_append_cons_drop, if_pos h]; simp
  have hl : (cs.take n ++ [y]).length = n + 1 := by simp; omega
  have e2 : (cs.set n y).take (n + 1) = cs.take n ++ [y] := by rw [e, List.take_left' hl]
  have e3 : (cs.set n y).drop (n + 1 + ys.length) = cs.drop (n + 1 + ys.length) := by
    rw [← List.drop_drop, e, List.drop_left' hl, List.drop_drop]
  simp only [splice, e2, e3, List.length_cons, List.append_assoc, List.cons_append, List.nil_append]
  congr 4
  omega
theorem splice_foldl : ∀ (ys : List Value) (off k : Nat) (cs : Array Value), off + k + ys.length ≤ cs.size →
    (((ys.zipIdx k).foldl (fun cs (x : Value × Nat) => cs.setIfInBounds (off + x.2) x.1) cs).toList : List Value) = splice cs.toList (off + k) ys
  | [], off, k, cs, h => by simp [splice]
  | y :: ys, off, k, cs, h => by
    simp only [List.length_cons] at h
    rw [List.zipIdx_cons, List.foldl_cons, splice_foldl ys off (k + 1) _ (by simp; omega), splice_cons _ _ _ _ (by simp; omega)]
    simp [Nat.add_assoc]
theorem relLs_splice {ρ : Rho} {cs ys : List L} {us vs : List Value} (off : Nat) (h : relLs ρ cs us) (hy : relLs ρ ys vs) : relLs ρ (splice cs off ys) (splice us off vs) := by
  have := hy.length
  simp only [splice, this]
  exact ((h.take off).append hy).append (h.drop _)
theorem okLs_splice {U : KS} {cs ys : List L} (off : Nat) (h : okLs U cs) (hy : okLs U ys) : okLs U (splice cs off ys) := by
  refine okLs_mem.2 fun l hl => ?_
  simp only [splice, List.mem_append] at hl
  rcases hl with (hl | hl) | hl
  · exact okLs_mem.1 h l (List.mem_of_mem_take hl)
  · exact okLs_mem.1 hy l hl
  · exact okLs_mem.1 h l (List.mem_of_mem_drop hl)
theorem okV_leaves {U : KS} {v : V} (h : okV U v) : okLs U v.leaves := by
  cases v with
  | one l => exact ⟨h, trivial⟩
  | agg ls => exact h
theorem splice_length {α : Type} (cs ys : List α) (off : Nat) (h : off + ys.length ≤ cs.length) : (splice cs off ys).length = cs.length := by
  simp [splice]; omega
theorem fill_ok {ρ : Rho} {U : KS} {pl : Nat → Option (Nat × Nat)} : ∀ {xs : List (Nat × V)} {vs : List (Nat × Value)} {cs ls : List L} {us : Array Value}, relPs ρ U xs vs → relLs ρ cs us.toList → okLs U cs →
    fillL pl cs xs = some ls → ∃ us', Instr.fill pl us vs = some us' ∧ relLs ρ ls us'.toList ∧ okLs U ls
  | [], [], cs, ls, us, _, h, hk, e => by cases e; exact ⟨us, rfl, h, hk⟩
  | (i, x) :: xs, (j, v) :: vs, cs, ls, us, ⟨⟨e1, r, k⟩, rs⟩, h, hk, e => by
    simp only [] at e1
    subst e1
    simp only [fillL] at e
    split at e
    · rename_i off n hp
      split at e
      · rename_i hc
        obtain ⟨c1, c2, c3⟩ := hc
        have hcells := relV_cells r c3
        have hl1 := hcells.length
        have hl2 := h.length
        simp only [Array.length_toList] at hl1 hl2
        have hs : ((v.cells.zipIdx.foldl (fun cs (x : Value × Nat) => cs.setIfInBounds (off + x.2) x.1) us).toList : List Value) = splice us.toList off v.cells.toList := by
          have := splice_foldl v.cells.toList off 0 us (by simp; omega)
          rw [← Array.foldl_toList, Array.toList_zipIdx]
          simpa using this
        obtain ⟨us', f1, f2, f3⟩ := fill_ok (us := v.cells.zipIdx.foldl (fun cs (x : Value × Nat) => cs.setIfInBounds (off + x.2) x.1) us) rs (by rw [hs]; exact relLs_splice off h hcells) (okLs_splice off hk (okV_leaves k)) e
        refine ⟨us', ?_, f2, f3⟩
        simp only [Instr.fill, hp]
        rw [if_neg (by simp; omega)]
        exact f1
      · cases e
    · cases e
  | [], _ :: _, _, _, _, r, _, _, _ => r.elim
  | _ :: _, [], _, _, _, r, _, _, _ => r.elim
end
end Go.Proofs.Ytefofjpjbogilaa.M
