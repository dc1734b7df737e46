/- Packing: the same memory under new names. -/
import Derived.Test.YtefofjpjbogilaaOpsP
namespace Go.Proofs.Ytefofjpjbogilaa.M
set_option linter.unusedVariables false
set_option linter.unusedSimpArgs false
set_option linter.unusedSectionVars false

mutual
/-- The second is the first under new names, parts of it dead. -/
def RenL (κ : Nat → Key) (n : Nat) : L → L → Prop
  | l, .s v => l = .s v
  | l, .sl k' => ∃ j, j < n ∧ k' = pk j ∧ l = .sl (κ j)
  | l, .sub k' lo q => ∃ j, j < n ∧ k' = pk j ∧ l = .sub (κ j) lo q
  | l, .p k' off => ∃ j, j < n ∧ k' = pk j ∧ l = .p (κ j) off
  | l, .ep k' i off => ∃ j, j < n ∧ k' = pk j ∧ l = .ep (κ j) i off
  | l, .fn f caps' => ∃ caps, l = .fn f caps ∧ RenLs κ n caps caps'
  | _, .dead => True
def RenLs (κ : Nat → Key) (n : Nat) : List L → List L → Prop
  | [], [] => True
  | l :: ls, l' :: ls' => RenL κ n l l' ∧ RenLs κ n ls ls'
  | _, _ => False
end
def RenV (κ : Nat → Key) (n : Nat) : V → V → Prop
  | .one l, .one l' => RenL κ n l l'
  | .agg ls, .agg ls' => RenLs κ n ls ls'
  | _, _ => False
def RenVs (κ : Nat → Key) (n : Nat) : List V → List V → Prop
  | [], [] => True
  | v :: vs, v' :: vs' => RenV κ n v v' ∧ RenVs κ n vs vs'
  | _, _ => False
/-- The keys of what was packed. -/
def Uk (n : Nat) : KS := fun k => ∃ j, j < n ∧ k = pk j

mutual
theorem RenL.mono {κ κ' : Nat → Key} {n n' : Nat} (h : ∀ j, j < n → κ' j = κ j) (hn : n ≤ n') : ∀ {l l' : L}, RenL κ n l l' → RenL κ' n' l l'
  | l, .s v, r => r
  | l, .sl k', ⟨j, a, b, c⟩ => ⟨j, by omega, b, by rw [h j a]; exact c⟩
  | l, .sub k' lo q, ⟨j, a, b, c⟩ => ⟨j, by omega, b, by rw [h j a]; exact c⟩
  | l, .p k' off, ⟨j, a, b, c⟩ => ⟨j, by omega, b, by rw [h j a]; exact c⟩
  | l, .ep k' i off, ⟨j, a, b, c⟩ => ⟨j, by omega, b, by rw [h j a]; exact c⟩
  | l, .fn f caps', ⟨caps, e, r⟩ => ⟨caps, e, RenLs.mono h hn r⟩
  | _, .dead, _ => trivial
theorem RenLs.mono {κ κ' : Nat → Key} {n n' : Nat} (h : ∀ j, j < n → κ' j = κ j) (hn : n ≤ n') : ∀ {ls ls' : List L}, RenLs κ n ls ls' → RenLs κ' n' ls ls'
  | [], [], _ => trivial
  | l :: ls, l' :: ls', r => ⟨RenL.mono h hn (l := l) (l' := l') r.1, RenLs.mono h hn (ls := ls) (ls' := ls') r.2⟩
  | [], _ :: _, r => r.elim
  | _ :: _, [], r => r.elim
end
theorem RenV.mono {κ κ' : Nat → Key} {n n' : Nat} (h : ∀ j, j < n → κ' j = κ j) (hn : n ≤ n') : ∀ {l l' : V}, RenV κ n l l' → RenV κ' n' l l'
  | .one l, .one l', r => RenL.mono h hn (l := l) r
  | .agg ls, .agg ls', r => RenLs.mono h hn (ls := ls) r
  | .one _, .agg _, r => r.elim
  | .agg _, .one _, r => r.elim
theorem RenVs.mono {κ κ' : Nat → Key} {n n' : Nat} (h : ∀ j, j < n → κ' j = κ j) (hn : n ≤ n') : ∀ {ls ls' : List V}, RenVs κ n ls ls' → RenVs κ' n' ls ls'
  | [], [], _ => trivial
  | l :: ls, l' :: ls', r => ⟨RenV.mono h hn r.1, RenVs.mono h hn r.2⟩
  | [], _ :: _, r => r.elim
  | _ :: _, [], r => r.elim

section
variable {ρ ρ' : Rho} {κ : Nat → Key} {n : Nat} (hρ : ∀ j, j < n → ρ'.v (pk j) = ρ.v (κ j) ∧ ρ'.z (pk j) = ρ.z (κ j))
include hρ
mutual
theorem RenL.rel : ∀ {l l' : L} {x : Value}, RenL κ n l l' → relL ρ l x ∧ (l.live → NA x) → relL ρ' l' x ∧ (l'.live → NA x)
  | l, .s v, x, r, h => by rw [show l = .s v from r] at h; exact h
  | l, .sl k', x, ⟨j, a, b, c⟩, h => by subst b; subst c; exact ⟨⟨h.1.1.trans (hρ j a).1.symm, h.1.2⟩, h.2⟩
  | l, .sub k' lo q, x, ⟨j, a, b, c⟩, h => by
    subst b; subst c
    obtain ⟨⟨A, c, e, le, f⟩, h2⟩ := h
    exact ⟨⟨A, c, e, le, fun hq => by obtain ⟨ad, N, c', e1, e2, e3⟩ := f hq; exact ⟨ad, N, c', (hρ j a).1.trans e1, e2, by rw [(hρ j a).2]; exact e3⟩⟩, h2⟩
  | l, .p k' off, x, ⟨j, a, b, c⟩, h => by
    subst b; subst c
    obtain ⟨⟨g, e1, e2⟩, h2⟩ := h
    exact ⟨⟨g, (hρ j a).1.trans e1, e2⟩, h2⟩
  | l, .ep k' i off, x, ⟨j, a, b, c⟩, h => by
    subst b; subst c
    obtain ⟨⟨ad, N, c', e1, e2, e3⟩, h2⟩ := h
    exact ⟨⟨ad, N, c', (hρ j a).1.trans e1, e2, by rw [(hρ j a).2]; exact e3⟩, h2⟩
  | l, .fn f caps', x, ⟨caps, e, r⟩, h => by
    subst e
    obtain ⟨⟨vs, e, r2⟩, h2⟩ := h
    exact ⟨⟨vs, e, RenLs.rel r r2⟩, h2⟩
  | _, .dead, _, _, _ => ⟨trivial, fun h => h.elim⟩
theorem RenLs.rel : ∀ {ls ls' : List L} {xs : List Value}, RenLs κ n ls ls' → relLs ρ ls xs → relLs ρ' ls' xs
  | [], [], [], _, _ => trivial
  | l :: ls, l' :: ls', x :: xs, r, h => ⟨RenL.rel (l := l) (l' := l') r.1 h.1, RenLs.rel (ls := ls) (ls' := ls') r.2 h.2⟩
  | [], _ :: _, _, r, _ => r.elim
  | _ :: _, [], _, r, _ => r.elim
  | [], [], _ :: _, _, h => h.elim
  | _ :: _, _ :: _, [], _, h => h.elim
end
theorem RenV.rel : ∀ {v v' : V} {x : Value}, RenV κ n v v' → relV ρ v x → relV ρ' v' x
  | .one l, .one l', x, r, h => RenL.rel hρ (l := l) r h
  | .agg ls, .agg ls', x, r, ⟨vs, e, h⟩ => ⟨vs, e, RenLs.rel hρ (ls := ls) r h⟩
  | .one _, .agg _, _, r, _ => r.elim
  | .agg _, .one _, _, r, _ => r.elim
theorem RenVs.rel : ∀ {ls ls' : List V} {xs : List Value}, RenVs κ n ls ls' → relVs ρ ls xs → relVs ρ' ls' xs
  | [], [], [], _, _ => trivial
  | l :: ls, l' :: ls', x :: xs, r, h => ⟨RenV.rel hρ r.1 h.1, RenVs.rel r.2 h.2⟩
  | [], _ :: _, _, r, _ => r.elim
  | _ :: _, [], _, r, _ => r.elim
  | [], [], _ :: _, _, h => h.elim
  | _ :: _, _ :: _, [], _, h => h.elim
end
mutual
theorem RenL.ok {κ : Nat → Key} {n : Nat} : ∀ {l l' : L}, RenL κ n l l' → okL (Uk n) l'
  | l, .s v, r => trivial
  | l, .sl k', ⟨j, a, b, c⟩ => ⟨j, a, b⟩
  | l, .sub k' lo q, ⟨j, a, b, c⟩ => ⟨j, a, b⟩
  | l, .p k' off, ⟨j, a, b, c⟩ => ⟨j, a, b⟩
  | l, .ep k' i off, ⟨j, a, b, c⟩ => ⟨j, a, b⟩
  | l, .fn f caps', ⟨caps, e, r⟩ => RenLs.ok (ls := caps) (ls' := caps') r
  | _, .dead, _ => trivial
theorem RenLs.ok {κ : Nat → Key} {n : Nat} : ∀ {ls ls' : List L}, RenLs κ n ls ls' → okLs (Uk n) ls'
  | [], [], _ => trivial
  | l :: ls, l' :: ls', r => ⟨RenL.ok (l := l) (l' := l') r.1, RenLs.ok (ls := ls) (ls' := ls') r.2⟩
  | [], _ :: _, r => r.elim
  | _ :: _, [], r => r.elim
end
theorem RenV.ok {κ : Nat → Key} {n : Nat} : ∀ {v v' : V}, RenV κ n v v' → okV (Uk n) v'
  | .one l, .one l', r => RenL.ok (l := l) r
  | .agg ls, .agg ls', r => RenLs.ok (ls := ls) r
  | .one _, .agg _, r => r.elim
  | .agg _, .one _, r => r.elim
theorem RenVs.ok {κ : Nat → Key} {n : Nat} : ∀ {ls ls' : List V}, RenVs κ n ls ls' → okVs (Uk n) ls'
  | [], [], _ => trivial
  | l :: ls, l' :: ls', r => ⟨RenV.ok r.1, RenVs.ok r.2⟩
  | [], _ :: _, r => r.elim
  | _ :: _, [], r => r.elim

/-- What is shown of a block: the same or less. -/
inductive Pass (κ : Nat → Key) (n : Nat) : Blk → Blk → Prop
  | row (o : Own) (f : Bool) (e : TypeId) (xs : List (List Value)) : Pass κ n (.row o e xs) (.row (o.pass f) e xs)
  | box (o o' : Bool) (t : TypeId) (cs cs' : List L) (h : o' = true → o = true) (r : RenLs κ n cs cs') : Pass κ n (.box o t cs) (.box o' t cs')
theorem Pass.mono {κ κ' : Nat → Key} {n n' : Nat} (h : ∀ j, j < n → κ' j = κ j) (hn : n ≤ n') {b b' : Blk} : Pass κ n b b' → Pass κ' n' b b'
  | .row o f e xs => .row o f e xs
  | .box o o' t cs cs' h1 r => .box o o' t cs cs' h1 (r.mono h hn)
theorem Pass.mine {κ : Nat → Key} {n : Nat} {b b' : Blk} (h : Pass κ n b b') (hm : b'.mine = true) : b.mine = true := by
  cases h with
  | row o f e xs => cases o <;> cases f <;> first | rfl | cases hm
  | box o o' t cs cs' h1 r => exact h1 hm
/-- A packing of m: κ j is the key of the block number j. -/
structure PkOk (m : Key → Option Blk) (p : Pk) (κ : Nat → Key) : Prop where
  ren : ∀ k j, (k, j) ∈ p.ren → j < p.bs.length ∧ κ j = k
  back : ∀ j, j < p.bs.length → (κ j, j) ∈ p.ren
  inj : ∀ i j, i < p.bs.length → j < p.bs.length → κ i = κ j → i = j
  blk : ∀ j b, p.bs[j]? = some b → ∃ b0, m (κ j) = some b0 ∧ Pass κ p.bs.length b0 b
/-- The packing went on. -/
structure Grew (m : Key → Option Blk) (p p' : Pk) (κ κ' : Nat → Key) : Prop where
  ok : PkOk m p' κ'
  same : ∀ j, j < p.bs.length → κ' j = κ j
  le : p.bs.length ≤ p'.bs.length
theorem Grew.refl {m : Key → Option Blk} {p : Pk} {κ : Nat → Key} (h : PkOk m p κ) : Grew m p p κ κ := ⟨h, fun _ _ => rfl, Nat.le_refl _⟩
theorem Grew.trans {m : Key → Option Blk} {p q r : Pk} {κ κ' κ'' : Nat → Key} (h : Grew m p q κ κ') (h' : Grew m q r κ' κ'') : Grew m p r κ κ'' :=
  ⟨h'.ok, fun j hj => (h'.same j (Nat.lt_of_lt_of_le hj h.le)).trans (h.same j hj), Nat.le_trans h.le h'.le⟩
theorem look_some {p : Pk} {k : Key} {j : Nat} (h : p.look k = some j) : (k, j) ∈ p.ren := by
  unfold Pk.look at h
  rw [Option.map_eq_some_iff] at h
  obtain ⟨x, h1, rfl⟩ := h
  have := List.find?_some h1
  simp at this
  subst this
  exact List.mem_of_find?_eq_some h1
theorem look_none {p : Pk} {k : Key} (h : p.look k = none) : ∀ j, (k, j) ∉ p.ren := by
  intro j hj
  unfold Pk.look at h
  rw [Option.map_eq_none_iff, List.find?_eq_none] at h
  have := h _ hj
  simp at this
/-- One more block. -/
theorem PkOk.push {m : Key → Option Blk} {p : Pk} {κ : Nat → Key} (h : PkOk m p κ) {k : Key} {b0 b : Blk} (hk : ∀ j, (k, j) ∉ p.ren) (hm : m k = some b0) (hb : Pass κ p.bs.length b0 b) :
    Grew m p ⟨(k, p.bs.length) :: p.ren, p.bs ++ [b]⟩ κ (upd κ p.bs.length k) := by
  have same : ∀ j, j < p.bs.length → upd κ p.bs.length k j = κ j := fun j hj => upd_ne _ _ _ (by omega)
  refine ⟨⟨fun k' j hj => ?_, fun j hj => ?_, fun i j hi hj e => ?_, fun j b' hj => ?_⟩, same, by simp⟩
  · simp only [List.mem_cons, Prod.mk.injEq] at hj
    rcases hj with ⟨rfl, rfl⟩ | hj
    · exact ⟨by simp, upd_same _ _ _⟩
    · obtain ⟨h1, h2⟩ := h.ren k' j hj
      exact ⟨by simp; omega, by rw [same j h1]; exact h2⟩
  · simp only [List.length_append, List.length_cons, List.length_nil] at hj
    by_cases hlt : j < p.bs.length
    · rw [same j hlt]
      exact List.mem_cons_of_mem _ (h.back j hlt)
    · have : j = p.bs.length := by omega
      subst this
      rw [upd_same]
      exact List.mem_cons_self
  · simp only [List.length_append, List.length_cons, List.length_nil] at hi hj
    by_cases hi' : i < p.bs.length
    · by_cases hj' : j < p.bs.length
      · rw [same i hi', same j hj'] at e
        exact h.inj i j hi' hj' e
      · have : j = p.bs.length := by omega
        subst this
        rw [same i hi', upd_same] at e
        exact absurd (e ▸ h.back i hi') (hk i)
    · have : i = p.bs.length := by omega
      subst this
      by_cases hj' : j < p.bs.length
      · rw [same j hj', upd_same] at e
        exact absurd (e ▸ h.back j hj') (hk j)
      · omega
  · simp only [List.length_append, List.length_cons, List.length_nil]
    by_cases hlt : j < p.bs.length
    · rw [List.getElem?_append_left hlt] at hj
      obtain ⟨c0, c1, c2⟩ := h.blk j b' hj
      rw [same j hlt]
      exact ⟨c0, c1, c2.mono same (by omega)⟩
    · have hlen := (List.getElem?_eq_some_iff.1 hj).1
      simp only [List.length_append, List.length_cons, List.length_nil] at hlen
      have : j = p.bs.length := by omega
      subst this
      rw [upd_same]
      rw [List.getElem?_append_right (Nat.le_refl _), Nat.sub_self] at hj
      simp at hj
      subst hj
      exact ⟨b0, hm, hb.mono same (by omega)⟩

theorem packRow_ok {own : Bool} {m : Key → Option Blk} {p : Pk} {κ : Nat → Key} (h : PkOk m p κ) (k : Key) :
    ∃ κ', Grew m p (packRow own m p k).2 κ κ' ∧ (∀ k', (packRow own m p k).1 = some k' → ∃ j, j < (packRow own m p k).2.bs.length ∧ k' = pk j ∧ κ' j = k) ∧
      (∀ j, p.bs.length ≤ j → j < (packRow own m p k).2.bs.length → ∃ o e xs, m (κ' j) = some (.row o e xs)) := by
  unfold packRow
  split
  · rename_i j hj
    obtain ⟨h1, h2⟩ := h.ren k j (look_some hj)
    exact ⟨κ, .refl h, fun k' e => by cases e; exact ⟨j, h1, rfl, h2⟩, fun j h1 h2 => by simp only [] at h2; omega⟩
  · rename_i hn
    split
    · rename_i o e xs hm
      refine ⟨_, h.push (look_none hn) hm (.row o own e xs), fun k' e => by cases e; exact ⟨p.bs.length, by simp, rfl, upd_same _ _ _⟩, fun j h1 h2 => ?_⟩
      simp only [List.length_append, List.length_cons, List.length_nil] at h2
      have : j = p.bs.length := by omega
      subst this
      rw [upd_same]
      exact ⟨_, _, _, hm⟩
    · exact ⟨κ, .refl h, (fun k' e => by cases e), fun j h1 h2 => by simp only [] at h2; omega⟩
theorem packB_ok {own : Bool} {m : Key → Option Blk} : ∀ {ls : List L} {p : Pk} {κ : Nat → Key}, PkOk m p κ →
    ∃ κ', Grew m p (packB own m p ls).2 κ κ' ∧ RenLs κ' (packB own m p ls).2.bs.length ls (packB own m p ls).1 ∧
      (∀ j, p.bs.length ≤ j → j < (packB own m p ls).2.bs.length → ∃ o e xs, m (κ' j) = some (.row o e xs))
  | [], p, κ, h => ⟨κ, .refl h, trivial, fun j h1 h2 => by simp only [packB] at h2; omega⟩
  | l :: ls, p, κ, h => by
    have key : ∀ (r : L × Pk) (κ1 : Nat → Key), Grew m p r.2 κ κ1 → RenL κ1 r.2.bs.length l r.1 → (∀ j, p.bs.length ≤ j → j < r.2.bs.length → ∃ o e xs, m (κ1 j) = some (.row o e xs)) →
        ∃ κ', Grew m p (packB own m r.2 ls).2 κ κ' ∧ RenLs κ' (packB own m r.2 ls).2.bs.length (l :: ls) (r.1 :: (packB own m r.2 ls).1) ∧
          (∀ j, p.bs.length ≤ j → j < (packB own m r.2 ls).2.bs.length → ∃ o e xs, m (κ' j) = some (.row o e xs)) := by
      intro r κ1 g1 r1 w1
      obtain ⟨κ2, g2, r2, w2⟩ := packB_ok (own := own) (ls := ls) g1.ok
      refine ⟨κ2, g1.trans g2, ⟨r1.mono g2.same g2.le, r2⟩, fun j h1 h2 => ?_⟩
      by_cases hj : j < r.2.bs.length
      · rw [g2.same j hj]
        exact w1 j h1 hj
      · exact w2 j (by omega) h2
    cases l with
    | s v => exact key (.s v, p) κ (.refl h) rfl fun j h1 h2 => by simp only [] at h2; omega
    | p k off => exact key (.dead, p) κ (.refl h) trivial fun j h1 h2 => by simp only [] at h2; omega
    | ep k i off => exact key (.dead, p) κ (.refl h) trivial fun j h1 h2 => by simp only [] at h2; omega
    | fn f caps => exact key (.dead, p) κ (.refl h) trivial fun j h1 h2 => by simp only [] at h2; omega
    | dead => exact key (.dead, p) κ (.refl h) trivial fun j h1 h2 => by simp only [] at h2; omega
    | sl k =>
      obtain ⟨κ1, g1, r1, w1⟩ := packRow_ok (own := own) h k
      simp only [packB]
      cases hp : packRow own m p k with
      | mk a q =>
        rw [hp] at g1 r1 w1
        cases a with
        | none => exact key (.dead, q) κ1 g1 trivial w1
        | some k' =>
          obtain ⟨j, h1, h2, h3⟩ := r1 k' rfl
          exact key (.sl k', q) κ1 g1 ⟨j, h1, h2, by rw [h3]⟩ w1
    | sub k lo n =>
      obtain ⟨κ1, g1, r1, w1⟩ := packRow_ok (own := own) h k
      simp only [packB]
      cases hp : packRow own m p k with
      | mk a q =>
        rw [hp] at g1 r1 w1
        cases a with
        | none => exact key (.dead, q) κ1 g1 trivial w1
        | some k' =>
          obtain ⟨j, h1, h2, h3⟩ := r1 k' rfl
          exact key (.sub k' lo n, q) κ1 g1 ⟨j, h1, h2, by rw [h3]⟩ w1
mutual
theorem packL_ok {own : Bool} {m : Key → Option Blk} : ∀ (l : L) {p : Pk} {κ : Nat → Key}, PkOk m p κ →
    ∃ κ', Grew m p (packL own m p l).2 κ κ' ∧ RenL κ' (packL own m p l).2.bs.length l (packL own m p l).1
  | .s v, p, κ, h => ⟨κ, .refl h, rfl⟩
  | .dead, p, κ, h => ⟨κ, .refl h, trivial⟩
  | .sl k, p, κ, h => by
    obtain ⟨κ1, g1, r1, w1⟩ := packRow_ok (own := own) h k
    simp only [packL]
    cases hp : packRow own m p k with
    | mk a q =>
      rw [hp] at g1 r1 w1
      cases a with
      | none => exact ⟨κ1, g1, trivial⟩
      | some k' =>
        obtain ⟨j, h1, h2, h3⟩ := r1 k' rfl
        exact ⟨κ1, g1, j, h1, h2, by rw [h3]⟩
  | .sub k lo n, p, κ, h => by
    obtain ⟨κ1, g1, r1, w1⟩ := packRow_ok (own := own) h k
    simp only [packL]
    cases hp : packRow own m p k with
    | mk a q =>
      rw [hp] at g1 r1 w1
      cases a with
      | none => exact ⟨κ1, g1, trivial⟩
      | some k' =>
        obtain ⟨j, h1, h2, h3⟩ := r1 k' rfl
        exact ⟨κ1, g1, j, h1, h2, by rw [h3]⟩
  | .ep k i off, p, κ, h => by
    obtain ⟨κ1, g1, r1, w1⟩ := packRow_ok (own := own) h k
    simp only [packL]
    cases hp : packRow own m p k with
    | mk a q =>
      rw [hp] at g1 r1 w1
      cases a with
      | none => exact ⟨κ1, g1, trivial⟩
      | some k' =>
        obtain ⟨j, h1, h2, h3⟩ := r1 k' rfl
        exact ⟨κ1, g1, j, h1, h2, by rw [h3]⟩
  | .p k off, p, κ, h => by
    simp only [packL]
    split
    · rename_i j hj
      obtain ⟨h1, h2⟩ := h.ren k j (look_some hj)
      exact ⟨κ, .refl h, j, h1, rfl, by rw [h2]⟩
    · rename_i hn
      split
      · rename_i o t cs hm
        obtain ⟨κ1, g1, r1, w1⟩ := packB_ok (own := own) (ls := cs) h
        have hk : ∀ j, (k, j) ∉ (packB own m p cs).2.ren := by
          intro j hj
          obtain ⟨h1, h2⟩ := g1.ok.ren k j hj
          by_cases hlt : j < p.bs.length
          · rw [g1.same j hlt] at h2
            exact look_none hn j (h2 ▸ h.back j hlt)
          · obtain ⟨o', e', xs', hm'⟩ := w1 j (by omega) h1
            rw [h2, hm] at hm'
            cases hm'
        have g2 := g1.ok.push hk hm (.box o (o && own) t cs (packB own m p cs).1 (fun h => by simp at h; exact h.1) r1)
        exact ⟨_, g1.trans g2, _, by simp, rfl, by rw [upd_same]⟩
      · exact ⟨κ, .refl h, trivial⟩
  | .fn f caps, p, κ, h => by
    obtain ⟨κ1, g1, r1⟩ := packLs_ok (own := own) caps h
    exact ⟨κ1, g1, caps, rfl, r1⟩
theorem packLs_ok {own : Bool} {m : Key → Option Blk} : ∀ (ls : List L) {p : Pk} {κ : Nat → Key}, PkOk m p κ →
    ∃ κ', Grew m p (packLs own m p ls).2 κ κ' ∧ RenLs κ' (packLs own m p ls).2.bs.length ls (packLs own m p ls).1
  | [], p, κ, h => ⟨κ, .refl h, trivial⟩
  | l :: ls, p, κ, h => by
    obtain ⟨κ1, g1, r1⟩ := packL_ok (own := own) l h
    obtain ⟨κ2, g2, r2⟩ := packLs_ok (own := own) ls g1.ok
    exact ⟨κ2, g1.trans g2, r1.mono g2.same g2.le, r2⟩
end
theorem packV_ok {own : Bool} {m : Key → Option Blk} : ∀ (v : V) {p : Pk} {κ : Nat → Key}, PkOk m p κ →
    ∃ κ', Grew m p (packV own m p v).2 κ κ' ∧ RenV κ' (packV own m p v).2.bs.length v (packV own m p v).1
  | .one l, p, κ, h => packL_ok l h
  | .agg ls, p, κ, h => packLs_ok ls h
theorem packVs_ok {own : Bool} {m : Key → Option Blk} : ∀ (ls : List V) {p : Pk} {κ : Nat → Key}, PkOk m p κ →
    ∃ κ', Grew m p (packVs own m p ls).2 κ κ' ∧ RenVs κ' (packVs own m p ls).2.bs.length ls (packVs own m p ls).1
  | [], p, κ, h => ⟨κ, .refl h, trivial⟩
  | l :: ls, p, κ, h => by
    obtain ⟨κ1, g1, r1⟩ := packV_ok (own := own) l h
    obtain ⟨κ2, g2, r2⟩ := packVs_ok (own := own) ls g1.ok
    exact ⟨κ2, g1.trans g2, r1.mono g2.same g2.le, r2⟩
theorem packArgs_ok {m : Key → Option Blk} : ∀ (md : List Bool) (ls : List V) {p : Pk} {κ : Nat → Key}, PkOk m p κ →
    ∃ κ', Grew m p (packArgs m p md ls).2 κ κ' ∧ RenVs κ' (packArgs m p md ls).2.bs.length ls (packArgs m p md ls).1
  | _, [], p, κ, h => by simp only [packArgs]; exact ⟨κ, .refl h, trivial⟩
  | f, l :: ls, p, κ, h => by
    obtain ⟨κ1, g1, r1⟩ := packV_ok (own := f.headD false) l h
    obtain ⟨κ2, g2, r2⟩ := packArgs_ok f.tail ls g1.ok
    exact ⟨κ2, g1.trans g2, r1.mono g2.same g2.le, r2⟩
theorem PkOk.nil {m : Key → Option Blk} {κ : Nat → Key} : PkOk m ⟨[], []⟩ κ :=
  ⟨fun _ _ h => by simp at h, fun _ h => by simp at h, fun _ _ h => by simp at h, fun _ _ h => by simp at h⟩
end Go.Proofs.Ytefofjpjbogilaa.M
