/- A call: what the callee is shown, what it gives back. -/
import Derived.Test.YtefofjpjbogilaaPack
namespace Go.Proofs.Ytefofjpjbogilaa.M
set_option linter.unusedVariables false
set_option linter.unusedSimpArgs false
set_option linter.unusedSectionVars false

theorem bsM_spec {bs : List Blk} {k : Key} {b : Blk} (h : bsM bs k = some b) : ∃ j, j < bs.length ∧ k = pk j ∧ bs[j]? = some b := by
  unfold bsM at h
  split at h
  · rename_i hc
    refine ⟨k.j, (List.getElem?_eq_some_iff.1 h).1, ?_, h⟩
    cases k
    simp only at hc
    obtain ⟨rfl, rfl⟩ := hc
    rfl
  · cases h
theorem bsM_pk {bs : List Blk} {j : Nat} : bsM bs (pk j) = bs[j]? := by simp [bsM, pk]
theorem pk_inj {i j : Nat} (h : pk i = pk j) : i = j := by injection h

def packRho (ρ : Rho) (κ : Nat → Key) : Rho := ⟨fun k => ρ.v (κ k.j), fun k => ρ.z (κ k.j)⟩
def packFk (Fk : Key → Fp) (κ : Nat → Key) : Key → Fp := fun k => Fk (κ k.j)
theorem packRho_eq (ρ : Rho) (κ : Nat → Key) (n : Nat) : ∀ j, j < n → (packRho ρ κ).v (pk j) = ρ.v (κ j) ∧ (packRho ρ κ).z (pk j) = ρ.z (κ j) := fun _ _ => ⟨rfl, rfl⟩

theorem BlkOk.weaken {P : Program} {w : World} {ρ : Rho} {F : Fp} {k : Key} {o : Own} {e : TypeId} {xs : List (List Value)} (h : BlkOk P w ρ F k (.row o e xs)) : BlkOk P w ρ F k (.row .ro e xs) := ⟨h.1, h.2.1, h.2.2.1, h.rd⟩
theorem BlkOk.pass {P : Program} {w : World} {ρ ρ' : Rho} {κ : Nat → Key} {n : Nat} {F : Fp} {k k' : Key} {b b' : Blk} (hρ : ∀ j, j < n → ρ'.v (pk j) = ρ.v (κ j) ∧ ρ'.z (pk j) = ρ.z (κ j)) (hk : ρ.v k = ρ'.v k' ∧ ρ.z k = ρ'.z k') (hp : Pass κ n b b') (h : BlkOk P w ρ F k b) : BlkOk P w ρ' F k' b' := by
  cases hp with
  | row o f e xs =>
    have hr := h.rd
    obtain ⟨h1, h2, h3, h4⟩ := h
    refine ⟨by rw [← hk.2]; exact h1, by rw [← hk.2]; exact h2, by rw [← hk.2]; exact h3, ?_⟩
    rw [← hk.1, ← hk.2]
    cases o <;> cases f <;> first | exact hr | exact h4 | exact h4.1
  | box o o' t cs cs' h1 r =>
    obtain ⟨g, vs, t', e1, e2, e3, e4, e5⟩ := h
    exact ⟨g, vs, t', by rw [← hk.1]; exact e1, e2, e3, r.rel hρ e4, by rw [← hk.2]; exact e5⟩

theorem Mem.pack {P : Program} {w0 w : World} {X Z : Fp} {U : KS} {m : Key → Option Blk} {ρ : Rho} {Fk : Key → Fp} (h : Mem P w0 X Z U w m ρ Fk) {p : Pk} {κ : Nat → Key} (hp : PkOk m p κ) :
    Mem P w0 X Z (Uk p.bs.length) w (bsM p.bs) (packRho ρ κ) (packFk Fk κ) := by
  refine ⟨h.os, h.tape, h.output, h.size, h.keep, fun k b hm => ?_, fun k b hm => ?_, fun k b hm => ?_, fun k b hm => ?_, fun k b hm hmine => ?_, fun k k' b b' hne hm hm' hmine => ?_⟩
  · obtain ⟨j, hj, rfl, hb⟩ := bsM_spec hm
    obtain ⟨b0, h0, hp0⟩ := hp.blk j b hb
    refine ⟨⟨j, hj, rfl⟩, ?_⟩
    cases hp0 with
    | row o f e xs => trivial
    | box o o' t cs cs' h1 r => exact r.ok
  · obtain ⟨j, hj, rfl, hb⟩ := bsM_spec hm
    obtain ⟨b0, h0, hp0⟩ := hp.blk j b hb
    exact (h.blk _ _ h0).pass (packRho_eq ρ κ _) ⟨rfl, rfl⟩ hp0
  · obtain ⟨j, hj, rfl, hb⟩ := bsM_spec hm
    obtain ⟨b0, h0, hp0⟩ := hp.blk j b hb
    exact h.lt _ _ h0
  · obtain ⟨j, hj, rfl, hb⟩ := bsM_spec hm
    obtain ⟨b0, h0, hp0⟩ := hp.blk j b hb
    exact h.all _ _ h0
  · obtain ⟨j, hj, rfl, hb⟩ := bsM_spec hm
    obtain ⟨b0, h0, hp0⟩ := hp.blk j b hb
    exact h.own _ _ h0 (hp0.mine hmine)
  · obtain ⟨j, hj, rfl, hb⟩ := bsM_spec hm
    obtain ⟨j', hj', rfl, hb'⟩ := bsM_spec hm'
    obtain ⟨b0, h0, hp0⟩ := hp.blk j b hb
    obtain ⟨b0', h0', hp0'⟩ := hp.blk j' b' hb'
    exact h.apart _ _ _ _ (fun e => hne (by rw [hp.inj j j' hj hj' e])) h0 h0' (hp0.mine hmine)

/-- The blocks that are one's own; all blocks. -/
def Xof (m : Key → Option Blk) (Fk : Key → Fp) : Fp := fun x => ∃ k b, m k = some b ∧ b.mine = true ∧ Fk k x
def Zof (m : Key → Option Blk) (Fk : Key → Fp) : Fp := fun x => ∃ k b, m k = some b ∧ Fk k x
theorem Xof_Zof {m : Key → Option Blk} {Fk : Key → Fp} : ∀ x, Xof m Fk x → Zof m Fk x := fun x ⟨k, b, h1, _, h3⟩ => ⟨k, b, h1, h3⟩
theorem Mem.rebase {P : Program} {w0 w : World} {X Z : Fp} {U : KS} {m : Key → Option Blk} {ρ : Rho} {Fk : Key → Fp} (h : Mem P w0 X Z U w m ρ Fk) : Mem P w (Xof m Fk) (Zof m Fk) U w m ρ Fk :=
  ⟨rfl, rfl, rfl, Nat.le_refl _, fun _ _ _ => rfl, h.key, h.blk, h.lt, fun k b hm x hx => .inr ⟨k, b, hm, hx⟩, fun k b hm hmine x hx => .inr ⟨k, b, hm, hmine, hx⟩, h.apart⟩

/-- What a call does, told of what it is shown and what it gives back. -/
def CallOk (P : Program) (md : List Bool) (f : FuncId) (ts : List V) (bs : List Blk) (rs os : List V) (bs' : List Blk) : Prop :=
  ∀ w ρ Fk vals, Mem P w (Xof (bsM bs) Fk) (Zof (bsM bs) Fk) (Uk bs.length) w (bsM bs) ρ Fk → relVs ρ ts vals → okVs (Uk bs.length) ts →
    Calls P f vals.toArray w fun e w' => ∃ v ρ' Fk', e = .returned v ∧ Mem P w (Xof (bsM bs) Fk) (Zof (bsM bs) Fk) (Uk bs'.length) w' (bsM bs') ρ' Fk' ∧
      relT ρ' (resT rs) v ∧ okVs (Uk bs'.length) rs ∧ relVs ρ' os (ownOf md vals) ∧ okVs (Uk bs'.length) os

theorem appM_none {ks : List (Key × Option Blk)} : ∀ {m : Key → Option Blk} {k : Key}, (∀ b, (k, b) ∉ ks) → appM m ks k = m k := by
  induction ks with
  | nil => intro m k _; rfl
  | cons x ks ih =>
    intro m k h
    obtain ⟨k1, b1⟩ := x
    have hne : k ≠ k1 := fun e => h b1 (by rw [e]; exact List.mem_cons_self)
    show appM (upd m k1 b1) ks k = m k
    rw [ih fun b hb => h b (List.mem_cons_of_mem _ hb), upd_ne _ _ _ hne]
theorem appM_some {ks : List (Key × Option Blk)} : ∀ {m : Key → Option Blk} {k : Key} {b : Option Blk}, (∀ b', (k, b') ∈ ks → b' = b) → (∃ b', (k, b') ∈ ks) → appM m ks k = b := by
  induction ks with
  | nil => intro m k b _ h; simp at h
  | cons x ks ih =>
    intro m k b h hex
    obtain ⟨k1, b1⟩ := x
    show appM (upd m k1 b1) ks k = b
    by_cases hin : ∃ b', (k, b') ∈ ks
    · exact ih (fun b' hb => h b' (List.mem_cons_of_mem _ hb)) hin
    · obtain ⟨b', hb'⟩ := hex
      rw [List.mem_cons] at hb'
      rcases hb' with hb' | hb'
      · cases hb'
        rw [appM_none fun b' hb => hin ⟨b', hb⟩, upd_same]
        exact h _ List.mem_cons_self
      · exact absurd ⟨b', hb'⟩ hin
theorem goneK_mem {m : Key → Option Blk} {all : Bool} {bs : List Blk} : ∀ {ren : List (Key × Nat)} {k : Key} {x : Option Blk}, (k, x) ∈ goneK m all bs ren ↔
    ∃ j b b', (k, j) ∈ ren ∧ bs[j]? = some b ∧ m k = some b' ∧ ((b.mine = true ∧ x = none) ∨ (b.mine = false ∧ all = false ∧ x = some b'.dem))
  | [], k, x => by simp [goneK]
  | (k1, j1) :: r, k, x => by
    have ih := goneK_mem (m := m) (all := all) (bs := bs) (ren := r) (k := k) (x := x)
    simp only [goneK]
    cases hb : bs[j1]? with
    | none =>
      simp only [ih]
      constructor
      · rintro ⟨j, b, b', h1, h2⟩
        exact ⟨j, b, b', List.mem_cons_of_mem _ h1, h2⟩
      · rintro ⟨j, b, b', h1, h2, h3⟩
        rw [List.mem_cons] at h1
        rcases h1 with h1 | h1
        · cases h1; rw [hb] at h2; cases h2
        · exact ⟨j, b, b', h1, h2, h3⟩
    | some b1 =>
      cases hm : m k1 with
      | none =>
        simp only [ih]
        constructor
        · rintro ⟨j, b, b', h1, h2⟩
          exact ⟨j, b, b', List.mem_cons_of_mem _ h1, h2⟩
        · rintro ⟨j, b, b', h1, h2, h3, h4⟩
          rw [List.mem_cons] at h1
          rcases h1 with h1 | h1
          · cases h1; rw [hm] at h3; cases h3
          · exact ⟨j, b, b', h1, h2, h3, h4⟩
      | some b1' =>
        simp only []
        by_cases hmine : b1.mine = true
        · rw [if_pos hmine, List.mem_cons, ih]
          constructor
          · rintro (h | ⟨j, b, b', h1, h2⟩)
            · cases h; exact ⟨j1, b1, b1', List.mem_cons_self, hb, hm, .inl ⟨hmine, rfl⟩⟩
            · exact ⟨j, b, b', List.mem_cons_of_mem _ h1, h2⟩
          · rintro ⟨j, b, b', h1, h2, h3, h4⟩
            rw [List.mem_cons] at h1
            rcases h1 with h1 | h1
            · cases h1
              rw [hb] at h2; cases h2
              rcases h4 with ⟨_, rfl⟩ | ⟨h4, _⟩
              · exact .inl rfl
              · rw [hmine] at h4; cases h4
            · exact .inr ⟨j, b, b', h1, h2, h3, h4⟩
        · rw [if_neg hmine]
          by_cases hall : all = true
          · rw [if_pos hall, ih]
            constructor
            · rintro ⟨j, b, b', h1, h2⟩
              exact ⟨j, b, b', List.mem_cons_of_mem _ h1, h2⟩
            · rintro ⟨j, b, b', h1, h2, h3, h4⟩
              rw [List.mem_cons] at h1
              rcases h1 with h1 | h1
              · cases h1
                rw [hb] at h2; cases h2
                rcases h4 with ⟨h4, _⟩ | ⟨_, h4, _⟩
                · exact absurd h4 hmine
                · rw [hall] at h4; cases h4
              · exact ⟨j, b, b', h1, h2, h3, h4⟩
          · rw [if_neg hall, List.mem_cons, ih]
            constructor
            · rintro (h | ⟨j, b, b', h1, h2⟩)
              · cases h; exact ⟨j1, b1, b1', List.mem_cons_self, hb, hm, .inr ⟨by simpa using hmine, by simpa using hall, rfl⟩⟩
              · exact ⟨j, b, b', List.mem_cons_of_mem _ h1, h2⟩
            · rintro ⟨j, b, b', h1, h2, h3, h4⟩
              rw [List.mem_cons] at h1
              rcases h1 with h1 | h1
              · cases h1
                rw [hb] at h2; cases h2
                rw [hm] at h3; cases h3
                rcases h4 with ⟨h4, _⟩ | ⟨_, _, rfl⟩
                · exact absurd h4 hmine
                · exact .inl rfl
              · exact .inr ⟨j, b, b', h1, h2, h3, h4⟩
theorem layK_mem {g : Key → Key} : ∀ {bs : List Blk} {i : Nat} {k : Key} {x : Option Blk}, (k, x) ∈ layK g i bs ↔ ∃ j b, bs[j]? = some b ∧ k = g (pk (i + j)) ∧ x = some (renB g b)
  | [], i, k, x => by simp [layK]
  | b :: bs, i, k, x => by
    simp only [layK, List.mem_cons, layK_mem (bs := bs)]
    constructor
    · rintro (h | ⟨j, b', h1, h2, h3⟩)
      · cases h; exact ⟨0, b, rfl, rfl, rfl⟩
      · exact ⟨j + 1, b', by simpa using h1, by rw [h2, show i + 1 + j = i + (j + 1) by omega], h3⟩
    · rintro ⟨j, b', h1, h2, h3⟩
      cases j with
      | zero => simp at h1; subst h1; exact .inl (by rw [h2, h3]; rfl)
      | succ j => exact .inr ⟨j, b', by simpa using h1, by rw [h2, show i + (j + 1) = i + 1 + j by omega], h3⟩
theorem nodupB_inj {α : Type} [BEq α] [LawfulBEq α] (nd : List α → Bool) (hnd : ∀ k r, nd (k :: r) = (!(r.contains k) && nd r)) : ∀ {l : List α} {i j : Nat} {x : α}, nd l = true → l[i]? = some x → l[j]? = some x → i = j
  | [], i, j, x, _, h, _ => by simp at h
  | a :: l, i, j, x, h, hi, hj => by
    rw [hnd] at h
    simp only [Bool.and_eq_true, Bool.not_eq_true', List.contains_eq_mem, decide_eq_false_iff_not] at h
    cases i with
    | zero =>
      cases j with
      | zero => rfl
      | succ j =>
        simp at hi hj
        subst hi
        exact absurd (List.mem_of_getElem? hj) h.1
    | succ i =>
      cases j with
      | zero =>
        simp at hi hj
        subst hj
        exact absurd (List.mem_of_getElem? hi) h.1
      | succ j => exact congrArg (· + 1) (nodupB_inj nd hnd (i := i) (j := j) h.2 (by simpa using hi) (by simpa using hj))

section
variable {ρ ρ' : Rho} {f : Key → Key} {K K' : KS} (hρ : ∀ k, K k → ρ'.v (f k) = ρ.v k ∧ ρ'.z (f k) = ρ.z k) (hK : ∀ k, K k → K' (f k))
include hρ in
theorem renL_rel {l : L} {x : Value} (hk : okL K l) (h : relL ρ l x ∧ (l.live → NA x)) : relL ρ' (renL f l) x ∧ ((renL f l).live → NA x) := by
  cases l with
  | s v => exact h
  | sl k => exact ⟨⟨h.1.1.trans (hρ k hk).1.symm, h.1.2⟩, fun _ => h.2 trivial⟩
  | sub k lo n =>
    obtain ⟨⟨A, c, e, le, g⟩, h2⟩ := h
    exact ⟨⟨A, c, e, le, fun hq => by obtain ⟨ad, N, c', e1, e2, e3⟩ := g hq; exact ⟨ad, N, c', (hρ k hk).1.trans e1, e2, by rw [(hρ k hk).2]; exact e3⟩⟩, fun _ => h2 trivial⟩
  | p k off =>
    obtain ⟨⟨g, e1, e2⟩, h2⟩ := h
    exact ⟨⟨g, (hρ k hk).1.trans e1, e2⟩, fun _ => h2 trivial⟩
  | ep k i off =>
    obtain ⟨⟨ad, N, c', e1, e2, e3⟩, h2⟩ := h
    exact ⟨⟨ad, N, c', (hρ k hk).1.trans e1, e2, by rw [(hρ k hk).2]; exact e3⟩, fun _ => h2 trivial⟩
  | fn g caps => exact ⟨trivial, fun h => h.elim⟩
  | dead => exact ⟨trivial, fun h => h.elim⟩
include hρ in
theorem renLs_rel : ∀ {ls : List L} {xs : List Value}, okLs K ls → relLs ρ ls xs → relLs ρ' (ls.map (renL f)) xs
  | [], [], _, _ => trivial
  | l :: ls, x :: xs, k, h => ⟨renL_rel hρ k.1 h.1, renLs_rel k.2 h.2⟩
  | [], _ :: _, _, h => h.elim
  | _ :: _, [], _, h => h.elim
include hρ in
theorem renV_rel : ∀ {v : V} {x : Value}, okV K v → relV ρ v x → relV ρ' (renV f v) x
  | .one l, x, k, h => renL_rel hρ k h
  | .agg ls, x, k, ⟨vs, e, h⟩ => ⟨vs, e, renLs_rel hρ k h⟩
include hρ in
theorem renVs_rel : ∀ {ls : List V} {xs : List Value}, okVs K ls → relVs ρ ls xs → relVs ρ' (ls.map (renV f)) xs
  | [], [], _, _ => trivial
  | l :: ls, x :: xs, k, h => ⟨renV_rel hρ k.1 h.1, renVs_rel k.2 h.2⟩
  | [], _ :: _, _, h => h.elim
  | _ :: _, [], _, h => h.elim
include hρ in
theorem resT_rel : ∀ {ls : List V} {x : Value}, okVs K ls → relT ρ (resT ls) x → relT ρ' (resT (ls.map (renV f))) x
  | [], x, k, ⟨vs, e, h⟩ => ⟨vs, e, renVs_rel hρ (ls := []) trivial h⟩
  | [l], x, k, h => renV_rel hρ k.1 h
  | l :: l' :: ls, x, k, ⟨vs, e, h⟩ => ⟨vs, e, renVs_rel hρ (ls := l :: l' :: ls) k h⟩
include hK in
theorem renL_ok {l : L} (hk : okL K l) : okL K' (renL f l) := by
  cases l <;> first | exact hK _ hk | trivial
include hK in
theorem renLs_ok : ∀ {ls : List L}, okLs K ls → okLs K' (ls.map (renL f))
  | [], _ => trivial
  | l :: ls, h => ⟨renL_ok hK h.1, renLs_ok h.2⟩
include hK in
theorem renV_ok : ∀ {v : V}, okV K v → okV K' (renV f v)
  | .one l, h => renL_ok hK h
  | .agg ls, h => renLs_ok hK h
include hK in
theorem renVs_ok : ∀ {ls : List V}, okVs K ls → okVs K' (ls.map (renV f))
  | [], _ => trivial
  | l :: ls, h => ⟨renV_ok hK h.1, renVs_ok h.2⟩
include hK in
theorem resT_ok : ∀ {ls : List V}, okVs K ls → okT K' (resT (ls.map (renV f)))
  | [], _ => trivial
  | [l], h => renV_ok hK h.1
  | l :: l' :: ls, h => renVs_ok hK h
end
/-- Where a key of ours is the callee's key, the two stand for the same. -/
theorem aliasL_ok {ρ ρ' : Rho} {K : KS} {taken : List Key} {l l' : L} {x : Value} (h : relL ρ l x) (h' : relL ρ' l' x) (hk : okL K l') {j k : Key} (hm : (j, k) ∈ aliasL taken l l') : ρ'.v j = ρ.v k ∧ K j := by
  unfold aliasL at hm
  split at hm
  · split at hm
    · simp at hm
    · simp at hm
      obtain ⟨rfl, rfl⟩ := hm
      exact ⟨h'.1.symm.trans h.1, hk⟩
  · simp at hm
    obtain ⟨rfl, rfl⟩ := hm
    obtain ⟨g, e1, e2⟩ := h
    obtain ⟨g', e1', e2'⟩ := h'
    rw [e2] at e2'
    cases e2'
    exact ⟨e1'.trans e1.symm, hk⟩
  · simp at hm
theorem aliasLs_ok {ρ ρ' : Rho} {K : KS} {taken : List Key} : ∀ {ls ls' : List L} {xs : List Value}, relLs ρ ls xs → relLs ρ' ls' xs → okLs K ls' → ∀ {j k : Key}, (j, k) ∈ (ls.zip ls').flatMap (fun x => aliasL taken x.1 x.2) → ρ'.v j = ρ.v k ∧ K j
  | [], _, _, _, _, _, j, k, hm => by simp at hm
  | _ :: _, [], _, _, _, _, j, k, hm => by simp at hm
  | l :: ls, l' :: ls', x :: xs, h, h', hk, j, k, hm => by
    simp only [List.zip_cons_cons, List.flatMap_cons, List.mem_append] at hm
    rcases hm with hm | hm
    · exact aliasL_ok h.1.1 h'.1.1 hk.1 hm
    · exact aliasLs_ok h.2 h'.2 hk.2 hm
  | _ :: _, _ :: _, [], h, _, _, _, _, _ => h.elim
theorem aliases_ok {ρ ρ' : Rho} {K : KS} {taken : List Key} : ∀ {md : List Bool} {vs os : List V} {xs : List Value}, relVs ρ vs xs → relVs ρ' os (ownOf md xs) → okVs K os → ∀ {j k : Key}, (j, k) ∈ aliases taken md vs os → ρ'.v j = ρ.v k ∧ K j
  | [], vs, os, xs, _, _, _, j, k, hm => by simp [aliases] at hm
  | true :: f, [], os, xs, _, _, _, j, k, hm => by simp [aliases] at hm
  | true :: f, v :: vs, [], xs, _, _, _, j, k, hm => by simp [aliases] at hm
  | false :: f, [], os, xs, _, _, _, j, k, hm => by simp [aliases] at hm
  | false :: f, v :: vs, os, x :: xs, h, h', hk, j, k, hm => aliases_ok (md := f) (vs := vs) (os := os) (xs := xs) h.2 (by simpa [ownOf] using h') hk (by simpa [aliases] using hm)
  | false :: f, v :: vs, os, [], h, _, _, _, _, _ => h.elim
  | true :: f, v :: vs, o :: os, [], h, _, _, _, _, _ => h.elim
  | true :: f, v :: vs, o :: os, x :: xs, h, h', hk, j, k, hm => by
    simp only [aliases, List.mem_append] at hm
    simp only [ownOf] at h'
    rcases hm with hm | hm
    · have e1 := h.1
      have e2 := h'.1
      cases v with
      | one l =>
        cases o with
        | one l' =>
          simp only [V.leaves, List.zip_cons_cons, List.zip_nil_right, List.flatMap_cons, List.flatMap_nil, List.append_nil] at hm
          exact aliasL_ok e1.1 e2.1 hk.1 hm
        | agg ls' =>
          obtain ⟨vs', rfl, r'⟩ := e2
          cases ls' with
          | nil => simp [V.leaves] at hm
          | cons l' ls' =>
            simp only [V.leaves, List.zip_cons_cons, List.zip_nil_left, List.flatMap_cons, List.flatMap_nil, List.append_nil] at hm
            have : l.live := by cases l <;> first | trivial | simp [aliasL] at hm
            exact absurd rfl (e1.2 this _)
      | agg ls =>
        obtain ⟨us, rfl, r⟩ := e1
        cases o with
        | one l' =>
          cases ls with
          | nil => simp [V.leaves] at hm
          | cons l ls =>
            simp only [V.leaves, List.zip_cons_cons, List.zip_nil_right, List.flatMap_cons, List.flatMap_nil, List.append_nil] at hm
            have : l'.live := by
              cases l' <;> first | trivial | (cases l <;> simp [aliasL] at hm)
            exact absurd rfl (e2.2 this _)
        | agg ls' =>
          obtain ⟨us', e, r'⟩ := e2
          have : us' = us := by
            have := congrArg Value.cells e
            simp [Value.cells] at this
            exact this.symm
          subst this
          exact aliasLs_ok r r' hk.1 hm
    · exact aliases_ok h.2 h'.2 hk.2 hm
end Go.Proofs.Ytefofjpjbogilaa.M
