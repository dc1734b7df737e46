/- Nil slices become rows without elements: nothing changes for the machine. -/
import Derived.Test.YtefofjpjbogilaaOpsT4
namespace Go.Proofs.Ytefofjpjbogilaa.M
set_option linter.unusedVariables false
set_option linter.unusedSimpArgs false

theorem upd_upd {κ α : Type} [DecidableEq κ] (f : κ → α) (k : κ) (v u : α) : upd (upd f k v) k u = upd f k u := by
  funext i
  simp only [upd]
  split <;> rfl
theorem appM_append (m : Key → Option Blk) : ∀ (ks ks' : List (Key × Option Blk)), appM m (ks ++ ks') = appM (appM m ks) ks'
  | [], _ => rfl
  | (k, b) :: ks, ks' => appM_append (upd m k b) ks ks'
/-- What a key stands for from now on. -/
def Rho.set (ρ : Rho) (k : Key) (v : Value) (z : Nat) : Rho := ⟨upd ρ.v k v, upd ρ.z k z⟩
theorem Rho.set_at (ρ : Rho) (k : Key) (v : Value) (z : Nat) : (ρ.set k v z).v k = v ∧ (ρ.set k v z).z k = z := ⟨upd_same _ _ _, upd_same _ _ _⟩
theorem Rho.set_eqOn {ρ : Rho} {k : Key} {v : Value} {z : Nat} {U : KS} (h : ¬ U k) : ∀ k', U k' → ρ.eqOn (ρ.set k v z) k' := by
  intro k' hu
  have hne : k' ≠ k := fun e => h (e ▸ hu)
  exact ⟨upd_ne _ _ _ hne, upd_ne _ _ _ hne⟩
theorem Rho.eqOn.trans {a b c : Rho} {k : Key} (h : a.eqOn b k) (h' : b.eqOn c k) : a.eqOn c k := ⟨h'.1.trans h.1, h'.2.trans h.2⟩
theorem leafT_sz {P : Program} : ∀ (d : Nat) (t e : TypeId), some e ∈ leafT P d t → ∃ n, szOf P e = some (n + 1)
  | 0, t, e, h => by simp [leafT] at h
  | d + 1, t, e, h => by
    simp only [leafT] at h
    split at h
    · simp only [List.mem_flatMap] at h
      obtain ⟨f, _, hf⟩ := h
      exact leafT_sz d _ e hf
    · split at h
      · rename_i n hn
        simp at h
        subst h
        exact ⟨n, hn⟩
      · simp at h
    · simp [List.mem_replicate] at h
theorem isNil_spec {l : L} (h : l.isNil = true) : l = .s (.slice none 0 0) := by
  unfold L.isNil at h
  split at h
  · rfl
  · cases h

theorem norm_ok {P : Program} {w0 w : World} {X Z : Fp} {kf : Nat → Key} (hinj : ∀ i j, kf i = kf j → i = j) (hXZ : ∀ x, X x → Z x) : ∀ {es : List (Option TypeId)} {j : Nat} {ls : List L} {vs : List Value} {V : KS} {m : Key → Option Blk} {ρ : Rho} {Fk : Key → Fp},
    (∀ e, some e ∈ es → ∃ n, szOf P e = some (n + 1)) → Mem P w0 X Z V w m ρ Fk → (∀ i, j ≤ i → ¬ V (kf i)) → relLs ρ ls vs → okLs V ls →
    ∃ V' ρ' Fk', Mem P w0 X Z V' w (appM m (normL kf es j ls).2) ρ' Fk' ∧ (∀ k, V k → V' k) ∧ (∀ k, V' k → V k ∨ ∃ i, j ≤ i ∧ k = kf i) ∧ (∀ k, V k → ρ.eqOn ρ' k) ∧
      relLs ρ' (normL kf es j ls).1 vs ∧ okLs V' (normL kf es j ls).1
  | [], j, ls, vs, V, m, ρ, Fk, he, hM, hf, hr, hk => ⟨V, ρ, Fk, hM, fun _ h => h, fun _ h => .inl h, fun _ _ => ⟨rfl, rfl⟩, hr, hk⟩
  | o :: es, j, [], vs, V, m, ρ, Fk, he, hM, hf, hr, hk => ⟨V, ρ, Fk, hM, fun _ h => h, fun _ h => .inl h, fun _ _ => ⟨rfl, rfl⟩, hr, trivial⟩
  | o :: es, j, l :: ls, [], V, m, ρ, Fk, he, hM, hf, hr, hk => hr.elim
  | o :: es, j, l :: ls, v :: vs, V, m, ρ, Fk, he, hM, hf, hr, hk => by
    have plain : ∃ V' ρ' Fk', Mem P w0 X Z V' w (appM m (normL kf es (j + 1) ls).2) ρ' Fk' ∧ (∀ k, V k → V' k) ∧ (∀ k, V' k → V k ∨ ∃ i, j ≤ i ∧ k = kf i) ∧ (∀ k, V k → ρ.eqOn ρ' k) ∧
        relLs ρ' (l :: (normL kf es (j + 1) ls).1) (v :: vs) ∧ okLs V' (l :: (normL kf es (j + 1) ls).1) := by
      obtain ⟨V', ρ', Fk', h1, h2, h3, h4, h5, h6⟩ := norm_ok hinj hXZ (es := es) (j := j + 1) (ls := ls) (vs := vs) (fun e h => he e (by simp [h])) hM (fun i hi => hf i (by omega)) hr.2 hk.2
      exact ⟨V', ρ', Fk', h1, h2, fun k h => (h3 k h).imp id fun ⟨i, hi, e⟩ => ⟨i, by omega, e⟩, h4, ⟨⟨relL.congr (hk.1.imp h4) hr.1.1, hr.1.2⟩, h5⟩, hk.1.imp h2, h6⟩
    cases o with
    | none => exact plain
    | some e =>
      by_cases hn : l.isNil = true
      · obtain ⟨n, hz⟩ := he e (by simp)
        have hl := isNil_spec hn
        subst hl
        have hfr : ¬ V (kf j) := hf j (Nat.le_refl j)
        let V1 : KS := fun k => V k ∨ k = kf j
        have hM1 : Mem P w0 X Z V1 w (upd m (kf j) (some (.row .own e []))) (ρ.set (kf j) (.slice none 0 0) (n + 1)) (upd Fk (kf j) fun _ => False) := by
          rw [← upd_upd m (kf j) none]
          refine hM.repl (kf j) (kf j) (.row .own e []) (fun _ => False) (fun _ => False) (fun k h => .inl h) ⟨.inr rfl, trivial⟩ hXZ (fun _ h => h.elim) rfl rfl rfl (Nat.le_refl _) (fun _ _ _ => rfl) (Rho.set_eqOn hfr) (fun _ h => h.elim) ?_
          refine ⟨by rw [(Rho.set_at _ _ _ _).2]; exact hz, by rw [(Rho.set_at _ _ _ _).2]; omega, fun _ h => by simp at h, ?_⟩
          show OwnRow w _ e _ _ []
          rw [(Rho.set_at _ _ _ _).1]
          exact ⟨World.ownsRow_nil w 0 e _, fun b h => by simp [Value.ownBlock] at h⟩
        have e1 : ∀ k, V k → ρ.eqOn (ρ.set (kf j) (.slice none 0 0) (n + 1)) k := Rho.set_eqOn hfr
        obtain ⟨V', ρ', Fk', h1, h2, h3, h4, h5, h6⟩ := norm_ok hinj hXZ (es := es) (j := j + 1) (ls := ls) (vs := vs) (fun e h => he e (by simp [h])) hM1 (fun i hi h => by
          rcases h with h | h
          · exact hf i (by omega) h
          · have := hinj _ _ h; omega) (relLs.congr (hk.2.imp e1) hr.2) (hk.2.imp fun k h => .inl h)
        have e2 : (normL kf (some e :: es) j (.s (.slice none 0 0) :: ls)) = (.sl (kf j) :: (normL kf es (j + 1) ls).1, (kf j, some (.row .own e [])) :: (normL kf es (j + 1) ls).2) := by
          simp only [normL, hn, if_true]
        rw [e2]
        refine ⟨V', ρ', Fk', h1, fun k h => h2 k (.inl h), fun k h => ?_, fun k h => (e1 k h).trans (h4 k (.inl h)), ⟨⟨?_, fun _ => ?_⟩, h5⟩, h2 _ (.inr rfl), h6⟩
        · rcases h3 k h with (h | h) | ⟨i, hi, h⟩
          · exact .inl h
          · exact .inr ⟨j, Nat.le_refl _, h⟩
          · exact .inr ⟨i, by omega, h⟩
        · show v = ρ'.v (kf j) ∧ v.oneCell' = true
          rw [(h4 (kf j) (.inr rfl)).1, (Rho.set_at _ _ _ _).1]
          have e := hr.1.1
          simp only [relL] at e
          exact ⟨e, by rw [e]; rfl⟩
        · have : v = .slice none 0 0 := hr.1.1
          rw [this]
          exact fun cs e => by cases e
      · have e2 : (normL kf (some e :: es) j (l :: ls)) = (l :: (normL kf es (j + 1) ls).1, (normL kf es (j + 1) ls).2) := by
          simp only [normL, hn, if_false]
          rfl
        rw [e2]
        exact plain
/-- What an operation leaves: the memory, its value. -/
structure Left (P : Program) (w0 : World) (X Z : Fp) (U U' : KS) (ρ : Rho) (m : Key → Option Blk) (δ : Dl) (v : Value) (w' : World) (ρ' : Rho) (Fk' : Key → Fp) : Prop where
  mem : Mem P w0 X Z U' w' (appM m δ.ks) ρ' Fk'
  rel : relT ρ' δ.x v
  ok : okT U' δ.x
  eq : ∀ k, U k → ρ.eqOn ρ' k

theorem Mem.mono {P : Program} {w0 w : World} {X Z : Fp} {U U' : KS} {m : Key → Option Blk} {ρ : Rho} {Fk : Key → Fp} (h : Mem P w0 X Z U w m ρ Fk) (hU : ∀ k, U k → U' k) : Mem P w0 X Z U' w m ρ Fk :=
  ⟨h.os, h.tape, h.output, h.size, h.keep, fun k b hm => ⟨hU _ (h.key k b hm).1, (h.key k b hm).2.imp hU⟩, h.blk, h.lt, h.all, h.own, h.apart⟩
/-- The keys that an operation may make. -/
def Uand (U : KS) (kf : Nat → Key) : KS := fun k => U k ∨ ∃ j, k = kf j

theorem give_ok {P : Program} {w0 w : World} {X Z : Fp} {U : KS} {m : Key → Option Blk} {ρ : Rho} {Fk : Key → Fp} {kf : Nat → Key} (hinj : ∀ i j, kf i = kf j → i = j) (hXZ : ∀ x, X x → Z x)
    (hM : Mem P w0 X Z U w m ρ Fk) (hf : ∀ j, ¬ U (kf j)) {t : Option TypeId} {x : T} {v : Value} (hr : relT ρ x v) (hk : okT U x) :
    ∃ ρ' Fk', Left P w0 X Z U (Uand U kf) ρ m (giveD P kf t x) v w ρ' Fk' := by
  have same : Left P w0 X Z U (Uand U kf) ρ m ⟨x, []⟩ v w ρ Fk := ⟨hM.mono fun k h => .inl h, hr, hk.imp fun k h => .inl h, fun _ _ => ⟨rfl, rfl⟩⟩
  have up : ∀ {V' : KS}, (∀ k, V' k → U k ∨ ∃ i, 0 ≤ i ∧ k = kf i) → ∀ k, V' k → Uand U kf k := fun h k hk => (h k hk).imp id fun ⟨i, _, e⟩ => ⟨i, e⟩
  unfold giveD
  split
  · rename_i t l
    split
    · obtain ⟨V', ρ', Fk', h1, h2, h3, h4, h5, h6⟩ := norm_ok hinj hXZ (es := leafT P 6 t) (j := 0) (ls := [l]) (vs := [v]) (leafT_sz 6 t) hM (fun i _ => hf i) ⟨hr, trivial⟩ ⟨hk, trivial⟩
      split
      · rename_i l' ks hnl
        rw [hnl] at h1 h5 h6
        exact ⟨ρ', Fk', h1.mono (up h3), h5.1, h6.1.imp (up h3), h4⟩
      · exact ⟨_, _, same⟩
    · exact ⟨_, _, same⟩
  · rename_i t ls
    split
    · obtain ⟨vs, e, r⟩ := hr
      obtain ⟨V', ρ', Fk', h1, h2, h3, h4, h5, h6⟩ := norm_ok hinj hXZ (es := leafT P 6 t) (j := 0) (ls := ls) (vs := vs) (leafT_sz 6 t) hM (fun i _ => hf i) r hk
      exact ⟨ρ', Fk', h1.mono (up h3), ⟨vs, e, h5⟩, h6.imp (up h3), h4⟩
    · exact ⟨_, _, same⟩
  · exact ⟨_, _, same⟩
end Go.Proofs.Ytefofjpjbogilaa.M
