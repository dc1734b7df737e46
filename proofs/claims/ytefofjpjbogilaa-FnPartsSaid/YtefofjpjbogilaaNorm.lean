/- Narrower views: a part of a row becomes a row that is read; what is ours may be read alone. -/
import Derived.Test.YtefofjpjbogilaaG2
namespace Go.Proofs.Ytefofjpjbogilaa.M
set_option linter.unusedVariables false
set_option linter.unusedSimpArgs false
set_option linter.unusedSectionVars false

theorem calls_mono {P : Program} {f : FuncId} {args : Array Value} {w : World} {R R' : Ending → World → Prop} (h : Calls P f args w R) (hr : ∀ e w', R e w' → R' e w') : Calls P f args w R' := by
  intro cs
  obtain ⟨e, w', fr, h1, h2⟩ := h cs
  exact ⟨e, w', fr, hr _ _ h1, h2⟩

theorem Mem.view {P : Program} {w0 w : World} {X Z : Fp} {U : KS} {m : Key → Option Blk} {ρ ρ' : Rho} {Fk : Key → Fp} (h : Mem P w0 X Z U w m ρ Fk) {k : Key} {b b' : Blk} (hm : m k = some b)
    (hρ : ∀ k', k' ≠ k → ρ.eqOn ρ' k') (hbox : ∀ k' c, m k' = some c → k' ≠ k → okB (fun q => q ≠ k) c)
    (hb : BlkOk P w ρ' (Fk k) k b') (hU : okB U b') (hmine : b'.mine = false) : Mem P w0 X Z U w (upd m k (some b')) ρ' Fk := by
  have old : ∀ k' c, upd m k (some b') k' = some c → (k' = k ∧ c = b') ∨ (k' ≠ k ∧ m k' = some c) := by
    intro k' c hc
    by_cases hk : k' = k
    · subst hk
      rw [upd_same] at hc
      cases hc
      exact .inl ⟨rfl, rfl⟩
    · rw [upd_ne _ _ _ hk] at hc
      exact .inr ⟨hk, hc⟩
  refine ⟨h.os, h.tape, h.output, h.size, h.keep, fun k' c hc => ?_, fun k' c hc => ?_, fun k' c hc x hx => ?_, fun k' c hc x hx => ?_, fun k' c hc hmn x hx => ?_, fun k1 k2 c1 c2 hne h1 h2 hmn x hx => ?_⟩
  · rcases old k' c hc with ⟨rfl, rfl⟩ | ⟨hk, hc'⟩
    · exact ⟨(h.key _ _ hm).1, hU⟩
    · exact h.key _ _ hc'
  · rcases old k' c hc with ⟨rfl, rfl⟩ | ⟨hk, hc'⟩
    · exact hb
    · exact BlkOk.loc (fun _ _ => rfl) (hρ _ hk) ((hbox _ _ hc' hk).imp hρ) (h.blk _ _ hc')
  · rcases old k' c hc with ⟨rfl, rfl⟩ | ⟨hk, hc'⟩
    · exact h.lt _ _ hm x hx
    · exact h.lt _ _ hc' x hx
  · rcases old k' c hc with ⟨rfl, rfl⟩ | ⟨hk, hc'⟩
    · exact h.all _ _ hm x hx
    · exact h.all _ _ hc' x hx
  · rcases old k' c hc with ⟨rfl, rfl⟩ | ⟨hk, hc'⟩
    · rw [hmine] at hmn; cases hmn
    · exact h.own _ _ hc' hmn x hx
  · rcases old k1 c1 h1 with ⟨rfl, rfl⟩ | ⟨hk1, hc1⟩
    · rw [hmine] at hmn; cases hmn
    · rcases old k2 c2 h2 with ⟨rfl, rfl⟩ | ⟨hk2, hc2⟩
      · exact h.apart _ _ _ _ hne hc1 hm hmn x hx
      · exact h.apart _ _ _ _ hne hc1 hc2 hmn x hx
/-- Some blocks are read alone from now on. -/
theorem Mem.dems {P : Program} {w0 w : World} {X Z : Fp} {U : KS} {m m' : Key → Option Blk} {ρ : Rho} {Fk : Key → Fp} (h : Mem P w0 X Z U w m ρ Fk)
    (hm : ∀ k b', m' k = some b' → ∃ b, m k = some b ∧ (b' = b ∨ b' = b.dem)) : Mem P w0 X Z U w m' ρ Fk := by
  refine ⟨h.os, h.tape, h.output, h.size, h.keep, fun k' c hc => ?_, fun k' c hc => ?_, fun k' c hc x hx => ?_, fun k' c hc x hx => ?_, fun k' c hc hmn x hx => ?_, fun k1 k2 c1 c2 hne h1 h2 hmn x hx => ?_⟩
  · obtain ⟨b, h1, rfl | rfl⟩ := hm _ _ hc
    · exact h.key _ _ h1
    · exact ⟨(h.key _ _ h1).1, okB_dem (h.key _ _ h1).2⟩
  · obtain ⟨b, h1, rfl | rfl⟩ := hm _ _ hc
    · exact h.blk _ _ h1
    · exact (h.blk _ _ h1).dem
  · obtain ⟨b, h1, _⟩ := hm _ _ hc
    exact h.lt _ _ h1 x hx
  · obtain ⟨b, h1, _⟩ := hm _ _ hc
    exact h.all _ _ h1 x hx
  · obtain ⟨b, h1, rfl | rfl⟩ := hm _ _ hc
    · exact h.own _ _ h1 hmn x hx
    · rw [Blk.dem_mine] at hmn; cases hmn
  · obtain ⟨b1, q1, rfl | rfl⟩ := hm _ _ h1
    · obtain ⟨b2, q2, _⟩ := hm _ _ h2
      exact h.apart _ _ _ _ hne q1 q2 hmn x hx
    · rw [Blk.dem_mine] at hmn; cases hmn

/-! ### A part of a row -/
theorem rowVals_drop {z : Nat} : ∀ (zs : List (List Value)) (q : Nat), Flat z zs → rowVals (zs.drop q) = (rowVals zs).drop (q * z) := by
  intro zs
  induction zs with
  | nil => intro q _; simp [rowVals]
  | cons z1 zs ih =>
    intro q hz
    cases q with
    | zero => simp
    | succ q =>
      have := ih q fun y hy => hz y (by simp [hy])
      have hz1 := (hz z1 (by simp)).1
      simp only [rowVals, List.drop_succ_cons, List.flatten_cons] at this ⊢
      rw [this, List.drop_append, List.drop_eq_nil_of_le (as := z1) (by rw [hz1, Nat.add_mul]; omega), hz1, List.nil_append]
      congr 1
      rw [Nat.add_mul]; omega
theorem rowVals_sub {z : Nat} {xs : List (List Value)} (hz : Flat z xs) {lo n j : Nat} {u : Value} (h : (rowVals ((xs.drop lo).take n))[j]? = some u) : (rowVals xs)[lo * z + j]? = some u := by
  have h2 : (rowVals (xs.drop lo))[j]? = some u := by
    have : rowVals (xs.drop lo) = rowVals ((xs.drop lo).take n) ++ rowVals ((xs.drop lo).drop n) := by simp only [rowVals, ← List.flatten_append, List.take_append_drop]
    rw [this, List.getElem?_append_left (List.getElem?_eq_some_iff.1 h).1]
    exact h
  rw [rowVals_drop _ _ hz, List.getElem?_drop] at h2
  exact h2
theorem relL_sub {P : Program} {w : World} {ρ : Rho} {F : Fp} {k : Key} {o : Own} {e : TypeId} {xs : List (List Value)} {lo n : Nat} {x : Value} (hb : BlkOk P w ρ F k (.row o e xs)) (hl : relL ρ (.sub k lo n) x) :
    BlkOk P w ⟨upd ρ.v k x, ρ.z⟩ F k (.row .ro e ((xs.drop lo).take n)) ∧ relL ⟨upd ρ.v k x, ρ.z⟩ (.sl k) x := by
  obtain ⟨A, c, rfl, ⟨hc1, hc2⟩, f⟩ := hl
  obtain ⟨B, d, g1, g2, g3, g4⟩ := hb.rd
  have hlen : ((xs.drop lo).take n).length = n := by
    by_cases hn : 0 < n
    · obtain ⟨ad, N, c', e1, e2, e3⟩ := f hn
      rw [g1] at e1
      cases e1
      simp
      omega
    · simp
      omega
  refine ⟨⟨hb.1, hb.2.1, fun el hel => hb.2.2.1 el (List.mem_of_mem_drop (List.mem_of_mem_take hel)), ?_⟩, ?_, rfl⟩
  · show RdRow w F (upd ρ.v k _ k) _
    rw [upd_same]
    refine ⟨A, c, by rw [hlen], by rw [hlen]; exact hc1, hc2, fun hp => ?_⟩
    rw [hlen] at hp
    obtain ⟨ad, N, c', e1, e2, e3⟩ := f hp
    rw [g1] at e1
    cases e1
    obtain ⟨ad', a1, a2, a3⟩ := g4 (by omega)
    cases a1
    refine ⟨_, e3, by rw [Addr.add_block]; exact a2, fun j u hu => ?_⟩
    rw [Addr.add_add]
    exact a3 _ _ (rowVals_sub hb.2.2.1 hu)
  · show _ = upd ρ.v k _ k
    rw [upd_same]
def boxKeys (bs : List Blk) : List Key := bs.flatMap fun | .box _ _ cs => keysLs cs | _ => []
/-- A part of a row that no one else looks at (ro: of rows that are read alone). -/
def subL (ro : Bool) (ctx : List Key) (bs : List Blk) : L → L × List Blk
  | .sub k lo n => match bs[k.j]? with
    | some (.row o e xs) => if k = pk k.j ∧ ctx.contains k = false ∧ (!ro || decide (o = .ro)) = true then (.sl k, bs.set k.j (.row .ro e ((xs.drop lo).take n))) else (.sub k lo n, bs)
    | _ => (.sub k lo n, bs)
  | l => (l, bs)
def subLs (ro : Bool) (ctx : List Key) (bs : List Blk) : List L → List L × List Blk
  | [] => ([], bs)
  | l :: ls => let r := subL ro (ctx ++ keysLs ls) bs l; let s := subLs ro (ctx ++ keysL l) r.2 ls; (r.1 :: s.1, s.2)
def subV (ro : Bool) (ctx : List Key) (bs : List Blk) : V → V × List Blk
  | .one l => let r := subL ro ctx bs l; (.one r.1, r.2)
  | .agg ls => let r := subLs ro ctx bs ls; (.agg r.1, r.2)
def subVs (ro : Bool) (ctx : List Key) (bs : List Blk) : List V → List V × List Blk
  | [] => ([], bs)
  | v :: vs => let r := subV ro (ctx ++ vs.flatMap keysV) bs v; let s := subVs ro (ctx ++ keysV v) r.2 vs; (r.1 :: s.1, s.2)
/-- What the views leave. -/
structure SubOk (P : Program) (w0 : World) (X Z : Fp) (w : World) (Fk : Key → Fp) (ro : Bool) (ctx ks : List Key) (bs bs' : List Blk) (ρ ρ' : Rho) : Prop where
  mem : Mem P w0 X Z (Uk bs'.length) w (bsM bs') ρ' Fk
  eq : ∀ k ∈ ctx, ρ.eqOn ρ' k
  len : bs'.length = bs.length
  box : boxKeys bs' = boxKeys bs
  mine : ro = true → ∀ k, (bsM bs' k).map Blk.mine = (bsM bs k).map Blk.mine
theorem SubOk.refl {P : Program} {w0 w : World} {X Z : Fp} {Fk : Key → Fp} {ro : Bool} {ctx ks : List Key} {bs : List Blk} {ρ : Rho} (h : Mem P w0 X Z (Uk bs.length) w (bsM bs) ρ Fk) : SubOk P w0 X Z w Fk ro ctx ks bs bs ρ ρ :=
  ⟨h, fun _ _ => ⟨rfl, rfl⟩, rfl, rfl, fun _ _ => rfl⟩
theorem okLs_keys {K : KS} : ∀ {ls : List L}, (∀ k ∈ keysLs ls, K k) → okLs K ls
  | [], _ => trivial
  | l :: ls, h => ⟨okL_keys fun k hk => h k (List.mem_append_left _ hk), okLs_keys (ls := ls) fun k hk => h k (List.mem_append_right _ hk)⟩
where
  okL_keys {K : KS} : ∀ {l : L}, (∀ k ∈ keysL l, K k) → okL K l
  | .s _, _ => trivial
  | .sl k, h => h k (by simp [keysL])
  | .sub k _ _, h => h k (by simp [keysL])
  | .p k _, h => h k (by simp [keysL])
  | .ep k _ _, h => h k (by simp [keysL])
  | .fn _ caps, h => okLs_keys (ls := caps) h
  | .dead, _ => trivial
theorem okV_keys {K : KS} {v : V} (h : ∀ k ∈ keysV v, K k) : okV K v := by
  cases v with
  | one l => exact (okLs_keys (ls := [l]) h).1
  | agg ls => exact okLs_keys h
theorem okVs_keys {K : KS} : ∀ {vs : List V}, (∀ k ∈ vs.flatMap keysV, K k) → okVs K vs
  | [], _ => trivial
  | v :: vs, h => ⟨okV_keys fun k hk => h k (by simp only [List.flatMap_cons]; exact List.mem_append_left _ hk), okVs_keys fun k hk => h k (by simp only [List.flatMap_cons]; exact List.mem_append_right _ hk)⟩
theorem bsM_set {bs : List Blk} {j : Nat} {b : Blk} (hj : j < bs.length) : bsM (bs.set j b) = upd (bsM bs) (pk j) (some b) := by
  funext k
  unfold bsM upd
  by_cases hk : k = pk j
  · subst hk
    simp [pk, hj]
  · rw [if_neg hk]
    split
    · rename_i hc
      have : k.j ≠ j := by
        intro e
        apply hk
        cases k
        simp only at hc e
        simp [pk, hc, e]
      rw [List.getElem?_set_ne (Ne.symm this)]
      exact (if_pos hc).symm
    · rename_i hc
      exact (if_neg hc).symm
theorem boxKeys_mem {bs : List Blk} {j : Nat} {o : Bool} {t : TypeId} {cs : List L} (h : bs[j]? = some (.box o t cs)) : ∀ k ∈ keysLs cs, k ∈ boxKeys bs := by
  intro k hk
  unfold boxKeys
  rw [List.mem_flatMap]
  exact ⟨_, List.mem_of_getElem? h, hk⟩
theorem boxKeys_set {bs : List Blk} : ∀ {j : Nat} {o o' : Own} {e e' : TypeId} {xs xs' : List (List Value)}, bs[j]? = some (.row o e xs) → boxKeys (bs.set j (.row o' e' xs')) = boxKeys bs := by
  induction bs with
  | nil => intro j o o' e e' xs xs' h; simp at h
  | cons b bs ih =>
    intro j o o' e e' xs xs' h
    cases j with
    | zero =>
      simp at h
      subst h
      simp [boxKeys]
    | succ j =>
      have := ih (j := j) (e' := e') (o' := o') (xs' := xs') (by simpa using h)
      simp only [boxKeys, List.set_cons_succ, List.flatMap_cons] at this ⊢
      rw [this]
section
variable {P : Program} {w0 w : World} {X Z : Fp} {Fk : Key → Fp} {ro : Bool}
theorem subL_ok {ctx : List Key} {bs : List Blk} {ρ : Rho} (hM : Mem P w0 X Z (Uk bs.length) w (bsM bs) ρ Fk) (hbox : ∀ k ∈ boxKeys bs, k ∈ ctx) (l : L) {x : Value} (hl : relL ρ l x ∧ (l.live → NA x)) :
    ∃ ρ', SubOk P w0 X Z w Fk ro ctx (keysL l) bs (subL ro ctx bs l).2 ρ ρ' ∧ (relL ρ' (subL ro ctx bs l).1 x ∧ ((subL ro ctx bs l).1.live → NA x)) ∧ keysL (subL ro ctx bs l).1 = keysL l := by
  have no : ∃ ρ', SubOk P w0 X Z w Fk ro ctx (keysL l) bs bs ρ ρ' ∧ (relL ρ' l x ∧ (l.live → NA x)) ∧ keysL l = keysL l := ⟨ρ, .refl hM, hl, rfl⟩
  unfold subL
  split
  · rename_i k lo n
    split
    · rename_i o e xs hk
      split
      · rename_i hc
        obtain ⟨h1, h2, h3⟩ := hc
        have hj : k.j < bs.length := (List.getElem?_eq_some_iff.1 hk).1
        have hm : bsM bs k = some (.row o e xs) := by rw [h1, bsM_pk]; exact hk
        obtain ⟨r1, r2⟩ := relL_sub (hM.blk k _ hm) hl.1
        have hmem := hM.view (ρ' := ⟨upd ρ.v k x, ρ.z⟩) hm (fun k' hne => ⟨upd_ne _ _ _ hne, rfl⟩) (fun k' c hc hne => by
          cases c with
          | row => trivial
          | box o' t cs =>
            refine okLs_keys fun q hq e => ?_
            subst e
            obtain ⟨j, _, _, hj'⟩ := bsM_spec hc
            have := hbox _ (boxKeys_mem hj' _ hq)
            rw [List.contains_eq_mem] at h2
            exact absurd this (by simpa using h2)) r1 trivial rfl
        have hset : bsM (bs.set k.j (.row .ro e ((xs.drop lo).take n))) = upd (bsM bs) k (some (.row .ro e ((xs.drop lo).take n))) := by rw [bsM_set hj, ← h1]
        refine ⟨⟨upd ρ.v k x, ρ.z⟩, ⟨?_, fun q hq => ⟨upd_ne _ _ _ ?_, rfl⟩, by simp, boxKeys_set hk, fun hro q => ?_⟩, ⟨r2, fun _ => hl.2 trivial⟩, rfl⟩
        · show Mem P w0 X Z (Uk (bs.set _ _).length) w (bsM (bs.set _ _)) _ Fk
          rw [hset, List.length_set]
          exact hmem
        · rintro rfl
          rw [List.contains_eq_mem] at h2
          exact absurd hq (by simpa using h2)
        · rw [hset]
          by_cases hq : q = k
          · subst hq
            rw [upd_same, hm]
            subst hro
            simp only [Bool.not_true, Bool.false_or, decide_eq_true_eq] at h3
            rw [h3]
            rfl
          · rw [upd_ne _ _ _ hq]
      · exact no
    · exact no
  · exact no
theorem subLs_ok : ∀ (ls : List L) {ctx : List Key} {bs : List Blk} {ρ : Rho} {xs : List Value}, Mem P w0 X Z (Uk bs.length) w (bsM bs) ρ Fk → (∀ k ∈ boxKeys bs, k ∈ ctx) → relLs ρ ls xs →
    ∃ ρ', SubOk P w0 X Z w Fk ro ctx (keysLs ls) bs (subLs ro ctx bs ls).2 ρ ρ' ∧ relLs ρ' (subLs ro ctx bs ls).1 xs ∧ keysLs (subLs ro ctx bs ls).1 = keysLs ls
  | [], ctx, bs, ρ, xs, hM, hbox, hl => ⟨ρ, .refl hM, hl, rfl⟩
  | l :: ls, ctx, bs, ρ, [], hM, hbox, hl => hl.elim
  | l :: ls, ctx, bs, ρ, x :: xs, hM, hbox, hl => by
    obtain ⟨ρ1, s1, t1, u1⟩ := subL_ok (ro := ro) (ctx := ctx ++ keysLs ls) hM (fun k hk => List.mem_append_left _ (hbox k hk)) l hl.1
    have hl2 : relLs ρ1 ls xs := relLs.congr (okLs_keys fun k hk => s1.eq k (List.mem_append_right _ hk)) hl.2
    obtain ⟨ρ2, s2, t2, u2⟩ := subLs_ok ls (ctx := ctx ++ keysL l) s1.mem (fun k hk => List.mem_append_left _ (hbox k (by rw [s1.box] at hk; exact hk))) hl2
    refine ⟨ρ2, ⟨s2.mem, fun k hk => ?_, s2.len.trans s1.len, s2.box.trans s1.box, fun hr k => (s2.mine hr k).trans (s1.mine hr k)⟩, ⟨⟨relL.congr ?_ t1.1, t1.2⟩, t2⟩, ?_⟩
    · obtain ⟨a1, a2⟩ := s1.eq k (List.mem_append_left _ hk)
      obtain ⟨b1, b2⟩ := s2.eq k (List.mem_append_left _ hk)
      exact ⟨b1.trans a1, b2.trans a2⟩
    · exact (okLs_keys (ls := [_]) fun k hk => s2.eq k (List.mem_append_right _ (by simpa [keysLs, u1] using hk))).1
    · simp only [subLs, keysLs, u1, u2]
theorem subV_ok (v : V) {ctx : List Key} {bs : List Blk} {ρ : Rho} {x : Value} (hM : Mem P w0 X Z (Uk bs.length) w (bsM bs) ρ Fk) (hbox : ∀ k ∈ boxKeys bs, k ∈ ctx) (hl : relV ρ v x) :
    ∃ ρ', SubOk P w0 X Z w Fk ro ctx (keysV v) bs (subV ro ctx bs v).2 ρ ρ' ∧ relV ρ' (subV ro ctx bs v).1 x ∧ keysV (subV ro ctx bs v).1 = keysV v := by
  cases v with
  | one l =>
    obtain ⟨ρ1, s1, t1, u1⟩ := subL_ok (ro := ro) hM hbox l hl
    exact ⟨ρ1, ⟨s1.mem, s1.eq, s1.len, s1.box, s1.mine⟩, t1, by simp [keysV, V.leaves, keysLs, subV, u1]⟩
  | agg ls =>
    obtain ⟨vs, e, hl⟩ := hl
    obtain ⟨ρ1, s1, t1, u1⟩ := subLs_ok (ro := ro) ls hM hbox hl
    exact ⟨ρ1, s1, ⟨vs, e, t1⟩, u1⟩
theorem subVs_ok : ∀ (ls : List V) {ctx : List Key} {bs : List Blk} {ρ : Rho} {xs : List Value}, Mem P w0 X Z (Uk bs.length) w (bsM bs) ρ Fk → (∀ k ∈ boxKeys bs, k ∈ ctx) → relVs ρ ls xs →
    ∃ ρ', SubOk P w0 X Z w Fk ro ctx [] bs (subVs ro ctx bs ls).2 ρ ρ' ∧ relVs ρ' (subVs ro ctx bs ls).1 xs ∧ (subVs ro ctx bs ls).1.flatMap keysV = ls.flatMap keysV
  | [], ctx, bs, ρ, xs, hM, hbox, hl => ⟨ρ, .refl hM, hl, rfl⟩
  | l :: ls, ctx, bs, ρ, [], hM, hbox, hl => hl.elim
  | l :: ls, ctx, bs, ρ, x :: xs, hM, hbox, hl => by
    obtain ⟨ρ1, s1, t1, u1⟩ := subV_ok (ro := ro) (ctx := ctx ++ ls.flatMap keysV) l hM (fun k hk => List.mem_append_left _ (hbox k hk)) hl.1
    have hl2 : relVs ρ1 ls xs := relVs.congr (okVs_keys fun k hk => s1.eq k (List.mem_append_right _ hk)) hl.2
    obtain ⟨ρ2, s2, t2, u2⟩ := subVs_ok ls (ctx := ctx ++ keysV l) s1.mem (fun k hk => List.mem_append_left _ (hbox k (by rw [s1.box] at hk; exact hk))) hl2
    refine ⟨ρ2, ⟨s2.mem, fun k hk => ?_, s2.len.trans s1.len, s2.box.trans s1.box, fun hr k => (s2.mine hr k).trans (s1.mine hr k)⟩, ⟨relV.congr ?_ t1, t2⟩, ?_⟩
    · obtain ⟨a1, a2⟩ := s1.eq k (List.mem_append_left _ hk)
      obtain ⟨b1, b2⟩ := s2.eq k (List.mem_append_left _ hk)
      exact ⟨b1.trans a1, b2.trans a2⟩
    · exact okV_keys fun k hk => s2.eq k (List.mem_append_right _ (by rw [u1] at hk; exact hk))
    · simp only [subVs, List.flatMap_cons, u1, u2]
end
theorem okVs_of_keys {K : KS} : ∀ {vs : List V}, okVs K vs → ∀ k ∈ vs.flatMap keysV, K k
  | [], _, k, hk => by simp at hk
  | v :: vs, h, k, hk => by
    simp only [List.flatMap_cons, List.mem_append] at hk
    rcases hk with hk | hk
    · cases v with
      | one l => exact okLs_of (ls := [l]) ⟨h.1, trivial⟩ k hk
      | agg ls => exact okLs_of (ls := ls) h.1 k hk
    · exact okVs_of_keys h.2 k hk
where
  okLs_of {K : KS} : ∀ {ls : List L}, okLs K ls → ∀ k ∈ keysLs ls, K k
  | [], _, k, hk => by simp [keysLs] at hk
  | l :: ls, h, k, hk => by
    simp only [keysLs, List.mem_append] at hk
    rcases hk with hk | hk
    · exact okL_of h.1 k hk
    · exact okLs_of (ls := ls) h.2 k hk
  okL_of {K : KS} : ∀ {l : L}, okL K l → ∀ k ∈ keysL l, K k
  | .s _, _, k, hk => by simp [keysL] at hk
  | .sl q, h, k, hk => by simp [keysL] at hk; subst hk; exact h
  | .sub q _ _, h, k, hk => by simp [keysL] at hk; subst hk; exact h
  | .p q _, h, k, hk => by simp [keysL] at hk; subst hk; exact h
  | .ep q _ _, h, k, hk => by simp [keysL] at hk; subst hk; exact h
  | .fn _ caps, h, k, hk => okLs_of (ls := caps) h k (by simpa [keysL] using hk)
  | .dead, _, k, hk => by simp [keysL] at hk

/-! ### Calls -/
def normA (ts : List V) (bs : List Blk) : List V × List Blk := subVs true (boxKeys bs) bs ts
theorem normA_ok {P : Program} {md : List Bool} {f : FuncId} {ts : List V} {bs : List Blk} {rs os : List V} {bs' : List Blk} (h : CallOk P md f (normA ts bs).1 (normA ts bs).2 rs os bs') : CallOk P md f ts bs rs os bs' := by
  intro w ρ Fk vals hM hrel hok
  obtain ⟨ρ1, s1, t1, u1⟩ := subVs_ok (ro := true) ts (ctx := boxKeys bs) hM (fun k hk => hk) hrel
  have hmine := s1.mine rfl
  have hX : Xof (bsM (normA ts bs).2) Fk = Xof (bsM bs) Fk := by
    funext x
    apply propext
    constructor
    · rintro ⟨k, b, h1, h2, h3⟩
      have := hmine k
      change bsM (subVs true (boxKeys bs) bs ts).2 k = _ at h1
      rw [h1] at this
      cases hb : bsM bs k with
      | none => rw [hb] at this; cases this
      | some b' => rw [hb] at this; exact ⟨k, b', hb, by injection this with this; rw [← this]; exact h2, h3⟩
    · rintro ⟨k, b, h1, h2, h3⟩
      have := hmine k
      rw [h1] at this
      cases hb : bsM (normA ts bs).2 k with
      | none => change bsM (subVs true (boxKeys bs) bs ts).2 k = _ at hb; rw [hb] at this; cases this
      | some b' => exact ⟨k, b', hb, by change bsM (subVs true (boxKeys bs) bs ts).2 k = _ at hb; rw [hb] at this; injection this with this; rw [this]; exact h2, h3⟩
  have hZ : Zof (bsM (normA ts bs).2) Fk = Zof (bsM bs) Fk := by
    funext x
    apply propext
    constructor
    · rintro ⟨k, b, h1, h3⟩
      have := hmine k
      change bsM (subVs true (boxKeys bs) bs ts).2 k = _ at h1
      rw [h1] at this
      cases hb : bsM bs k with
      | none => rw [hb] at this; cases this
      | some b' => exact ⟨k, b', hb, h3⟩
    · rintro ⟨k, b, h1, h3⟩
      have := hmine k
      rw [h1] at this
      cases hb : bsM (normA ts bs).2 k with
      | none => change bsM (subVs true (boxKeys bs) bs ts).2 k = _ at hb; rw [hb] at this; cases this
      | some b' => exact ⟨k, b', hb, h3⟩
  have := h w ρ1 Fk vals (by rw [hX, hZ]; exact s1.mem) t1 (okVs_keys fun k hk => by
    change k ∈ (subVs true (boxKeys bs) bs ts).1.flatMap keysV at hk
    rw [u1] at hk
    show Uk (subVs true (boxKeys bs) bs ts).2.length k
    rw [s1.len]
    exact okVs_of_keys hok k hk)
  rwa [hX, hZ] at this
theorem resT_inv {ρ : Rho} {rs : List V} {v : Value} (h : relT ρ (resT rs) v) : ∃ vs, relVs ρ rs vs ∧ ∀ ρ' rs', rs'.length = rs.length → relVs ρ' rs' vs → relT ρ' (resT rs') v := by
  match rs, h with
  | [], ⟨vs, e, h⟩ => exact ⟨vs, h, fun ρ' rs' hl h' => by cases rs' with | nil => exact ⟨vs, e, h'⟩ | cons _ _ => cases hl⟩
  | [r], h => exact ⟨[v], ⟨h, trivial⟩, fun ρ' rs' hl h' => by
      match rs', hl with
      | [r'], _ => exact h'.1⟩
  | r :: r2 :: rs, ⟨vs, e, h⟩ => exact ⟨vs, h, fun ρ' rs' hl h' => by
      match rs', hl with
      | r' :: r2' :: rs', _ => exact ⟨vs, e, h'⟩⟩
theorem relVs_split {ρ : Rho} : ∀ {n : Nat} {ls : List V} {xs ys : List Value}, relVs ρ ls (xs ++ ys) → xs.length = n → relVs ρ (ls.take n) xs ∧ relVs ρ (ls.drop n) ys
  | 0, ls, [], ys, h, _ => ⟨trivial, h⟩
  | n + 1, [], x :: xs, ys, h, _ => h.elim
  | n + 1, l :: ls, x :: xs, ys, h, e => by
    obtain ⟨a, b⟩ := relVs_split (n := n) h.2 (by simpa using e)
    exact ⟨⟨h.1, a⟩, b⟩
def demBs : List Bool → List Blk → List Blk
  | true :: fs, b :: bs => b.dem :: demBs fs bs
  | false :: fs, b :: bs => b :: demBs fs bs
  | _, bs => bs
theorem demBs_len : ∀ {fs : List Bool} {bs : List Blk}, (demBs fs bs).length = bs.length
  | [], bs => by simp [demBs]
  | true :: fs, [] => by simp [demBs]
  | false :: fs, [] => by simp [demBs]
  | true :: fs, b :: bs => by simp [demBs, demBs_len (fs := fs)]
  | false :: fs, b :: bs => by simp [demBs, demBs_len (fs := fs)]
theorem demBs_get : ∀ {fs : List Bool} {bs : List Blk} {j : Nat} {b' : Blk}, (demBs fs bs)[j]? = some b' → ∃ b, bs[j]? = some b ∧ (b' = b ∨ b' = b.dem)
  | [], bs, j, b', h => ⟨b', by simpa [demBs] using h, .inl rfl⟩
  | true :: fs, [], j, b', h => by simp [demBs] at h
  | false :: fs, [], j, b', h => by simp [demBs] at h
  | true :: fs, b :: bs, 0, b', h => ⟨b, rfl, .inr (by simpa [demBs] using h.symm)⟩
  | false :: fs, b :: bs, 0, b', h => ⟨b, rfl, .inl (by simpa [demBs] using h.symm)⟩
  | true :: fs, b :: bs, j + 1, b', h => by
    obtain ⟨c, h1, h2⟩ := demBs_get (fs := fs) (bs := bs) (j := j) (b' := b') (by simpa [demBs] using h)
    exact ⟨c, by simpa using h1, h2⟩
  | false :: fs, b :: bs, j + 1, b', h => by
    obtain ⟨c, h1, h2⟩ := demBs_get (fs := fs) (bs := bs) (j := j) (b' := b') (by simpa [demBs] using h)
    exact ⟨c, by simpa using h1, h2⟩
/-- Some values are looked at no more. -/
def killVs : List Bool → List V → List V
  | true :: ks, _ :: vs => .one .dead :: killVs ks vs
  | false :: ks, v :: vs => v :: killVs ks vs
  | _, vs => vs
theorem killVs_rel {ρ : Rho} : ∀ {ks : List Bool} {vs : List V} {xs : List Value}, relVs ρ vs xs → relVs ρ (killVs ks vs) xs
  | [], vs, xs, h => by simpa [killVs] using h
  | true :: ks, [], xs, h => by simpa [killVs] using h
  | false :: ks, [], xs, h => by simpa [killVs] using h
  | true :: ks, v :: vs, [], h => h.elim
  | false :: ks, v :: vs, [], h => h.elim
  | true :: ks, v :: vs, x :: xs, h => ⟨⟨trivial, fun e => e.elim⟩, killVs_rel (ks := ks) h.2⟩
  | false :: ks, v :: vs, x :: xs, h => ⟨h.1, killVs_rel (ks := ks) h.2⟩
theorem killVs_ok {K : KS} : ∀ {ks : List Bool} {vs : List V}, okVs K vs → okVs K (killVs ks vs)
  | [], vs, h => by simpa [killVs] using h
  | true :: ks, [], h => by simpa [killVs] using h
  | false :: ks, [], h => by simpa [killVs] using h
  | true :: ks, v :: vs, h => ⟨trivial, killVs_ok (ks := ks) h.2⟩
  | false :: ks, v :: vs, h => ⟨h.1, killVs_ok (ks := ks) h.2⟩
theorem killVs_length : ∀ {ks : List Bool} {vs : List V}, (killVs ks vs).length = vs.length
  | [], vs => by simp [killVs]
  | true :: ks, [] => by simp [killVs]
  | false :: ks, [] => by simp [killVs]
  | true :: ks, v :: vs => by simp [killVs, killVs_length (ks := ks)]
  | false :: ks, v :: vs => by simp [killVs, killVs_length (ks := ks)]
def normR (ks fs : List Bool) (rs os : List V) (bs : List Blk) : List V × List V × List Blk :=
  let r := subVs false (boxKeys bs) bs (killVs ks (rs ++ os))
  (r.1.take rs.length, r.1.drop rs.length, demBs fs r.2)
theorem subVs_length {ro : Bool} : ∀ {vs : List V} {ctx : List Key} {bs : List Blk}, (subVs ro ctx bs vs).1.length = vs.length
  | [], _, _ => rfl
  | v :: vs, _, _ => congrArg (· + 1) subVs_length
theorem okVs_take {K : KS} : ∀ {n : Nat} {ls : List V}, okVs K ls → okVs K (ls.take n) ∧ okVs K (ls.drop n)
  | 0, ls, h => ⟨trivial, h⟩
  | n + 1, [], h => ⟨trivial, trivial⟩
  | n + 1, l :: ls, h => ⟨⟨h.1, (okVs_take (n := n) h.2).1⟩, (okVs_take (n := n) h.2).2⟩
theorem okVs_append {K : KS} : ∀ {ls ls' : List V}, okVs K ls → okVs K ls' → okVs K (ls ++ ls')
  | [], _, _, h => h
  | l :: ls, _, h, h' => ⟨h.1, okVs_append h.2 h'⟩
theorem normR_ok {P : Program} {md : List Bool} {f : FuncId} {ts : List V} {bs : List Blk} {rs os : List V} {bs' : List Blk} (ks fs : List Bool) (h : CallOk P md f ts bs rs os bs') : CallOk P md f ts bs (normR ks fs rs os bs').1 (normR ks fs rs os bs').2.1 (normR ks fs rs os bs').2.2 := by
  intro w ρ Fk vals hM hrel hok
  refine calls_mono (h w ρ Fk vals hM hrel hok) ?_
  rintro e w' ⟨v, ρ', Fk', he, hM', hr, hrk, ho, hok'⟩
  obtain ⟨vs, hvs, hback⟩ := resT_inv hr
  obtain ⟨ρ1, s1, t1, u1⟩ := subVs_ok (ro := false) (killVs ks (rs ++ os)) (ctx := boxKeys bs') hM' (fun k hk => hk) (killVs_rel (hvs.append ho))
  obtain ⟨a, b⟩ := relVs_split (n := rs.length) t1 hvs.length
  have hlen : (normR ks fs rs os bs').2.2.length = bs'.length := by
    show (demBs fs _).length = _
    rw [demBs_len, s1.len]
  have hk : okVs (Uk bs'.length) (subVs false (boxKeys bs') bs' (killVs ks (rs ++ os))).1 := okVs_keys fun k hk => by
    rw [u1] at hk
    exact okVs_of_keys (killVs_ok (okVs_append hrk hok')) k hk
  refine ⟨v, ρ1, Fk', he, ?_, hback _ _ ?_ a, ?_, b, ?_⟩
  · rw [hlen]
    have hm := s1.mem
    rw [s1.len] at hm
    refine hm.dems fun k b' hb => ?_
    obtain ⟨j, hj, rfl, hb'⟩ := bsM_spec hb
    obtain ⟨c, c1, c2⟩ := demBs_get hb'
    exact ⟨c, by rw [bsM_pk]; exact c1, c2⟩
  · show (List.take rs.length (subVs false (boxKeys bs') bs' (killVs ks (rs ++ os))).1).length = rs.length
    rw [List.length_take, subVs_length, killVs_length]
    simp
  · rw [hlen]; exact (okVs_take hk).1
  · rw [hlen]; exact (okVs_take hk).2
end Go.Proofs.Ytefofjpjbogilaa.M
