/- A call: the memory behind it. -/
import Derived.Test.YtefofjpjbogilaaCall
namespace Go.Proofs.Ytefofjpjbogilaa.M
set_option linter.unusedVariables false
set_option linter.unusedSimpArgs false
set_option linter.unusedSectionVars false

theorem BlkOk.dem {P : Program} {w : World} {ρ : Rho} {F : Fp} {k : Key} {b : Blk} (h : BlkOk P w ρ F k b) : BlkOk P w ρ F k b.dem := by
  cases b with
  | box o t cs => exact h
  | row o e xs => exact h.weaken
theorem Blk.dem_mine (b : Blk) : b.dem.mine = false := by cases b <;> rfl
theorem okB_dem {U : KS} {b : Blk} (h : okB U b) : okB U b.dem := by cases b <;> exact h

open Classical in
/-- What the keys stand for behind the call. -/
noncomputable def backRho (ρ ρ' : Rho) (f : Key → Key) (n : Nat) : Rho :=
  ⟨fun k => if h : ∃ j, j < n ∧ f (pk j) = k then ρ'.v (pk h.choose) else ρ.v k, fun k => if h : ∃ j, j < n ∧ f (pk j) = k then ρ'.z (pk h.choose) else ρ.z k⟩
open Classical in
noncomputable def backFk (Fk Fk' : Key → Fp) (f : Key → Key) (n : Nat) : Key → Fp :=
  fun k => if h : ∃ j, j < n ∧ f (pk j) = k then Fk' (pk h.choose) else Fk k

theorem back_ok {P : Program} {w0 w w' : World} {X Z : Fp} {U : KS} {m : Key → Option Blk} {ρ ρ' : Rho} {Fk Fk' : Key → Fp} {kf : Nat → Key} (hinj : ∀ i j, kf i = kf j → i = j) (hf : ∀ j, ¬ U (kf j))
    (hM : Mem P w0 X Z U w m ρ Fk) {p : Pk} {κ : Nat → Key} (hp : PkOk m p κ) {bs' : List Blk}
    (hC : Mem P w (Xof (bsM p.bs) (packFk Fk κ)) (Zof (bsM p.bs) (packFk Fk κ)) (Uk bs'.length) w' (bsM bs') ρ' Fk') {al : List (Key × Key)}
    (hal : okAl m p.ren p.bs bs' al = true) (hnd : nodupB ((List.range bs'.length).map fun j => newKey kf al (pk j)) = true)
    (hali : ∀ j k, (j, k) ∈ al → ρ'.v j = ρ.v k ∧ Uk bs'.length j) :
    ∃ ρ'' Fk'', Mem P w0 X Z (Uand U kf) w' (appM m (goneK m (bs'.all Blk.mine) p.bs p.ren ++ layK (newKey kf al) 0 bs')) ρ'' Fk'' ∧
      (∀ k, Uk bs'.length k → ρ''.v (newKey kf al k) = ρ'.v k ∧ ρ''.z (newKey kf al k) = ρ'.z k) ∧ (∀ k, U k → ρ.eqOn ρ'' k) ∧ ∀ k, Uk bs'.length k → Uand U kf (newKey kf al k) := by
  generalize hfd : newKey kf al = f at *
  have finj : ∀ i j, i < bs'.length → j < bs'.length → f (pk i) = f (pk j) → i = j := by
    intro i j hi hj e
    exact nodupB_inj nodupB (fun _ _ => rfl) (i := i) (j := j) (x := f (pk i)) hnd (by simp [hi]) (by simp [hj, e])
  have fcase : ∀ j, f (pk j) = kf j ∨ ∃ k, (pk j, k) ∈ al ∧ f (pk j) = k := by
    intro j
    rw [← hfd]
    unfold newKey
    split
    · rename_i x hx
      right
      have h1 := List.find?_some hx
      have h2 := List.mem_of_find?_eq_some hx
      simp at h1
      exact ⟨x.2, by rw [← h1]; exact h2, rfl⟩
    · exact .inl rfl
  have alInfo : ∀ j k, (pk j, k) ∈ al → (∃ i c, (k, i) ∈ p.ren ∧ p.bs[i]? = some c ∧ c.mine = true) ∧ U k ∧ ρ'.v (pk j) = ρ.v k ∧ ρ'.z (pk j) = ρ.z k ∧ j < bs'.length := by
    intro j k hm
    have h1 := List.all_eq_true.1 hal _ hm
    simp only [Bool.and_eq_true, List.any_eq_true, beq_iff_eq] at h1
    obtain ⟨⟨⟨k1, i⟩, y1, y2, y3⟩, y4⟩ := h1
    simp only at y2 y3 y4
    subst y2
    cases hc : p.bs[i]? with
    | none => simp [hc] at y3
    | some c =>
      simp only [hc] at y3
      obtain ⟨q1, q2⟩ := hp.ren _ _ y1
      obtain ⟨b0, q3, q4⟩ := hp.blk i c hc
      rw [q2] at q3
      obtain ⟨v1, j', v2, v3⟩ := hali _ _ hm
      have := pk_inj v3
      subst this
      refine ⟨⟨i, c, y1, hc, y3⟩, (hM.key _ _ q3).1, v1, ?_, v2⟩
      rw [q3] at y4
      have hbj : bsM bs' (pk j) = bs'[j]? := bsM_pk
      have hj2 : bs'[(pk j).j]? = bs'[j]? := rfl
      rw [hj2] at y4
      cases hb' : bs'[j]? with
      | none => rw [hb'] at y4; cases b0 <;> simp at y4
      | some b' =>
        rw [hb'] at y4 hbj
        have z1 := hM.blk _ _ q3
        have z2 := hC.blk _ _ hbj
        cases b0 with
        | row o e xs =>
          cases b' with
          | row o' e' xs' =>
            simp at y4
            have a1 := z1.1
            have a2 := z2.1
            rw [y4, a2] at a1
            injection a1
          | box o' t' cs' => simp at y4
        | box o t cs =>
          cases b' with
          | row o' e' xs' => simp at y4
          | box o' t' cs' =>
            obtain ⟨_, _, _, _, _, _, _, a1⟩ := z1
            obtain ⟨_, _, _, _, _, _, _, a2⟩ := z2
            rw [a1, a2]
  let ρ'' := backRho ρ ρ' f bs'.length
  let Fk'' := backFk Fk Fk' f bs'.length
  have layRho : ∀ j, j < bs'.length → ρ''.v (f (pk j)) = ρ'.v (pk j) ∧ ρ''.z (f (pk j)) = ρ'.z (pk j) ∧ Fk'' (f (pk j)) = Fk' (pk j) := by
    intro j hj
    have hex : ∃ i, i < bs'.length ∧ f (pk i) = f (pk j) := ⟨j, hj, rfl⟩
    have hc : hex.choose = j := finj _ _ hex.choose_spec.1 hj hex.choose_spec.2
    refine ⟨?_, ?_, ?_⟩
    · show (if h : ∃ i, i < bs'.length ∧ f (pk i) = f (pk j) then ρ'.v (pk h.choose) else ρ.v (f (pk j))) = _
      rw [dif_pos hex, hc]
    · show (if h : ∃ i, i < bs'.length ∧ f (pk i) = f (pk j) then ρ'.z (pk h.choose) else ρ.z (f (pk j))) = _
      rw [dif_pos hex, hc]
    · show (if h : ∃ i, i < bs'.length ∧ f (pk i) = f (pk j) then Fk' (pk h.choose) else Fk (f (pk j))) = _
      rw [dif_pos hex, hc]
  have oldRho : ∀ k, (¬ ∃ j, j < bs'.length ∧ f (pk j) = k) → ρ''.v k = ρ.v k ∧ ρ''.z k = ρ.z k ∧ Fk'' k = Fk k := by
    intro k hk
    exact ⟨dif_neg hk, dif_neg hk, dif_neg hk⟩
  have eqU : ∀ k, U k → ρ.eqOn ρ'' k := by
    intro k hu
    by_cases hk : ∃ j, j < bs'.length ∧ f (pk j) = k
    · obtain ⟨j, hj, e⟩ := hk
      rcases fcase j with h | ⟨k', h1, h2⟩
      · rw [← e, h] at hu
        exact absurd hu (hf j)
      · have : k' = k := h2.symm.trans e
        subst this
        obtain ⟨_, _, a1, a2, _⟩ := alInfo j _ h1
        obtain ⟨b1, b2, _⟩ := layRho j hj
        rw [e] at b1 b2
        exact ⟨b1.trans a1, b2.trans a2⟩
    · exact ⟨(oldRho k hk).1, (oldRho k hk).2.1⟩
  have fU : ∀ k, Uk bs'.length k → Uand U kf (f k) := by
    rintro k ⟨j, hj, rfl⟩
    rcases fcase j with h | ⟨k', h1, h2⟩
    · exact .inr ⟨j, h⟩
    · rw [h2]; exact .inl (alInfo j k' h1).2.1
  have fR : ∀ k, Uk bs'.length k → ρ''.v (f k) = ρ'.v k ∧ ρ''.z (f k) = ρ'.z k := by
    rintro k ⟨j, hj, rfl⟩
    exact ⟨(layRho j hj).1, (layRho j hj).2.1⟩
  -- a key's block behind the call: the callee's, or an old one
  have cases' : ∀ k b, appM m (goneK m (bs'.all Blk.mine) p.bs p.ren ++ layK f 0 bs') k = some b →
      (∃ j b', j < bs'.length ∧ k = f (pk j) ∧ bs'[j]? = some b' ∧ b = renB f b') ∨
      ((¬ ∃ j, j < bs'.length ∧ f (pk j) = k) ∧ ∃ b0, m k = some b0 ∧ (b = b0 ∨ b = b0.dem) ∧ (∀ i c, (k, i) ∈ p.ren → p.bs[i]? = some c → c.mine = false ∧ (b.mine = true → bs'.all Blk.mine = true))) := by
    intro k b hk
    rw [appM_append] at hk
    by_cases hex : ∃ j, j < bs'.length ∧ f (pk j) = k
    · left
      obtain ⟨j, hj, e⟩ := hex
      obtain ⟨b', hb'⟩ : ∃ b', bs'[j]? = some b' := ⟨bs'[j], List.getElem?_eq_getElem hj⟩
      refine ⟨j, b', hj, e.symm, hb', ?_⟩
      rw [appM_some (b := some (renB f b')) (fun x hx => ?_) ⟨some (renB f b'), layK_mem.2 ⟨j, b', hb', by rw [Nat.zero_add]; exact e.symm, rfl⟩⟩] at hk
      · cases hk; rfl
      · obtain ⟨i, c, h1, h2, h3⟩ := layK_mem.1 hx
        rw [Nat.zero_add] at h2
        have := finj i j (List.getElem?_eq_some_iff.1 h1).1 hj (h2.symm.trans e.symm)
        subst this
        rw [hb'] at h1
        cases h1
        exact h3
    · right
      refine ⟨hex, ?_⟩
      rw [appM_none fun x hx => by
        obtain ⟨i, c, h1, h2, h3⟩ := layK_mem.1 hx
        rw [Nat.zero_add] at h2
        exact hex ⟨i, (List.getElem?_eq_some_iff.1 h1).1, h2.symm⟩] at hk
      by_cases hin : ∃ x, (k, x) ∈ goneK m (bs'.all Blk.mine) p.bs p.ren
      · obtain ⟨x, hx⟩ := hin
        have huniq : ∀ x', (k, x') ∈ goneK m (bs'.all Blk.mine) p.bs p.ren → x' = x := by
          intro x' hx'
          obtain ⟨i, c, b0, g1, g2, g3, g4⟩ := goneK_mem.1 hx
          obtain ⟨i', c', b0', g1', g2', g3', g4'⟩ := goneK_mem.1 hx'
          have e1 := hp.ren _ _ g1
          have e2 := hp.ren _ _ g1'
          have := hp.inj i i' e1.1 e2.1 (e1.2.trans e2.2.symm)
          subst this
          rw [g2] at g2'; cases g2'
          rw [g3] at g3'; cases g3'
          rcases g4 with ⟨u1, u2⟩ | ⟨u1, u2, u3⟩ <;> rcases g4' with ⟨v1, v2⟩ | ⟨v1, v2, v3⟩
          · rw [u2, v2]
          · rw [u1] at v1; cases v1
          · rw [u1] at v1; cases v1
          · rw [u3, v3]
        rw [appM_some huniq ⟨x, hx⟩] at hk
        subst hk
        obtain ⟨i, c, b0, g1, g2, g3, g4⟩ := goneK_mem.1 hx
        rcases g4 with ⟨u1, u2⟩ | ⟨u1, u2, u3⟩
        · cases u2
        · cases u3
          refine ⟨b0, g3, .inr rfl, fun i' c' h1 h2 => ?_⟩
          have e1 := hp.ren _ _ g1
          have e2 := hp.ren _ _ h1
          have := hp.inj i i' e1.1 e2.1 (e1.2.trans e2.2.symm)
          subst this
          rw [g2] at h2; cases h2
          exact ⟨u1, fun h => by rw [Blk.dem_mine] at h; cases h⟩
      · rw [appM_none fun x hx => hin ⟨x, hx⟩] at hk
        refine ⟨b, hk, .inl rfl, fun i c h1 h2 => ?_⟩
        have hc : c.mine = false := by
          cases hmine : c.mine with
          | false => rfl
          | true => exact absurd ⟨none, goneK_mem.2 ⟨i, c, b, h1, h2, hk, .inl ⟨hmine, rfl⟩⟩⟩ hin
        refine ⟨hc, fun _ => ?_⟩
        cases hall : bs'.all Blk.mine with
        | true => rfl
        | false => exact absurd ⟨some b.dem, goneK_mem.2 ⟨i, c, b, h1, h2, hk, .inr ⟨hc, hall, rfl⟩⟩⟩ hin
  -- what the callee wrote is not ours
  have notX : ∀ k b0, m k = some b0 → (∀ i c, (k, i) ∈ p.ren → p.bs[i]? = some c → c.mine = false) → ∀ x, Fk k x → ¬ Xof (bsM p.bs) (packFk Fk κ) x := by
    rintro k b0 hm hng x hx ⟨k1, c, h1, h2, h3⟩
    obtain ⟨i, hi, rfl, hc⟩ := bsM_spec h1
    obtain ⟨c0, q3, q4⟩ := hp.blk i c hc
    by_cases hk : κ i = k
    · have := hng i c (hk ▸ hp.back i hi) hc
      rw [h2] at this
      cases this
    · exact hM.apart (κ i) k c0 b0 hk q3 hm (q4.mine h2) x h3 hx
  have keepOld : ∀ k b0, m k = some b0 → (∀ i c, (k, i) ∈ p.ren → p.bs[i]? = some c → c.mine = false) → ∀ x, Fk k x → w'.heap[x]? = w.heap[x]? :=
    fun k b0 hm hng x hx => hC.keep x (hM.lt k b0 hm x hx) (notX k b0 hm hng x hx)
  have Zold : ∀ x, Zof (bsM p.bs) (packFk Fk κ) x → ∃ i c c0, p.bs[i]? = some c ∧ m (κ i) = some c0 ∧ Fk (κ i) x ∧ (κ i, i) ∈ p.ren := by
    rintro x ⟨k1, c, h1, h3⟩
    obtain ⟨i, hi, rfl, hc⟩ := bsM_spec h1
    obtain ⟨c0, q3, q4⟩ := hp.blk i c hc
    exact ⟨i, c, c0, hc, q3, h3, hp.back i hi⟩
  have Xold : ∀ x, Xof (bsM p.bs) (packFk Fk κ) x → ∃ i c c0, p.bs[i]? = some c ∧ c.mine = true ∧ m (κ i) = some c0 ∧ c0.mine = true ∧ Fk (κ i) x ∧ (κ i, i) ∈ p.ren := by
    rintro x ⟨k1, c, h1, h2, h3⟩
    obtain ⟨i, hi, rfl, hc⟩ := bsM_spec h1
    obtain ⟨c0, q3, q4⟩ := hp.blk i c hc
    exact ⟨i, c, c0, hc, h2, q3, q4.mine h2, h3, hp.back i hi⟩
  refine ⟨ρ'', Fk'', ⟨hC.os.trans hM.os, hC.tape.trans hM.tape, hC.output.trans hM.output, Nat.le_trans hM.size hC.size, fun x hx hX => ?_, fun k b hk => ?_, fun k b hk => ?_, fun k b hk x hx => ?_, fun k b hk x hx => ?_, fun k b hk hmine x hx => ?_, fun k1 k2 b1 b2 hne h1 h2 hmine x hx1 hx2 => ?_⟩, fR, eqU, fU⟩
  · refine (hC.keep x (Nat.lt_of_lt_of_le hx hM.size) fun hX' => ?_).trans (hM.keep x hx hX)
    obtain ⟨i, c, c0, _, _, q3, q4, q5, _⟩ := Xold x hX'
    rcases hM.own _ _ q3 q4 x q5 with h | h
    · omega
    · exact hX h
  · rcases cases' k b hk with ⟨j, b', hj, rfl, hb', rfl⟩ | ⟨_, b0, hm, hb, _⟩
    · refine ⟨fU _ ⟨j, hj, rfl⟩, ?_⟩
      have := (hC.key (pk j) b' (bsM_pk.trans hb')).2
      cases b' with
      | row o e xs => trivial
      | box o t cs => exact renLs_ok fU this
    · refine ⟨Uand_of _ (hM.key k b0 hm).1, ?_⟩
      have := (hM.key k b0 hm).2.imp (K' := Uand U kf) Uand_of
      rcases hb with rfl | rfl
      · exact this
      · exact okB_dem this
  · rcases cases' k b hk with ⟨j, b', hj, rfl, hb', rfl⟩ | ⟨hno, b0, hm, hb, hng⟩
    · obtain ⟨e1, e2, e3⟩ := layRho j hj
      have hb0 := hC.blk (pk j) b' (bsM_pk.trans hb')
      have hk0 := (hC.key (pk j) b' (bsM_pk.trans hb')).2
      rw [e3]
      cases b' with
      | row o e xs =>
        show BlkOk P w' ρ'' (Fk' (pk j)) (f (pk j)) (.row o e xs)
        obtain ⟨a1, a2, a3, a4⟩ := hb0
        refine ⟨by rw [e2]; exact a1, by rw [e2]; exact a2, by rw [e2]; exact a3, ?_⟩
        rw [e1, e2]
        exact a4
      | box o t cs =>
        obtain ⟨g, vs, t', a1, a2, a3, a4, a5⟩ := hb0
        exact ⟨g, vs, t', e1.trans a1, a2, a3, renLs_rel fR hk0 a4, e2.trans a5⟩
    · obtain ⟨e1, e2, e3⟩ := oldRho k hno
      rw [e3]
      have h0 := BlkOk.loc (ρ' := ρ'') (keepOld k b0 hm fun i c h1 h2 => (hng i c h1 h2).1) ⟨e1, e2⟩ ((hM.key k b0 hm).2.imp eqU) (hM.blk k b0 hm)
      rcases hb with rfl | rfl
      · exact h0
      · exact h0.dem
  · rcases cases' k b hk with ⟨j, b', hj, rfl, hb', rfl⟩ | ⟨hno, b0, hm, hb, hng⟩
    · rw [(layRho j hj).2.2] at hx
      exact hC.lt (pk j) b' (bsM_pk.trans hb') x hx
    · rw [(oldRho k hno).2.2] at hx
      exact Nat.lt_of_lt_of_le (hM.lt k b0 hm x hx) hC.size
  · rcases cases' k b hk with ⟨j, b', hj, rfl, hb', rfl⟩ | ⟨hno, b0, hm, hb, hng⟩
    · rw [(layRho j hj).2.2] at hx
      rcases hC.all (pk j) b' (bsM_pk.trans hb') x hx with h | h
      · exact .inl (Nat.le_trans hM.size h)
      · obtain ⟨i, c, c0, _, q3, q5, _⟩ := Zold x h
        exact hM.all _ _ q3 x q5
    · rw [(oldRho k hno).2.2] at hx
      exact hM.all k b0 hm x hx
  · rcases cases' k b hk with ⟨j, b', hj, rfl, hb', rfl⟩ | ⟨hno, b0, hm, hb, hng⟩
    · rw [(layRho j hj).2.2] at hx
      rcases hC.own (pk j) b' (bsM_pk.trans hb') (by cases b' <;> exact hmine) x hx with h | h
      · exact .inl (Nat.le_trans hM.size h)
      · obtain ⟨i, c, c0, _, _, q3, q4, q5, _⟩ := Xold x h
        exact hM.own _ _ q3 q4 x q5
    · rw [(oldRho k hno).2.2] at hx
      rcases hb with rfl | rfl
      · exact hM.own k b hm hmine x hx
      · rw [Blk.dem_mine] at hmine; cases hmine
  · rcases cases' k1 b1 h1 with ⟨j1, b1', hj1, rfl, hb1', rfl⟩ | ⟨hno1, b01, hm1, hb1, hng1⟩
    · rw [(layRho j1 hj1).2.2] at hx1
      have hmine' : b1'.mine = true := by cases b1' <;> exact hmine
      rcases cases' k2 b2 h2 with ⟨j2, b2', hj2, rfl, hb2', rfl⟩ | ⟨hno2, b02, hm2, hb2, hng2⟩
      · rw [(layRho j2 hj2).2.2] at hx2
        exact hC.apart (pk j1) (pk j2) b1' b2' (fun e => hne (by rw [e])) (bsM_pk.trans hb1') (bsM_pk.trans hb2') hmine' x hx1 hx2
      · rw [(oldRho k2 hno2).2.2] at hx2
        rcases hC.own (pk j1) b1' (bsM_pk.trans hb1') hmine' x hx1 with h | h
        · have := hM.lt k2 b02 hm2 x hx2; omega
        · exact notX k2 b02 hm2 (fun i c h1 h2 => (hng2 i c h1 h2).1) x hx2 h
    · rw [(oldRho k1 hno1).2.2] at hx1
      have hb1e : b1 = b01 := by
        rcases hb1 with rfl | rfl
        · rfl
        · rw [Blk.dem_mine] at hmine; cases hmine
      subst hb1e
      rcases cases' k2 b2 h2 with ⟨j2, b2', hj2, rfl, hb2', rfl⟩ | ⟨hno2, b02, hm2, hb2, hng2⟩
      · rw [(layRho j2 hj2).2.2] at hx2
        rcases hC.all (pk j2) b2' (bsM_pk.trans hb2') x hx2 with h | h
        · have := hM.lt k1 b1 hm1 x hx1; omega
        · obtain ⟨i, c, c0, q1, q3, q5, q6⟩ := Zold x h
          by_cases hk : κ i = k1
          · have h3 := hng1 i c (hk ▸ q6) q1
            have hall := h3.2 hmine
            have hm2 : b2'.mine = true := List.all_eq_true.1 hall _ (List.mem_of_getElem? hb2')
            rcases hC.own (pk j2) b2' (bsM_pk.trans hb2') hm2 x hx2 with h | h
            · have := hM.lt k1 b1 hm1 x hx1; omega
            · exact notX k1 b1 hm1 (fun i c h1 h2 => (hng1 i c h1 h2).1) x hx1 h
          · exact hM.apart k1 (κ i) b1 c0 (Ne.symm hk) hm1 q3 hmine x hx1 q5
      · rw [(oldRho k2 hno2).2.2] at hx2
        exact hM.apart k1 k2 b1 b02 hne hm1 hm2 hmine x hx1 hx2
end Go.Proofs.Ytefofjpjbogilaa.M
