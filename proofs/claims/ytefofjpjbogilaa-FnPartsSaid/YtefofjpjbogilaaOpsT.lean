/- Operations that give a value and leave the memory as it is: what the interpreter says is what the machine does. -/
import Derived.Test.YtefofjpjbogilaaRel
namespace Go.Proofs.Ytefofjpjbogilaa.M
set_option linter.unusedVariables false
set_option linter.unusedSimpArgs false

theorem oneCell'_NA {v : Value} (h : v.oneCell' = true) : NA v := by
  rintro cs rfl
  cases h
theorem relLs_consts {ρ : Rho} : ∀ {cs : List Value}, cs.all Value.oneCell' = true → relLs ρ (cs.map .s) cs
  | [], _ => trivial
  | c :: cs, h => by
    simp only [List.all_cons, Bool.and_eq_true] at h
    exact ⟨⟨rfl, fun _ => oneCell'_NA h.1⟩, relLs_consts h.2⟩
theorem okLs_consts {U : KS} : ∀ {cs : List Value}, okLs U (cs.map .s)
  | [] => trivial
  | c :: cs => ⟨trivial, okLs_consts⟩

section
variable {U : KS} {ρ : Rho} {st : St} {a : Act} {ovs : List Value} (hS : Slots U ρ st a ovs)
include hS
theorem ev_ok {x : Operand} {t : T} (h : ev st x = some t) : relT ρ t (a.eval x) ∧ okT U t := by
  cases x with
  | tmp n => cases h; exact hS.t n
  | const v =>
    cases v with
    | agg cs =>
      simp only [ev] at h
      split at h
      · cases h
        exact ⟨⟨cs.toList, rfl, relLs_consts (by assumption)⟩, okLs_consts⟩
      · cases h
    | _ => cases h; exact ⟨⟨rfl, fun _ cs e => by cases e⟩, trivial⟩
  | global g => cases h
  | func f => cases h; exact ⟨⟨⟨[], rfl, trivial⟩, fun _ cs e => by cases e⟩, trivial⟩
theorem evV_ok {x : Operand} {v : V} (h : evV st x = some v) : relV ρ v (a.eval x) ∧ okV U v := by
  unfold evV at h
  split at h
  · rename_i a' he
    cases h
    exact ev_ok hS he
  · cases h
theorem evL_ok {x : Operand} {l : L} (h : evL st x = some l) : relL ρ l (a.eval x) ∧ (l.live → NA (a.eval x)) ∧ okL U l := by
  unfold evL at h
  split at h
  · rename_i a' he
    cases h
    have := ev_ok hS he
    exact ⟨this.1.1, this.1.2, this.2⟩
  · cases h
omit hS in
theorem relLs_val {ls : List L} : ∀ {vs vs' : List Value}, ls.mapM L.val = some vs' → relLs ρ ls vs → vs = vs' := by
  induction ls with
  | nil => intro vs vs' h r; cases vs <;> simp_all [relLs]
  | cons l ls ih =>
    intro vs vs' h r
    simp only [List.mapM_cons, Option.pure_def, Option.bind_eq_bind] at h
    cases vs with
    | nil => exact r.elim
    | cons v vs =>
      cases hl : l.val with
      | none => simp [hl] at h
      | some u =>
        cases hr : ls.mapM L.val with
        | none => simp [hl, hr] at h
        | some us =>
          simp [hl, hr] at h
          subst h
          cases l <;> simp [L.val] at hl
          subst hl
          rw [ih hr r.2]
          have := r.1.1
          simp only [relL] at this
          rw [this]
omit hS in
theorem flat_ok {v : V} {x y : Value} (h : v.flat = some y) (hr : relV ρ v x) : x = y := by
  unfold V.flat at h
  split at h
  · cases h; exact hr.1
  · rename_i ls
    simp only [Option.map_eq_some_iff] at h
    obtain ⟨vs, h1, rfl⟩ := h
    obtain ⟨us, rfl, h2⟩ := hr
    rw [relLs_val h1 h2]
  · cases h
theorem evF_ok {x : Operand} {v : Value} (h : evF st x = some v) : a.eval x = v := by
  unfold evF at h
  split at h
  · rename_i a' he
    exact flat_ok h (ev_ok hS he).1
  · cases h
theorem evI_ok {x : Operand} {n : Int} (h : evI st x = some n) : ∃ k, a.eval x = .int k n := by
  unfold evI at h
  split at h
  · rename_i k n' he
    cases h
    exact ⟨k, (ev_ok hS he).1.1⟩
  · cases h
theorem evN_ok {x : Operand} {n : Nat} (h : evN st x = some n) : ∃ k, a.eval x = .int k (n : Int) := by
  unfold evN at h
  split at h
  · rename_i m he
    split at h
    · cases h
      obtain ⟨k, e⟩ := evI_ok hS he
      exact ⟨k, by rw [e]; congr 1; omega⟩
    · cases h
  · cases h
end

/-- The operation gives a value that the interpreter knows; the world stays as it is. -/
def TOk (P : Program) (w : World) (ρ : Rho) (U : KS) (a : Act) (o : Oper) (x : T) : Prop :=
  ∃ v, (execOp a.eval o).run P w = .ok (.value v) w ∧ relT ρ x v ∧ okT U x
theorem one1_ok {ρ : Rho} {U : KS} {l : L} {x : T} {v : Value} (h : one1 l = some x) (hr : relL ρ l v) (hn : NA v) (hk : okL U l) : relT ρ x v ∧ okT U x := by
  cases h
  exact ⟨⟨hr, fun _ => hn⟩, hk⟩

theorem binF_run {P : Program} {w : World} {op : BinOp} {t : TypeId} {x y v : Value} {xo yo : Operand} (h : binF op x y = some v) :
    ((do eqGuard op t xo yo x y; binOp op t x y : Sem Value)).run P w = .ok v w ∧ v.oneCell' = true := by
  unfold binF at h
  split at h
  · rename_i k a k' b
    have hg : (eqGuard op t xo yo (.int k a) (.int k' b)).run P w = .ok () w := by unfold eqGuard; cases op <;> simp
    rw [Sem.run_bind, hg, Result.andThen_ok]
    cases op <;> simp only [] at h
    all_goals first
      | (split at h
         · cases h
         · rename_i hb
           cases h
           refine ⟨?_, rfl⟩
           simp only [binOp, Op.shift, if_neg hb]
           rfl)
      | (split at h
         · rename_i hk
           subst hk
           first
             | (cases h; done)
             | (cases h
                refine ⟨?_, rfl⟩
                simp [binOp, Op.intArith, Op.intBits, Op.intCmp])
             | (split at h
                · cases h
                · rename_i hb
                  cases h
                  refine ⟨?_, rfl⟩
                  simp [binOp, Op.intDiv, hb])
         · cases h)
  · rename_i a b
    have hg : (eqGuard op t xo yo (.string a) (.string b)).run P w = .ok () w := by unfold eqGuard; cases op <;> simp
    rw [Sem.run_bind, hg, Result.andThen_ok]
    cases op <;> simp only [] at h
    all_goals first
      | (cases h; done)
      | (split at h
         · rename_i hb
           cases h
           refine ⟨?_, rfl⟩
           have : ¬ (((a.size + b.size : Nat) : Int) > IntKind.i64.max) := by
             have : IntKind.i64.max = 9223372036854775807 := rfl
             omega
           simp only [binOp, Op.stringOp, if_neg this]
           rfl
         · cases h)
      | (cases h
         refine ⟨?_, rfl⟩
         simp [binOp, Op.stringOp])
  · cases h

/-! ### Reading -/
theorem Addr.add_add (b : Addr) (m n : Nat) : (b.add m).add n = b.add (m + n) := by
  unfold Addr.add
  by_cases hm : m = 0
  · subst hm; simp
  · by_cases hn : n = 0
    · subst hn; simp
    · simp [hm, hn, Nat.add_assoc]
theorem Addr.add_zero (b : Addr) : b.add 0 = b := rfl
theorem aggT_run {P : Program} {w : World} {t : TypeId} {b : Bool} (h : aggT P t = some b) : (isAgg t).run P w = .ok b w := by
  unfold aggT at h
  split at h
  all_goals first
    | (cases h; done)
    | (cases h; rename_i hu; simp [isAgg, run_underlying hu]; done)
    | (cases h; rename_i d hne1 hne2 hu; simp only [isAgg, Sem.run_bind, run_underlying hu, Result.andThen_ok]; cases d <;> first | rfl | exact absurd hu (hne1 _) | exact absurd hu (hne2 _ _))
theorem szOf_run {P : Program} {w : World} {t : TypeId} {n : Nat} (h : szOf P t = some n) : (sizeOf t).run P w = .ok n w := by
  unfold szOf at h
  cases hi : P.info? t with
  | none => simp [hi] at h
  | some i =>
    simp [hi] at h
    simp [sizeOf, typeInfo, hi, h]
theorem relLs.get {ρ : Rho} : ∀ {ls : List L} {xs : List Value} {i : Nat} {l : L}, relLs ρ ls xs → ls[i]? = some l → ∃ v, xs[i]? = some v ∧ relL ρ l v ∧ (l.live → NA v)
  | l :: ls, v :: vs, 0, _, h, e => by cases e; exact ⟨v, rfl, h.1⟩
  | l :: ls, v :: vs, i + 1, _, h, e => relLs.get (ls := ls) (xs := vs) (i := i) h.2 (by simpa using e)
  | [], [], i, _, _, e => by simp at e
  | [], _ :: _, _, _, r, _ => r.elim
  | _ :: _, [], _, _, r, _ => r.elim
theorem relLs.take {ρ : Rho} : ∀ {ls : List L} {xs : List Value} (n : Nat), relLs ρ ls xs → relLs ρ (ls.take n) (xs.take n)
  | [], [], n, _ => by simp [relLs]
  | l :: ls, v :: vs, 0, _ => trivial
  | l :: ls, v :: vs, n + 1, h => ⟨h.1, relLs.take (ls := ls) n h.2⟩
  | [], _ :: _, _, r => r.elim
  | _ :: _, [], _, r => r.elim
theorem relLs.drop {ρ : Rho} : ∀ {ls : List L} {xs : List Value} (n : Nat), relLs ρ ls xs → relLs ρ (ls.drop n) (xs.drop n)
  | [], [], n, _ => by simp [relLs]
  | l :: ls, v :: vs, 0, h => h
  | l :: ls, v :: vs, n + 1, h => relLs.drop (ls := ls) (xs := vs) n h.2
  | [], _ :: _, _, r => r.elim
  | _ :: _, [], _, r => r.elim
theorem relLs.append {ρ : Rho} : ∀ {ls ls' : List L} {xs xs' : List Value}, relLs ρ ls xs → relLs ρ ls' xs' → relLs ρ (ls ++ ls') (xs ++ xs')
  | [], _, [], _, _, h => h
  | l :: ls, _, v :: vs, _, h, h' => ⟨h.1, relLs.append (ls := ls) h.2 h'⟩
  | [], _, _ :: _, _, r, _ => r.elim
  | _ :: _, _, [], _, r, _ => r.elim
theorem okLs_mem {U : KS} : ∀ {ls : List L}, okLs U ls ↔ ∀ l ∈ ls, okL U l
  | [] => by simp [okLs]
  | l :: ls => by simp [okLs, okLs_mem (ls := ls)]
theorem loadVar_ok {P : Program} {w : World} {ρ : Rho} {U : KS} {b : Addr} {vs : List Value} {cs : List L} {t : TypeId} {off : Nat} {v : V}
    (hc : ∀ n u, vs[n]? = some u → w.cell? (b.add n) = some u) (hr : relLs ρ cs vs) (hk : okLs U cs) (h : readCells P t off cs = some v) :
    ∃ x, (loadVar t (b.add off)).run P w = .ok x w ∧ relV ρ v x ∧ okV U v := by
  unfold readCells at h
  split at h
  · rename_i n ha hs
    split at h
    · rename_i hle
      cases h
      have hlen := hr.length
      have hl : ((vs.drop off).take n).length = n := by simp; omega
      have hl' := run_loadCells_list (P := P) w (b.add off) ((vs.drop off).take n) (fun j u hu => by
        rw [Addr.add_add]
        refine hc _ _ ?_
        rw [List.getElem?_take] at hu
        split at hu
        · simpa using hu
        · cases hu)
      rw [hl] at hl'
      refine ⟨.agg ((vs.drop off).take n).toArray, ?_, ⟨_, rfl, (hr.drop off).take n⟩, ?_⟩
      · simp only [loadVar, Sem.run_bind, aggT_run ha, Result.andThen_ok, if_true, szOf_run hs, hl', Sem.run_pure]
      · exact okLs_mem.2 fun l hl => okLs_mem.1 hk l (List.mem_of_mem_drop (List.mem_of_mem_take hl))
    · cases h
  · rename_i ha
    split at h
    · rename_i l hl
      cases h
      obtain ⟨x, h1, h2, h3⟩ := hr.get hl
      refine ⟨x, ?_, ⟨h2, h3⟩, okLs_mem.1 hk l (List.mem_of_getElem? hl)⟩
      simp [loadVar, aggT_run ha, hc _ _ h1]
    · cases h
  · cases h
theorem Addr.lit_add (g off : Nat) : (⟨g, off, none⟩ : Addr) = (⟨g, 0, none⟩ : Addr).add off := by unfold Addr.add; split <;> simp_all
theorem box_cells {w : World} {g : Nat} {vs : List Value} {t : TypeId} {fr : Nat × Nat} (h : w.heap[g]? = some (.cells vs.toArray t fr)) : ∀ n u, vs[n]? = some u → w.cell? ((⟨g, 0, none⟩ : Addr).add n) = some u := by
  intro n u hu
  rw [← Addr.lit_add, cell_of_row w g n _ t fr h]
  simpa using hu
theorem flat_get {z : Nat} : ∀ {xs : List (List Value)} {i n : Nat} {el : List Value} {u : Value}, Flat z xs → xs[i]? = some el → el[n]? = some u → (rowVals xs)[i * z + n]? = some u
  | [], i, n, el, u, _, h, _ => by simp at h
  | x :: xs, 0, n, el, u, hf, h, hu => by
    simp at h
    subst h
    have hn : n < x.length := by
      rcases List.getElem?_eq_some_iff.1 hu with ⟨h1, _⟩
      exact h1
    simp only [rowVals, List.flatten_cons, Nat.zero_mul, Nat.zero_add]
    rw [List.getElem?_append_left hn]
    exact hu
  | x :: xs, i + 1, n, el, u, hf, h, hu => by
    have hx : x.length = z := (hf x (by simp)).1
    have ih := flat_get (z := z) (xs := xs) (i := i) (n := n) (el := el) (u := u) (fun y hy => hf y (by simp [hy])) (by simpa using h) hu
    simp only [rowVals, List.flatten_cons] at ih ⊢
    rw [List.getElem?_append_right (by rw [hx, Nat.add_mul]; omega), hx]
    rw [show (i + 1) * z + n - z = i * z + n by rw [Nat.add_mul]; omega]
    exact ih
theorem BlkOk.rd {P : Program} {w : World} {ρ : Rho} {F : Fp} {k : Key} {o : Own} {e : TypeId} {xs : List (List Value)} (h : BlkOk P w ρ F k (.row o e xs)) : RdRow w F (ρ.v k) xs := by
  obtain ⟨h1, h2, h3, h4⟩ := h
  have own : ∀ {v : Value}, OwnRow w F e (ρ.z k) v xs → RdRow w F v xs := by
    rintro v ⟨hown, hF⟩
    have hcells := fun g hg => hown.cells (g := g) hg
    rcases hown.2 with ⟨rfl, hn⟩ | ⟨g, cap, cur, rfl, hb, hh, hle, hcap, _, _⟩
    · exact ⟨none, 0, by rw [hn], by omega, by decide, by omega⟩
    · exact ⟨_, cap, rfl, hle, hcap, fun _ => ⟨_, rfl, hF g rfl, hcells g rfl⟩⟩
  cases o with
  | ro => exact h4
  | frz => exact h4
  | own => exact own h4
  | lit => exact own h4.1
  | fix =>
    obtain ⟨g, fr, cur, e1, e2, e3, e4, e5⟩ := h4
    refine ⟨_, _, e1, Nat.le_refl _, e2, fun _ => ⟨_, rfl, e3, ?_⟩⟩
    intro n u hu
    rw [← Addr.lit_add, cell_of_row w g n cur e fr e4]
    rw [← e5] at hu
    simpa using hu
end Go.Proofs.Ytefofjpjbogilaa.M
