/- Operations that change the memory. -/
import Derived.Test.YtefofjpjbogilaaOpsG
import Derived.Laws.IdiomStrings
namespace Go.Proofs.Ytefofjpjbogilaa.M
set_option linter.unusedVariables false
set_option linter.unusedSimpArgs false

/-- The operation is done, and leaves what the interpreter says. -/
def MOk (P : Program) (w0 w : World) (X Z : Fp) (U U' : KS) (ρ : Rho) (m : Key → Option Blk) (a : Act) (o : Oper) (δ : Dl) : Prop :=
  ∃ v w' ρ' Fk', ((execOp a.eval o).run P w = .ok (.value v) w' ∨ ((execOp a.eval o).run P w = .ok .skip w' ∧ v = undef)) ∧ Left P w0 X Z U U' ρ m δ v w' ρ' Fk'

theorem Uand_of {U : KS} {kf : Nat → Key} (k : Key) (h : U k) : Uand U kf k := .inl h
theorem Uand_key {U : KS} {kf : Nat → Key} (j : Nat) : Uand U kf (kf j) := .inr ⟨j, rfl⟩

theorem relL_oneCell {ρ : Rho} {l : L} {x : Value} (h : relL ρ l x) (hc : l.cellOk = true) : x.oneCell' = true := by
  cases l with
  | s v => rw [show x = v from h]; exact hc
  | sl k => exact h.2
  | sub k lo n => obtain ⟨A, c, rfl, _⟩ := h; rfl
  | p k off => obtain ⟨g, _, rfl⟩ := h; rfl
  | ep k i off => obtain ⟨_, _, _, _, _, rfl⟩ := h; rfl
  | fn f caps => obtain ⟨vs, rfl, _⟩ := h; rfl
  | dead => cases hc
theorem relLs_oneCell {ρ : Rho} : ∀ {ls : List L} {xs : List Value}, relLs ρ ls xs → ls.all L.cellOk = true → ∀ v ∈ xs, v.oneCell' = true
  | [], [], _, _ => by simp
  | l :: ls, x :: xs, h, hc => by
    simp only [List.all_cons, Bool.and_eq_true] at hc
    intro v hv
    simp only [List.mem_cons] at hv
    rcases hv with rfl | hv
    · exact relL_oneCell h.1.1 hc.1
    · exact relLs_oneCell h.2 hc.2 v hv
  | [], _ :: _, r, _ => r.elim
  | _ :: _, [], r, _ => r.elim
theorem relLs_cv {ρ : Rho} : ∀ {ls : List L} {xs vs : List Value}, relLs ρ ls xs → ls.mapM L.cv = some vs → xs = vs ∧ ∀ v ∈ vs, v.oneCell' = true
  | [], [], vs, _, h => by simp at h; subst h; exact ⟨rfl, by simp⟩
  | l :: ls, x :: xs, vs, r, h => by
    simp only [List.mapM_cons, Option.pure_def, Option.bind_eq_bind] at h
    cases hl : l.cv with
    | none => simp [hl] at h
    | some u =>
      cases hr : ls.mapM L.cv with
      | none => simp [hl, hr] at h
      | some us =>
        simp [hl, hr] at h
        subst h
        obtain ⟨i1, i2⟩ := relLs_cv r.2 hr
        unfold L.cv at hl
        split at hl
        · rename_i v
          split at hl
          · rename_i hc
            cases hl
            have e : x = u := r.1.1
            refine ⟨by rw [e, i1], fun v' hv => ?_⟩
            simp only [List.mem_cons] at hv
            rcases hv with rfl | hv
            · exact hc
            · exact i2 _ hv
          · cases hl
        · cases hl
  | [], _ :: _, _, r, _ => r.elim
  | _ :: _, [], _, r, _ => r.elim
theorem groups_spec {n : Nat} : ∀ {k : Nat} {xs : List Value}, xs.length = k * n → (∀ v ∈ xs, v.oneCell' = true) → Flat n (groups n k xs) ∧ rowVals (groups n k xs) = xs ∧ (groups n k xs).length = k
  | 0, xs, h, _ => by
    have : xs = [] := List.eq_nil_of_length_eq_zero (by simpa using h)
    subst this
    exact ⟨fun _ h => by simp [groups] at h, rfl, rfl⟩
  | k + 1, xs, h, h1 => by
    have hl : n ≤ xs.length := by rw [h, Nat.add_mul]; omega
    obtain ⟨i1, i2, i3⟩ := groups_spec (n := n) (k := k) (xs := xs.drop n) (by rw [List.length_drop, h, Nat.add_mul]; omega) fun v hv => h1 v (List.mem_of_mem_drop hv)
    refine ⟨fun el hel => ?_, ?_, by simp [groups, i3]⟩
    · simp only [groups, List.mem_cons] at hel
      rcases hel with rfl | hel
      · exact ⟨by simp; omega, fun v hv => h1 v (List.mem_of_mem_take hv)⟩
      · exact i1 el hel
    · simp only [rowVals, groups, List.flatten_cons] at i2 ⊢
      rw [i2, List.take_append_drop]
theorem flat_length {n : Nat} : ∀ {xs : List (List Value)}, Flat n xs → (rowVals xs).length = xs.length * n
  | [], _ => by simp [rowVals]
  | x :: xs, h => by
    have := flat_length (n := n) (xs := xs) fun el hel => h el (by simp [hel])
    simp only [rowVals, List.flatten_cons, List.length_append, List.length_cons] at this ⊢
    rw [this, (h x (by simp)).1, Nat.add_mul]
    omega
theorem flat_oneCell {n : Nat} {xs : List (List Value)} (h : Flat n xs) : ∀ v ∈ rowVals xs, v.oneCell' = true := by
  intro v hv
  simp only [rowVals, List.mem_flatten] at hv
  obtain ⟨el, h1, h2⟩ := hv
  exact (h el h1).2 v h2
theorem rowVals_append (xs ys : List (List Value)) : rowVals (xs ++ ys) = rowVals xs ++ rowVals ys := by simp [rowVals]
theorem flat_append {n : Nat} {xs ys : List (List Value)} (h : Flat n xs) (h' : Flat n ys) : Flat n (xs ++ ys) := fun el hel => by
  rcases List.mem_append.1 hel with hel | hel
  · exact h el hel
  · exact h' el hel
theorem rowVals_set {n : Nat} : ∀ {xs : List (List Value)} {i : Nat} {el ys : List Value} (off : Nat), Flat n xs → xs[i]? = some el → off + ys.length ≤ el.length → rowVals (xs.set i (splice el off ys)) = splice (rowVals xs) (i * n + off) ys
  | [], i, el, ys, off, _, h, _ => by simp at h
  | x :: xs, 0, el, ys, off, hf, h, hle => by
    simp at h
    subst h
    simp only [List.set_cons_zero, rowVals, List.flatten_cons, Nat.zero_mul, Nat.zero_add, splice]
    rw [List.take_append_of_le_length (by omega), List.drop_append_of_le_length (by omega)]
    simp
  | x :: xs, i + 1, el, ys, off, hf, h, hle => by
    have ih := rowVals_set (n := n) (xs := xs) (i := i) (el := el) (ys := ys) off (fun y hy => hf y (by simp [hy])) (by simpa using h) hle
    have hx := (hf x (by simp)).1
    simp only [List.set_cons_succ, rowVals, List.flatten_cons] at ih ⊢
    rw [ih]
    simp only [splice]
    rw [List.take_append, List.take_of_length_le (l := x) (by rw [hx, Nat.add_mul]; omega), List.drop_append, List.drop_eq_nil_of_le (as := x) (by rw [hx, Nat.add_mul]; omega), hx]
    have e1 : (i + 1) * n + off - n = i * n + off := by rw [Nat.add_mul]; omega
    have e2 : (i + 1) * n + off + ys.length - n = i * n + off + ys.length := by rw [Nat.add_mul]; omega
    simp only [e1, e2, List.nil_append, List.append_assoc]
theorem flat_set {n : Nat} {xs : List (List Value)} {i : Nat} {el : List Value} (h : Flat n xs) (he : el.length = n ∧ ∀ v ∈ el, v.oneCell' = true) : Flat n (xs.set i el) := fun e hel => by
  rcases List.mem_or_eq_of_mem_set hel with hel | rfl
  · exact h e hel
  · exact he
theorem mem_splice {α : Type} {cs ys : List α} {off : Nat} {x : α} (h : x ∈ splice cs off ys) : x ∈ cs ∨ x ∈ ys := by
  simp only [splice, List.mem_append] at h
  rcases h with (h | h) | h
  · exact .inl (List.mem_of_mem_take h)
  · exact .inr h
  · exact .inl (List.mem_of_mem_drop h)
theorem rep_cells {z : Array Value} (hz : 0 < z.size) : ∀ n, ((Array.range (n * z.size)).map (fun i => z[i % z.size]!)).toList = (List.replicate n z.toList).flatten
  | 0 => by simp
  | n + 1 => by
    have ih := rep_cells hz n
    simp only [Array.toList_map, Array.toList_range] at ih ⊢
    rw [Nat.add_mul, Nat.one_mul, List.range_add, List.map_append, ih, List.replicate_succ', List.flatten_append]
    congr 1
    simp only [List.map_map, List.flatten_cons, List.flatten_nil, List.append_nil]
    apply List.ext_getElem?
    intro i
    simp only [List.getElem?_map, Function.comp_def]
    by_cases hi : i < z.size
    · rw [List.getElem?_range hi]
      have : (n * z.size + i) % z.size = i := by rw [Nat.mul_comm, Nat.mul_add_mod, Nat.mod_eq_of_lt hi]
      simp [this, hi, Nat.mod_eq_of_lt hi]
    · have : (List.range z.size)[i]? = none := by simp; omega
      simp [this, hi]
theorem OwnRow_new {w : World} {e : TypeId} {z n : Nat} {cur : Array Value} {xs : List (List Value)} (w' : World) (hh : w'.heap[w.heap.size]? = some (.cells cur e (0, 0))) (hn : xs.length = n) (hf : Flat z xs) (hc : cur.toList = rowVals xs) (hm : n ≤ maxLen) :
    OwnRow w' (· = w.heap.size) e z (.slice (some ⟨w.heap.size, 0, none⟩) n n) xs := by
  have hl := flat_length hf
  refine ⟨⟨by rw [hl], .inr ⟨w.heap.size, n, cur, by rw [hn], Nat.zero_le _, hh, by omega, hm, ?_, ?_⟩⟩, fun b hb => by simp [Value.ownBlock] at hb; exact hb.symm⟩
  · have : cur.toList.length = n * z := by rw [hc, hl, hn]
    simpa using this
  · rw [← hc, List.take_of_length_le (by rw [hc, hl]; exact Nat.le_refl _)]

section
variable {P : Program} {w0 w : World} {X Z : Fp} {U : KS} {st : St} {ρ : Rho} {Fk : Key → Fp} {a : Act} {ovs : List Value} {kf : Nat → Key}
variable (hinj : ∀ i j, kf i = kf j → i = j) (hXZ : ∀ x, X x → Z x)
variable (hM : Mem P w0 X Z U w st.m ρ Fk) (hS : Slots U ρ st a ovs) (hf : ∀ j, ¬ U (kf j))

include hXZ hM hf in
/-- A new block at a new key; the block of k, if one's own, may be gone. -/
theorem new_ok {w' : World} {k : Key} {b' : Blk} {v : Value} {z : Nat} {D G : Fp} (hD : ∀ x, D x → ∃ b, st.m k = some b ∧ b.mine = true ∧ Fk k x)
    (hos : w'.os = w.os) (htape : w'.tape = w.tape) (hout : w'.output = w.output) (hsize : w.heap.size ≤ w'.heap.size)
    (hw : ∀ x, x < w.heap.size → ¬ D x → w'.heap[x]? = w.heap[x]?) (hG : ∀ x, G x → x < w'.heap.size ∧ (D x ∨ w.heap.size ≤ x))
    (hok : okB (Uand U kf) b') (hb : BlkOk P w' (ρ.set (kf 0) v z) G (kf 0) b') :
    Mem P w0 X Z (Uand U kf) w' (upd (upd st.m k none) (kf 0) (some b')) (ρ.set (kf 0) v z) (upd Fk (kf 0) G) :=
  hM.repl k (kf 0) b' G D Uand_of ⟨Uand_key 0, hok⟩ hXZ hD hos htape hout hsize hw (Rho.set_eqOn (hf 0)) hG hb

theorem push_old (w : World) (o : Obj) : ∀ x, x < w.heap.size → ({ w with heap := w.heap.push o } : World).heap[x]? = w.heap[x]? := fun x hx => by
  show (w.heap.push o)[x]? = _
  rw [Array.getElem?_push_lt hx]
  simp
end
end Go.Proofs.Ytefofjpjbogilaa.M
