/- append. -/
import Derived.Test.YtefofjpjbogilaaOpsO
namespace Go.Proofs.Ytefofjpjbogilaa.M
set_option linter.unusedVariables false
set_option linter.unusedSimpArgs false
set_option linter.unusedSectionVars false

/-- What append adds: m elements, the cells news. -/
structure Src (P : Program) (w : World) (size : Nat) (x : Value) (m : Nat) (news : List Value) : Prop where
  len : ∀ w', (Builtin.lenOf x).run P w' = .ok m w'
  cells : ∀ w' : World, w'.heap = w.heap → (Builtin.firstCells size m x).run P w' = .ok news.toArray w'
  size : news.length = m * size
theorem Src.slice {P : Program} {w : World} {size : Nat} {A : Option Addr} {m c : Nat} {news : List Value} (hl : news.length = m * size)
    (h : 0 < m → ∃ ad, A = some ad ∧ ∀ n u, news[n]? = some u → w.cell? (ad.add n) = some u) : Src P w size (.slice A m c) m news := by
  refine ⟨fun w' => by simp [Builtin.lenOf], fun w' hw => ?_, hl⟩
  cases A with
  | none =>
    have hm : m = 0 := by
      cases m with
      | zero => rfl
      | succ m => obtain ⟨ad, e, _⟩ := h (by omega); cases e
    subst hm
    have : news = [] := List.eq_nil_of_length_eq_zero (by simpa using hl)
    subst this
    simp [Builtin.firstCells]
  | some ad =>
    refine run_firstCells_some (P := P) w' size m ad m c news hl fun j v hv => ?_
    have hm : 0 < m := by
      cases m with
      | zero =>
        have : news = [] := List.eq_nil_of_length_eq_zero (by simpa using hl)
        subst this
        simp at hv
      | succ m => omega
    obtain ⟨ad', e, f⟩ := h hm
    cases e
    have := f j v hv
    simpa [World.cell?, hw] using this
theorem Src.string {P : Program} {w : World} {s : ByteArray} : Src P w 1 (.string s) s.size (rowVals (byteRow s)) := by
  have hr : rowVals (byteRow s) = s.data.toList.map fun b => Value.int .u8 b.toNat := by
    unfold rowVals byteRow
    generalize s.data.toList = l
    induction l with
    | nil => rfl
    | cons b l ih => simp [ih]
  refine ⟨fun w' => by simp [Builtin.lenOf], fun w' _ => ?_, ?_⟩
  · rw [hr]
    have he : s.extract 0 s.size = s := by simp
    simp only [Builtin.firstCells, he, Sem.run_pure]
    congr 1
    apply Array.ext'
    simp
  · rw [hr, List.length_map, Array.length_toList, Nat.mul_one]
    rfl

section
variable {P : Program} {w : World} {t t2 ty e : TypeId} {d : TypeDesc} {i : TypeInfo} {z : Value} {x : Value} {m : Nat} {news : List Value}
variable (ht : P.underlying t = some (.slice e)) (ht2 : P.underlying t2 = some d) (hd : d = .slice e ∨ d = .string)
variable (hi : P.info? e = some i) (hz : i.zero = some z) (hs : Src P w i.size x m news)
include ht ht2 hd hi hs

theorem app_fits {base : Option Addr} {n cap : Nat} (hroom : n + m ≤ cap) {w' : World}
    (hst : ∀ a, base = some a → (storeCells (a.add (n * i.size)) news).run P w = .ok () w') (hno : base = none → w' = w) :
    (Builtin.append_ #[t, t2] ty #[.slice base n cap, x]).run P w = .ok (.slice base (n + m) cap) w' := by
  have hc := hs.cells w rfl
  have hl := hs.len w
  cases base with
  | none =>
    have := hno rfl
    subst this
    rcases hd with rfl | rfl <;> simp [Builtin.append_, run_underlying ht, run_underlying ht2, sizeOf, typeInfo, hi, hl, hroom, hc]
  | some a =>
    have := hst a rfl
    rcases hd with rfl | rfl <;> simp [Builtin.append_, run_underlying ht, run_underlying ht2, sizeOf, typeInfo, hi, hl, hroom, hc, this]
include hz in
theorem app_grows {base : Option Addr} {n cap : Nat} {olds : List Value} (hlo : olds.length = n * i.size) (hold : (Builtin.firstCells i.size n (.slice base n cap)).run P w.drew = .ok olds.toArray w.drew)
    (hroom : cap < n + m) (h63 : n + m ≤ 9223372036854775807) (hfit : Builtin.nextslicecap (n + m) cap * i.bytes ≤ 281474976710656) :
    (Builtin.append_ #[t, t2] ty #[.slice base n cap, x]).run P w =
      .ok (.slice (some ⟨w.heap.size, 0, none⟩) (n + m) (grownCap w (n + m) cap e))
        (w.drew.alloc (.cells (olds.toArray ++ news.toArray ++ Builtin.zeroCells z.cells (grownCap w (n + m) cap e - (n + m))) e)) := by
  have hc := hs.cells w.drew rfl
  have hl := hs.len w
  have hn : ¬ (n + m ≤ cap) := by omega
  have h63' : ¬ (9223372036854775807 < ((n : Int) + (m : Int))) := by omega
  have h48' : ¬ (281474976710656 < Builtin.nextslicecap (n + m) cap * i.bytes) := by omega
  rcases hd with rfl | rfl
  all_goals
    simp [Builtin.append_, run_underlying ht, run_underlying ht2, sizeOf, typeInfo, zeroValue, hi, hz, hl, hn, h63', h48', Question.forced, hold, hc, newRow, grownCap]
    congr 2
    apply Array.ext'
    simp [List.append_assoc]
end

section
variable {P : Program} {w0 w : World} {X Z : Fp} {U : KS} {st : St} {ρ : Rho} {Fk : Key → Fp} {a : Act} {ovs : List Value} {kf : Nat → Key}
variable (hinj : ∀ i j, kf i = kf j → i = j) (hXZ : ∀ x, X x → Z x)
variable (hM : Mem P w0 X Z U w st.m ρ Fk) (hS : Slots U ρ st a ovs) (hf : ∀ j, ¬ U (kf j))

include hM in
theorem src_ok {e t2 : TypeId} {z : Nat} {l : L} {ys : List (List Value)} {x : Value} (hz : szOf P e = some z) (hz0 : 0 < z) (hl : relL ρ l x) (h : srcOf P st.m e t2 l = some ys) :
    ∃ d, P.underlying t2 = some d ∧ (d = .slice e ∨ d = .string) ∧ Src P w z x ys.length (rowVals ys) ∧ Flat z ys := by
  unfold srcOf at h
  split at h
  · rename_i s
    split at h
    · rename_i hc
      cases h
      have e1 : x = .string s := hl
      subst e1
      rw [hz] at hc
      have hz1 : z = 1 := by injection hc.2.1
      subst hz1
      have hlen : (byteRow s).length = s.size := by
        show (s.data.toList.map _).length = s.data.size
        rw [List.length_map, Array.length_toList]
      refine ⟨_, isStr_spec hc.1, .inr rfl, ?_, fun el hel => ?_⟩
      · rw [hlen]; exact Src.string
      · simp only [byteRow, List.mem_map] at hel
        obtain ⟨b, _, rfl⟩ := hel
        exact ⟨rfl, by simp [Value.oneCell']⟩
    · cases h
  · rename_i k
    split at h
    · rename_i o e' xs hm
      split at h
      · rename_i hc
        cases h
        have hb := hM.blk k _ hm
        have hzk : ρ.z k = z := by have := hb.1; rw [hc.1, hz] at this; cases this; rfl
        have hfl := hb.2.2.1
        rw [hzk] at hfl
        have hrow : rowOf st.m (.sl k) = some ys := by simp [rowOf, hm]
        obtain ⟨A, c, z', f1, f2, f3, f4⟩ := rowOf_ok hM hl hrow
        exact ⟨_, elemT_spec hc.2, .inl rfl, by rw [f1]; exact Src.slice (flat_length hfl) f4, hfl⟩
      · cases h
    · cases h
  · rename_i k lo n
    split at h
    · rename_i o e' xs hm
      split at h
      · rename_i hc
        cases h
        have hb := hM.blk k _ hm
        have hzk : ρ.z k = z := by have := hb.1; rw [hc.1, hz] at this; cases this; rfl
        have hfl := hb.2.2.1
        rw [hzk] at hfl
        have hfl' : Flat z ((xs.drop lo).take n) := fun el hel => hfl el (List.mem_of_mem_drop (List.mem_of_mem_take hel))
        have hrow : rowOf st.m (.sub k lo n) = some ((xs.drop lo).take n) := by simp [rowOf, hm, hc.2.2]
        obtain ⟨A, c, z', f1, f2, f3, f4⟩ := rowOf_ok hM hl hrow
        exact ⟨_, elemT_spec hc.2.1, .inl rfl, by rw [f1]; exact Src.slice (flat_length hfl') f4, hfl'⟩
      · cases h
    · cases h
  · split at h
    · rename_i hc
      cases h
      have e1 : x = .slice none 0 0 := hl
      subst e1
      exact ⟨_, elemT_spec hc, .inl rfl, Src.slice (by simp [rowVals]) (fun h => by simp at h), fun _ h => by simp at h⟩
    · cases h
  · cases h

include hXZ hM hS hf in
theorem append_ok {o : Oper} {c : Call} (heq : o.op = .call c) (hcal : c.callee = .builtin .append) {md : Nat → List Bool} {orc : Orc} {δ : Dl} (h : stepM P md orc kf o st = some δ) : MOk P w0 w X Z U (Uand U kf) ρ st.m a o δ := by
  unfold stepM at h
  simp only [heq, hcal] at h
  split at h
  · rename_i s x t t2 hargs htys
    split at h
    · rename_i k y e by_ h1 h2 h3 h4
      split at h
      · rename_i ow e' xs ys hm hys
        split at h
        · rename_i hc
          obtain ⟨c1, c2, c3, c4⟩ := hc
          cases h
          obtain ⟨⟨r1, r1'⟩, _, r3⟩ := evL_ok hS h1
          obtain ⟨s1, _, s3⟩ := evL_ok hS h2
          obtain ⟨c2, c2'⟩ := c2
          subst c2
          have hb := hM.blk k _ hm
          obtain ⟨A, cap, g1, g2, g3, g4⟩ := hb.rd
          obtain ⟨b1, b2, b3, b4⟩ := hb
          obtain ⟨i, hi, hisz⟩ := szOf_info b1
          have hby : i.bytes = by_ := by
            rw [h3] at h4
            simpa [bytesOf, hi] using h4
          obtain ⟨zv, hz, hzs⟩ : ∃ zv, i.zero = some zv ∧ zv.cells.size = ρ.z k := by
            rw [b1] at c2'
            cases hzt : zeroT P e' with
            | none => simp [hzt] at c2'
            | some vs =>
              obtain ⟨zv, _, z2, _, i', hi', hz'⟩ := zeroT_run (P := P) (w := w) hzt
              rw [hi] at hi'
              cases hi'
              refine ⟨zv, hz', ?_⟩
              simp [hzt] at c2'
              rw [← c2', ← z2]
              simp
          obtain ⟨d, q1, q2, q3, q4⟩ := src_ok hM b1 b2 s1 hys
          have hv : a.eval s = .slice A xs.length cap := r1.trans g1
          have hT := elemT_spec h3
          have hflA := flat_append b3 q4
          have hlenA : (rowVals xs ++ rowVals ys).length = (xs.length + ys.length) * ρ.z k := by rw [← rowVals_append, flat_length hflA, List.length_append]
          have hSrc : Src P w i.size (a.eval x) ys.length (rowVals ys) := by rw [hisz]; exact q3
          have hargs' : c.args.map a.eval = #[a.eval s, a.eval x] := by
            apply Array.ext'
            rw [Array.toList_map, hargs]
            rfl
          have htys' : c.argTypes = #[t, t2] := by apply Array.ext'; rw [htys]
          -- it is enough that the new row is there
          have fin : ∀ {v : Value} {w' : World} {D G : Fp}, (Builtin.append_ #[t, t2] o.type #[.slice A xs.length cap, a.eval x]).run P w = .ok v w' → (∀ j, D j → Fk k j ∧ (Blk.row ow e' xs).mine = true) → w'.os = w.os → w'.tape = w.tape → w'.output = w.output → w.heap.size ≤ w'.heap.size →
              (∀ j, j < w.heap.size → ¬ D j → w'.heap[j]? = w.heap[j]?) → (∀ j, G j → j < w'.heap.size ∧ (D j ∨ w.heap.size ≤ j)) → v.oneCell' = true → OwnRow w' G e' (ρ.z k) v (xs ++ ys) →
              MOk P w0 w X Z U (Uand U kf) ρ st.m a o ⟨.v (.one (.sl (kf 0))), [(k, none), (kf 0, some (.row .own e' (xs ++ ys)))]⟩ := by
            intro v w' D G hrun hD ho ht hu hs hw hG hone hown
            refine ⟨v, w', ρ.set (kf 0) v (ρ.z k), upd Fk (kf 0) G, .inl ?_, ⟨?_, ⟨⟨(Rho.set_at _ _ _ _).1.symm, hone⟩, fun _ => oneCell'_NA hone⟩, Uand_key 0, Rho.set_eqOn (hf 0)⟩⟩
            · unfold execOp
              rw [heq]
              simp only [resolve, hcal, Sem.run_bind, Sem.run_pure, Result.andThen_ok, invoke, builtin, hargs', htys', hv, hrun]
            · show Mem P w0 X Z (Uand U kf) w' (upd (upd st.m k none) (kf 0) (some (.row .own e' (xs ++ ys)))) _ _
              refine new_ok hXZ hM hf (D := D) (z := ρ.z k) (v := v) (fun j hj => ⟨_, hm, (hD j hj).2, (hD j hj).1⟩) ho ht hu hs hw hG trivial ?_
              refine ⟨by rw [(Rho.set_at _ _ _ _).2]; exact b1, by rw [(Rho.set_at _ _ _ _).2]; exact b2, by rw [(Rho.set_at _ _ _ _).2]; exact hflA, ?_⟩
              show OwnRow w' G e' _ _ _
              rw [(Rho.set_at _ _ _ _).1, (Rho.set_at _ _ _ _).2]
              exact hown
          by_cases hroom : xs.length + ys.length ≤ cap
          · -- there is room
            have hOwn : OwnRow w (Fk k) e' (ρ.z k) (ρ.v k) xs ∧ (Blk.row ow e' xs).mine = true := by
              cases ow with
              | own => exact ⟨b4, rfl⟩
              | lit => exact ⟨b4.1, rfl⟩
              | ro => rcases c1 with c1 | ⟨c1, _⟩ <;> cases c1
              | frz => rcases c1 with c1 | ⟨c1, _⟩ <;> cases c1
              | fix =>
                obtain ⟨g, fr, cur, e1, e2, _⟩ := b4
                rw [g1] at e1
                injection e1 with _ _ e3
                rcases c1 with c1 | ⟨_, c1⟩
                · cases c1
                · have : ys.length = 0 := by omega
                  exact absurd (List.eq_nil_of_length_eq_zero this) c1
            obtain ⟨⟨⟨o1, o2⟩, o3⟩, hmine⟩ := hOwn
            rcases o2 with ⟨p1, p2⟩ | ⟨g, cap', cur, p1, p2, p3, p4, p5, p6, p7⟩
            · rw [g1] at p1
              injection p1 with p1 p1' p1''
              subst p1
              have hx : xs = [] := List.eq_nil_of_length_eq_zero p2
              have hy : ys = [] := List.eq_nil_of_length_eq_zero (by omega)
              have hrun := app_fits (ty := o.type) hT q1 q2 hi hSrc (base := none) hroom (w' := w) (fun a h => by cases h) (fun _ => rfl)
              refine fin (D := fun _ => False) (G := fun _ => False) hrun (fun _ h => h.elim) rfl rfl rfl (Nat.le_refl _) (fun _ _ _ => rfl) (fun _ h => h.elim) rfl ?_
              subst hx
              subst hy
              subst p1''
              exact ⟨World.ownsRow_nil w 0 e' _, fun b h => by simp [Value.ownBlock] at h⟩
            · rw [g1] at p1
              injection p1 with p1 p1' p1''
              subst p1
              subst p1''
              have hgF : Fk k g := o3 g (by rw [g1]; rfl)
              have hlt := hM.lt k _ hm g hgF
              have hm2 : (xs.length + ys.length) * ρ.z k ≤ cap * ρ.z k := Nat.mul_le_mul_right _ hroom
              have hfit : xs.length * ρ.z k + (rowVals ys).length ≤ cur.size := by rw [p6, flat_length q4, ← Nat.add_mul]; exact hm2
              have hst := run_storeCells_at P g (xs.length * ρ.z k) e' (rowVals ys) 0 cur w p3 (by simpa using hfit) (flat_oneCell q4)
              have hrun := app_fits (ty := o.type) hT q1 q2 hi hSrc (base := some ⟨g, 0, none⟩) hroom (w' := _) (fun a h => by
                cases h
                rw [hisz, ← Addr.lit_add]
                exact hst) (fun h => by cases h)
              refine fin (D := (· = g)) (G := (· = g)) hrun (fun j hj => ⟨by rw [hj]; exact hgF, hmine⟩) rfl rfl rfl (by simp) (fun j _ hj => setRow_other w g j _ hj) (fun j hj => ⟨by simp [hj]; exact hlt, .inl hj⟩) rfl ?_
              refine ⟨⟨by rw [rowVals_append, hlenA, List.length_append], .inr ⟨g, cap, _, by rw [List.length_append], Nat.zero_le _, setRow_heap w g _ _ _ _ p3, by rw [List.length_append]; exact hroom, g3, ?_, ?_⟩⟩, fun b hb => by simp [Value.ownBlock] at hb; exact hb.symm⟩
              · simp only [List.size_toArray, List.length_append, List.length_take, List.length_drop, Array.length_toList, Nat.add_zero]
                omega
              · have e9 : List.take (xs.length * ρ.z k + 0) cur.toList ++ rowVals ys = rowVals xs ++ rowVals ys := by rw [Nat.add_zero, p7]
                rw [rowVals_append, List.length_append, ← hlenA, e9]
                exact List.take_left
          · -- a new block
            have hold := (Src.slice (P := P) (w := w) (size := ρ.z k) (A := A) (m := xs.length) (c := cap) (news := rowVals xs) (flat_length b3) (fun hp => by obtain ⟨ad, a1, _, a3⟩ := g4 hp; exact ⟨ad, a1, a3⟩)).cells w.drew rfl
            rw [← hisz] at hold
            have hrun := app_grows (ty := o.type) (z := zv) hT q1 q2 hi hz hSrc (base := A) (n := xs.length) (cap := cap) (olds := rowVals xs) (by rw [hisz]; exact flat_length b3) hold (by omega) (by omega) (growslice_fits (by omega) (by rw [hby]; exact c3))
            have hge := grownCap_ge w (xs.length + ys.length) cap e'
            have hcm := grownCap_le_maxLen w (xs.length + ys.length) cap e' (by simp [maxLen]; omega)
            refine fin (D := fun _ => False) (G := (· = w.heap.size)) hrun (fun _ h => h.elim) rfl rfl rfl (by simp) (fun j hj _ => push_old w.drew _ j hj) (fun j hj => ⟨by simp [hj], .inr (by rw [hj]; exact Nat.le_refl _)⟩) rfl ?_
            refine ⟨⟨by rw [rowVals_append, hlenA, List.length_append], .inr ⟨w.heap.size, _, _, by rw [List.length_append], Nat.zero_le _, heap_alloc_new w.drew _, by rw [List.length_append]; exact hge, hcm, ?_, ?_⟩⟩, fun b hb => by simp [Value.ownBlock] at hb; exact hb.symm⟩
            · have e8 : (rowVals xs).length + (rowVals ys).length = (xs.length + ys.length) * ρ.z k := by rw [← List.length_append]; exact hlenA
              simp only [Array.size_append, List.size_toArray, size_zeroCells, hzs, e8, ← Nat.add_mul]
              congr 1
              omega
            · simp only [Array.toList_append]
              rw [rowVals_append, List.length_append, ← hlenA]
              exact List.take_left
        · cases h
      · cases h
    · cases h
  · cases h
end
end Go.Proofs.Ytefofjpjbogilaa.M
