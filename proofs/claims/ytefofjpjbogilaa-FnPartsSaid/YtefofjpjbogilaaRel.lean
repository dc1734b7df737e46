/- How an interpreter's state stands to the machine's. -/
import Derived.Test.YtefofjpjbogilaaM
namespace Go.Proofs.Ytefofjpjbogilaa.M
set_option linter.unusedVariables false

abbrev Fp := Nat → Prop
abbrev KS := Key → Prop
/-- What each key stands for: the pointer of a box, the slice of a row; the size of an element. -/
structure Rho where
  v : Key → Value
  z : Key → Nat
def NA (x : Value) : Prop := ∀ cs, x ≠ .agg cs
def L.live : L → Prop | .dead => False | _ => True
mutual
def relL (ρ : Rho) : L → Value → Prop
  | .s v, x => x = v
  | .sl k, x => x = ρ.v k ∧ x.oneCell' = true
  | .sub k lo n, x => ∃ A c, x = .slice A n c ∧ (n ≤ c ∧ c ≤ maxLen) ∧ (0 < n → ∃ ad N c', ρ.v k = .slice (some ad) N c' ∧ lo + n ≤ N ∧ A = some (ad.add (lo * ρ.z k)))
  | .p k off, x => ∃ g, ρ.v k = .pointer (some ⟨g, 0, none⟩) ∧ x = .pointer (some ⟨g, off, none⟩)
  | .ep k i off, x => ∃ ad N c', ρ.v k = .slice (some ad) N c' ∧ i < N ∧ x = .pointer (some ((ad.add (i * ρ.z k)).add off))
  | .fn f caps, x => ∃ vs : List Value, x = .func (.func f) #[] vs.toArray ∧ relLs ρ caps vs
  | .dead, _ => True
def relLs (ρ : Rho) : List L → List Value → Prop
  | [], [] => True
  | l :: ls, v :: vs => (relL ρ l v ∧ (l.live → NA v)) ∧ relLs ρ ls vs
  | _, _ => False
end
def relV (ρ : Rho) : V → Value → Prop
  | .one l, x => relL ρ l x ∧ (l.live → NA x)
  | .agg ls, x => ∃ vs : List Value, x = .agg vs.toArray ∧ relLs ρ ls vs
def relVs (ρ : Rho) : List V → List Value → Prop
  | [], [] => True
  | l :: ls, v :: vs => relV ρ l v ∧ relVs ρ ls vs
  | _, _ => False
def relT (ρ : Rho) : T → Value → Prop
  | .v a, x => relV ρ a x
  | .tup as_, x => ∃ vs : List Value, x = .tuple vs.toArray ∧ relVs ρ as_ vs

mutual
/-- All keys are such. -/
def okL (K : Key → Prop) : L → Prop
  | .s _ => True
  | .sl k => K k
  | .sub k _ _ => K k
  | .p k _ => K k
  | .ep k _ _ => K k
  | .fn _ caps => okLs K caps
  | .dead => True
def okLs (K : Key → Prop) : List L → Prop
  | [] => True
  | l :: ls => okL K l ∧ okLs K ls
end
def okV (K : Key → Prop) : V → Prop | .one l => okL K l | .agg ls => okLs K ls
def okVs (K : Key → Prop) : List V → Prop | [] => True | v :: vs => okV K v ∧ okVs K vs
def okT (K : Key → Prop) : T → Prop | .v a => okV K a | .tup vs => okVs K vs
def okB (K : Key → Prop) : Blk → Prop | .box _ _ cs => okLs K cs | _ => True

mutual
theorem okL.imp {K K' : Key → Prop} (h : ∀ k, K k → K' k) : ∀ {l : L}, okL K l → okL K' l
  | .s _, _ => trivial
  | .sl k, x => h k x
  | .sub k _ _, x => h k x
  | .p k _, x => h k x
  | .ep k _ _, x => h k x
  | .fn _ caps, x => okLs.imp h (ls := caps) x
  | .dead, _ => trivial
theorem okLs.imp {K K' : Key → Prop} (h : ∀ k, K k → K' k) : ∀ {ls : List L}, okLs K ls → okLs K' ls
  | [], _ => trivial
  | l :: ls, x => ⟨okL.imp h (l := l) x.1, okLs.imp h (ls := ls) x.2⟩
end
theorem okV.imp {K K' : Key → Prop} (h : ∀ k, K k → K' k) : ∀ {v : V}, okV K v → okV K' v
  | .one l, x => okL.imp h (l := l) x
  | .agg ls, x => okLs.imp h (ls := ls) x
theorem okVs.imp {K K' : Key → Prop} (h : ∀ k, K k → K' k) : ∀ {vs : List V}, okVs K vs → okVs K' vs
  | [], _ => trivial
  | v :: vs, x => ⟨okV.imp h x.1, okVs.imp h x.2⟩
theorem okT.imp {K K' : Key → Prop} (h : ∀ k, K k → K' k) : ∀ {t : T}, okT K t → okT K' t
  | .v a, x => okV.imp h (v := a) x
  | .tup vs, x => okVs.imp h (vs := vs) x
theorem okB.imp {K K' : Key → Prop} (h : ∀ k, K k → K' k) : ∀ {b : Blk}, okB K b → okB K' b
  | .box _ _ cs, x => okLs.imp h (ls := cs) x
  | .row _ _ _, _ => trivial

/-- The two know these keys alike. -/
def Rho.eqOn (ρ ρ' : Rho) (k : Key) : Prop := ρ'.v k = ρ.v k ∧ ρ'.z k = ρ.z k
mutual
theorem relL.congr {ρ ρ' : Rho} : ∀ {l : L} {x : Value}, okL (ρ.eqOn ρ') l → relL ρ l x → relL ρ' l x
  | .s _, _, _, r => r
  | .sl k, x, h, r => ⟨r.1.trans h.1.symm, r.2⟩
  | .sub k lo n, x, h, ⟨A, c, e, le, f⟩ => ⟨A, c, e, le, fun hn => by obtain ⟨ad, N, c', e1, e2, e3⟩ := f hn; exact ⟨ad, N, c', h.1.trans e1, e2, by rw [h.2]; exact e3⟩⟩
  | .p k off, x, h, ⟨g, e1, e2⟩ => ⟨g, h.1.trans e1, e2⟩
  | .ep k i off, x, h, ⟨ad, N, c', e1, e2, e3⟩ => ⟨ad, N, c', h.1.trans e1, e2, by rw [h.2]; exact e3⟩
  | .fn f caps, x, h, ⟨vs, e, r⟩ => ⟨vs, e, relLs.congr (ls := caps) h r⟩
  | .dead, _, _, _ => trivial
theorem relLs.congr {ρ ρ' : Rho} : ∀ {ls : List L} {xs : List Value}, okLs (ρ.eqOn ρ') ls → relLs ρ ls xs → relLs ρ' ls xs
  | [], [], _, _ => trivial
  | l :: ls, v :: vs, h, r => ⟨⟨relL.congr (l := l) h.1 r.1.1, r.1.2⟩, relLs.congr (ls := ls) h.2 r.2⟩
  | [], _ :: _, _, r => r.elim
  | _ :: _, [], _, r => r.elim
end
theorem relV.congr {ρ ρ' : Rho} : ∀ {v : V} {x : Value}, okV (ρ.eqOn ρ') v → relV ρ v x → relV ρ' v x
  | .one l, x, h, r => ⟨relL.congr (l := l) h r.1, r.2⟩
  | .agg ls, x, h, ⟨vs, e, r⟩ => ⟨vs, e, relLs.congr (ls := ls) h r⟩
theorem relVs.congr {ρ ρ' : Rho} : ∀ {vs : List V} {xs : List Value}, okVs (ρ.eqOn ρ') vs → relVs ρ vs xs → relVs ρ' vs xs
  | [], [], _, _ => trivial
  | v :: vs, x :: xs, h, r => ⟨relV.congr h.1 r.1, relVs.congr h.2 r.2⟩
  | [], _ :: _, _, r => r.elim
  | _ :: _, [], _, r => r.elim
theorem relT.congr {ρ ρ' : Rho} : ∀ {t : T} {x : Value}, okT (ρ.eqOn ρ') t → relT ρ t x → relT ρ' t x
  | .v a, x, h, r => relV.congr (v := a) h r
  | .tup as_, x, h, ⟨vs, e, r⟩ => ⟨vs, e, relVs.congr (vs := as_) h r⟩
theorem relLs.length {ρ : Rho} : ∀ {ls : List L} {xs : List Value}, relLs ρ ls xs → xs.length = ls.length
  | [], [], _ => rfl
  | l :: ls, v :: vs, h => congrArg (· + 1) (relLs.length (ls := ls) h.2)
  | [], _ :: _, r => r.elim
  | _ :: _, [], r => r.elim

/-! ### Blocks -/
def rowVals (xs : List (List Value)) : List Value := xs.flatten
/-- All elements are of one size, cell by cell. -/
def Flat (n : Nat) (xs : List (List Value)) : Prop := ∀ el ∈ xs, el.length = n ∧ ∀ v ∈ el, v.oneCell' = true
/-- A slice that is read. -/
def RdRow (w : World) (F : Fp) (v : Value) (xs : List (List Value)) : Prop :=
  ∃ A c, v = .slice A xs.length c ∧ xs.length ≤ c ∧ c ≤ maxLen ∧ (0 < xs.length → ∃ ad, A = some ad ∧ F ad.block ∧ ∀ n u, (rowVals xs)[n]? = some u → w.cell? (ad.add n) = some u)
def OwnRow (w : World) (F : Fp) (e : TypeId) (z : Nat) (v : Value) (xs : List (List Value)) : Prop :=
  w.ownsRow 0 e z v xs.length (rowVals xs) ∧ ∀ b, v.ownBlock = some b → F b
def BlkOk (P : Program) (w : World) (ρ : Rho) (F : Fp) (k : Key) : Blk → Prop
  | .box o t cs => ∃ g vs t', ρ.v k = .pointer (some ⟨g, 0, none⟩) ∧ F g ∧ w.heap[g]? = some (.cells vs.toArray t' (0, 0)) ∧ relLs ρ cs vs ∧ ρ.z k = 0
  | .row o e xs => szOf P e = some (ρ.z k) ∧ 0 < ρ.z k ∧ Flat (ρ.z k) xs ∧
    match o with
    | .ro => RdRow w F (ρ.v k) xs
    | .frz => RdRow w F (ρ.v k) xs
    | .own => OwnRow w F e (ρ.z k) (ρ.v k) xs
    | .lit => OwnRow w F e (ρ.z k) (ρ.v k) xs ∧ ∃ g, ρ.v k = .slice (some ⟨g, 0, none⟩) xs.length xs.length
    | .fix => ∃ g fr cur, ρ.v k = .slice (some ⟨g, 0, none⟩) xs.length xs.length ∧ xs.length ≤ maxLen ∧ F g ∧ w.heap[g]? = some (.cells cur e fr) ∧ cur.toList = rowVals xs

theorem Addr.add_block (ad : Addr) (n : Nat) : (ad.add n).block = ad.block := by unfold Addr.add; split <;> rfl
theorem RdRow.loc {w w' : World} {F : Fp} {v : Value} {xs : List (List Value)} (h : ∀ b, F b → w'.heap[b]? = w.heap[b]?) : RdRow w F v xs → RdRow w' F v xs := by
  rintro ⟨A, c, e, h1, h2, f⟩
  refine ⟨A, c, e, h1, h2, fun hp => ?_⟩
  obtain ⟨ad, e2, hF, g⟩ := f hp
  refine ⟨ad, e2, hF, fun n u hu => ?_⟩
  exact (World.cell?_of_block (w := w) (w' := w') (by rw [Addr.add_block]; exact h _ hF)).trans (g n u hu)
theorem OwnRow.loc {w w' : World} {F : Fp} {e : TypeId} {z : Nat} {v : Value} {xs : List (List Value)} (h : ∀ b, F b → w'.heap[b]? = w.heap[b]?) : OwnRow w F e z v xs → OwnRow w' F e z v xs := by
  rintro ⟨⟨h1, h2⟩, hF⟩
  refine ⟨⟨h1, ?_⟩, hF⟩
  rcases h2 with hn | ⟨g, cap, cur, rfl, hb, hh, rest⟩
  · exact .inl hn
  · exact .inr ⟨g, cap, cur, rfl, hb, (h g (hF g rfl)).trans hh, rest⟩
theorem BlkOk.loc {P : Program} {w w' : World} {ρ ρ' : Rho} {F : Fp} {k : Key} {b : Blk} (h : ∀ b, F b → w'.heap[b]? = w.heap[b]?) (hk : ρ.eqOn ρ' k) (hb : okB (ρ.eqOn ρ') b) : BlkOk P w ρ F k b → BlkOk P w' ρ' F k b := by
  cases b with
  | box o t cs =>
    rintro ⟨g, vs, t', e1, e2, e3, r, e4⟩
    exact ⟨g, vs, t', hk.1.trans e1, e2, (h g e2).trans e3, relLs.congr hb r, hk.2.trans e4⟩
  | row o e xs =>
    rintro ⟨h1, h2, h3, h4⟩
    refine ⟨by rw [hk.2]; exact h1, by rw [hk.2]; exact h2, by rw [hk.2]; exact h3, ?_⟩
    cases o with
    | ro => show RdRow w' F (ρ'.v k) xs; rw [hk.1]; exact RdRow.loc h h4
    | frz => show RdRow w' F (ρ'.v k) xs; rw [hk.1]; exact RdRow.loc h h4
    | own => show OwnRow w' F e (ρ'.z k) (ρ'.v k) xs; rw [hk.1, hk.2]; exact OwnRow.loc h h4
    | lit => show OwnRow w' F e (ρ'.z k) (ρ'.v k) xs ∧ _; rw [hk.1, hk.2]; exact ⟨OwnRow.loc h h4.1, h4.2⟩
    | fix =>
      obtain ⟨g, fr, cur, e1, e2, e3, e4, e5⟩ := h4
      exact ⟨g, fr, cur, hk.1.trans e1, e2, e3, (h g e3).trans e4, e5⟩

/-! ### The memory of a call: begun in w0, X its to write, Z all that it was shown; U the keys that are in use -/
structure Mem (P : Program) (w0 : World) (X Z : Fp) (U : KS) (w : World) (m : Key → Option Blk) (ρ : Rho) (Fk : Key → Fp) : Prop where
  os : w.os = w0.os
  tape : w.tape = w0.tape
  output : w.output = w0.output
  size : w0.heap.size ≤ w.heap.size
  keep : ∀ b, b < w0.heap.size → ¬ X b → w.heap[b]? = w0.heap[b]?
  key : ∀ k b, m k = some b → U k ∧ okB U b
  blk : ∀ k b, m k = some b → BlkOk P w ρ (Fk k) k b
  lt : ∀ k b, m k = some b → ∀ x, Fk k x → x < w.heap.size
  all : ∀ k b, m k = some b → ∀ x, Fk k x → w0.heap.size ≤ x ∨ Z x
  own : ∀ k b, m k = some b → b.mine = true → ∀ x, Fk k x → w0.heap.size ≤ x ∨ X x
  apart : ∀ k k' b b', k ≠ k' → m k = some b → m k' = some b' → b.mine = true → ∀ x, Fk k x → ¬ Fk k' x

/-- One key's block (or none) makes way for another's, together with the world. -/
theorem Mem.repl {P : Program} {w0 w w' : World} {X Z : Fp} {U U' : KS} {m : Key → Option Blk} {ρ ρ' : Rho} {Fk : Key → Fp} (h : Mem P w0 X Z U w m ρ Fk) (k k2 : Key) (b' : Blk) (G D : Fp)
    (hU : ∀ k, U k → U' k) (hb2 : U' k2 ∧ okB U' b') (hXZ : ∀ x, X x → Z x)
    (hD : ∀ x, D x → ∃ b, m k = some b ∧ b.mine = true ∧ Fk k x)
    (hos : w'.os = w.os) (htape : w'.tape = w.tape) (hout : w'.output = w.output) (hsize : w.heap.size ≤ w'.heap.size)
    (hw : ∀ x, x < w.heap.size → ¬ D x → w'.heap[x]? = w.heap[x]?)
    (hρ' : ∀ k', U k' → ρ.eqOn ρ' k')
    (hG : ∀ x, G x → x < w'.heap.size ∧ (D x ∨ w.heap.size ≤ x))
    (hb : BlkOk P w' ρ' G k2 b') : Mem P w0 X Z U' w' (upd (upd m k none) k2 (some b')) ρ' (upd Fk k2 G) := by
  have old : ∀ k' b, upd (upd m k none) k2 (some b') k' = some b → k' ≠ k2 → k' ≠ k ∧ m k' = some b := by
    intro k' b hm hne
    rw [upd_ne _ _ _ hne] at hm
    by_cases hk : k' = k
    · subst hk
      rw [upd_same] at hm
      cases hm
    · rw [upd_ne _ _ _ hk] at hm
      exact ⟨hk, hm⟩
  have nD : ∀ k' b, m k' = some b → k' ≠ k → ∀ x, Fk k' x → ¬ D x := by
    intro k' b hm hne x hx hd
    obtain ⟨b0, h1, h2, h3⟩ := hD x hd
    exact h.apart k k' b0 b (Ne.symm hne) h1 hm h2 x h3 hx
  have dOwn : ∀ x, D x → w0.heap.size ≤ x ∨ X x := fun x hd => by
    obtain ⟨b0, h1, h2, h3⟩ := hD x hd
    exact h.own k b0 h1 h2 x h3
  refine ⟨hos.trans h.os, htape.trans h.tape, hout.trans h.output, Nat.le_trans h.size hsize, fun b hb0 hx => ?_, fun k' b hm => ?_, fun k' b hm => ?_, fun k' b hm x hx => ?_, fun k' b hm x hx => ?_, fun k' b hm hmine x hx => ?_, fun k1 k' b1 b2 hne h1 h2 hmine x hx hx' => ?_⟩
  · refine (hw b (Nat.lt_of_lt_of_le hb0 h.size) (fun hd => ?_)).trans (h.keep b hb0 hx)
    rcases dOwn b hd with h4 | h4
    · omega
    · exact hx h4
  · by_cases hk : k' = k2
    · subst hk
      rw [upd_same] at hm
      cases hm
      exact hb2
    · obtain ⟨hne, hm'⟩ := old k' b hm hk
      exact ⟨hU _ (h.key k' b hm').1, (h.key k' b hm').2.imp hU⟩
  · by_cases hk : k' = k2
    · subst hk
      rw [upd_same] at hm
      cases hm
      rw [upd_same]
      exact hb
    · obtain ⟨hne, hm'⟩ := old k' b hm hk
      rw [upd_ne _ _ _ hk]
      obtain ⟨r1, r2⟩ := h.key k' b hm'
      exact BlkOk.loc (fun x hx => hw x (h.lt k' b hm' x hx) (nD k' b hm' hne x hx)) (hρ' _ r1) (r2.imp hρ') (h.blk k' b hm')
  · by_cases hk : k' = k2
    · subst hk
      rw [upd_same] at hx
      exact (hG x hx).1
    · obtain ⟨hne, hm'⟩ := old k' b hm hk
      rw [upd_ne _ _ _ hk] at hx
      exact Nat.lt_of_lt_of_le (h.lt k' b hm' x hx) hsize
  · by_cases hk : k' = k2
    · subst hk
      rw [upd_same] at hx
      rcases (hG x hx).2 with hd | hf
      · exact (dOwn x hd).imp id (hXZ x)
      · exact .inl (Nat.le_trans h.size hf)
    · obtain ⟨hne, hm'⟩ := old k' b hm hk
      rw [upd_ne _ _ _ hk] at hx
      exact h.all k' b hm' x hx
  · by_cases hk : k' = k2
    · subst hk
      rw [upd_same] at hx
      rcases (hG x hx).2 with hd | hf
      · exact dOwn x hd
      · exact .inl (Nat.le_trans h.size hf)
    · obtain ⟨hne, hm'⟩ := old k' b hm hk
      rw [upd_ne _ _ _ hk] at hx
      exact h.own k' b hm' hmine x hx
  · by_cases hk1 : k1 = k2
    · subst hk1
      have hk' : k' ≠ k1 := Ne.symm hne
      obtain ⟨hne', hm'⟩ := old k' b2 h2 hk'
      rw [upd_same] at hx
      rw [upd_ne _ _ _ hk'] at hx'
      rcases (hG x hx).2 with hd | hf
      · exact nD k' b2 hm' hne' x hx' hd
      · have := h.lt k' b2 hm' x hx'; omega
    · obtain ⟨hne1, hm1⟩ := old k1 b1 h1 hk1
      rw [upd_ne _ _ _ hk1] at hx
      by_cases hk' : k' = k2
      · subst hk'
        rw [upd_same] at hx'
        rcases (hG x hx').2 with hd | hf
        · exact nD k1 b1 hm1 hne1 x hx hd
        · have := h.lt k1 b1 hm1 x hx; omega
      · obtain ⟨hne', hm'⟩ := old k' b2 h2 hk'
        rw [upd_ne _ _ _ hk'] at hx'
        exact h.apart k1 k' b1 b2 hne hm1 hm' hmine x hx hx'

/-- The slots. -/
structure Slots (U : KS) (ρ : Rho) (st : St) (a : Act) (ovs : List Value) : Prop where
  t : ∀ n, relT ρ (st.t n) (a.tmps.getD n undef) ∧ okT U (st.t n)
  sz : a.tmps.size = st.n
  df : a.defers = []
  o : relVs ρ st.o ovs ∧ okVs U st.o
theorem Slots.imp {U U' : KS} {ρ ρ' : Rho} {st : St} {a : Act} {ovs : List Value} (h : Slots U ρ st a ovs) (hU : ∀ k, U k → U' k) (hρ : ∀ k, U k → ρ.eqOn ρ' k) : Slots U' ρ' st a ovs :=
  ⟨fun n => ⟨relT.congr ((h.t n).2.imp hρ) (h.t n).1, (h.t n).2.imp hU⟩, h.sz, h.df, relVs.congr (h.o.2.imp hρ) h.o.1, h.o.2.imp hU⟩
theorem Slots.app {U : KS} {ρ : Rho} {st : St} {a : Act} {ovs : List Value} (h : Slots U ρ st a ovs) {o : Oper} (ho : okDst st o = true) {δ : Dl} {v : Value} (hv : relT ρ δ.x v) (hk : okT U δ.x) : Slots U ρ (st.app o.dst δ) (a.put o.dst v) ovs := by
  unfold okDst at ho
  cases hd : o.dst with
  | none => exact ⟨h.t, h.sz, h.df, h.o⟩
  | some d =>
    rw [hd] at ho
    have hlt : d < st.n := of_decide_eq_true ho
    refine ⟨fun n => ?_, by show (a.put (some d) v).tmps.size = st.n; simpa [Act.put] using h.sz, h.df, h.o⟩
    by_cases hn : n = d
    · subst hn
      have h1 : (a.put (some n) v).tmps.getD n undef = v := by
        have : n < a.tmps.size := h.sz ▸ hlt
        simp [Act.put, Array.getD, this]
      show relT ρ (upd st.t n δ.x n) _ ∧ okT U (upd st.t n δ.x n)
      rw [upd_same, h1]
      exact ⟨hv, hk⟩
    · have h1 : (a.put (some d) v).tmps.getD n undef = a.tmps.getD n undef := by
        simp only [Act.put, Array.getD_eq_getD_getElem?, Array.getElem?_setIfInBounds, if_neg (Ne.symm hn)]
      show relT ρ (upd st.t d δ.x n) _ ∧ okT U (upd st.t d δ.x n)
      rw [upd_ne _ _ _ hn, h1]
      exact h.t n
end Go.Proofs.Ytefofjpjbogilaa.M
