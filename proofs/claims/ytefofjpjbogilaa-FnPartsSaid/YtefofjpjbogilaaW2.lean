/- What is to be shown of one operation. -/
import Derived.Test.YtefofjpjbogilaaW
namespace Go.Proofs.Ytefofjpjbogilaa.M
set_option linter.unusedVariables false
set_option linter.unusedSimpArgs false
set_option linter.unusedSectionVars false

/-! ### Numbers and strings -/
/-- A number fits its kind. -/
def inK : IntKind → Int → Prop
  | .i64, n => -9223372036854775808 ≤ n ∧ n ≤ 9223372036854775807
  | .u8, n => 0 ≤ n ∧ n ≤ 255
  | k, n => k.wrap n = n
theorem inK_wrap {k : IntKind} {n : Int} (h : inK k n) : k.wrap n = n := by
  cases k with
  | i64 =>
    obtain ⟨h1, h2⟩ := h
    simp [IntKind.wrap, IntKind.bits, IntKind.signed]
    omega
  | u8 =>
    obtain ⟨h1, h2⟩ := h
    simp [IntKind.wrap, IntKind.bits, IntKind.signed]
    omega
  | _ => exact h
def andI (k : IntKind) (a b : Int) : Int := k.wrap (BitVec.ofInt k.bits a &&& BitVec.ofInt k.bits b).toNat
def orI (k : IntKind) (a b : Int) : Int := k.wrap (BitVec.ofInt k.bits a ||| BitVec.ofInt k.bits b).toNat
def xorI (k : IntKind) (a b : Int) : Int := k.wrap (BitVec.ofInt k.bits a ^^^ BitVec.ofInt k.bits b).toNat
def shrI (k : IntKind) (a b : Int) : Int := a.fdiv (2 ^ (min b.toNat k.bits))
def shlI (k : IntKind) (a b : Int) : Int := a * 2 ^ (min b.toNat k.bits)
def strLt (a b : ByteArray) : Prop := Op.bytesLess a.toList b.toList = true
def byteAt (s : ByteArray) (n : Int) : Int := match s[n.toNat]? with | some b => b.toNat | none => 0
def bytesOk (xs : List (List Value)) : Prop := (strOf xs).isSome = true
def rowStr (xs : List (List Value)) : ByteArray := match strOf xs with | some bs => ⟨bs.toArray⟩ | none => ByteArray.empty
def rngW (ov : Bool) (k : IntKind) (r : Int) (K : Value → VC) : VC := bif ov then K (.int k (k.wrap r)) else .must (inK k r) (K (.int k r))
theorem rngW_ok {ov : Bool} {k : IntKind} {r : Int} {K : Value → VC} (h : (rngW ov k r K).den) : (K (.int k (k.wrap r))).den := by
  cases ov with
  | true => exact h
  | false => rw [inK_wrap h.1]; exact h.2
/-- Either way. -/
def brW (p : Prop) (K : Value → VC) : VC := .and (.imp p (K (.bool true))) (.imp (¬ p) (K (.bool false)))
def brN (p : Prop) (K : Value → VC) : VC := .and (.imp p (K (.bool false))) (.imp (¬ p) (K (.bool true)))
theorem brW_ok {p : Prop} {K : Value → VC} (h : (brW p K).den) {b : Bool} (hb : b = true ↔ p) : (K (.bool b)).den := by
  cases b with
  | true => exact h.1 (hb.1 rfl)
  | false => exact h.2 fun hp => by have := hb.2 hp; cases this
theorem brN_ok {p : Prop} {K : Value → VC} (h : (brN p K).den) {b : Bool} (hb : b = true ↔ ¬ p) : (K (.bool b)).den := by
  cases b with
  | true => exact h.2 (hb.1 rfl)
  | false => exact h.1 (Classical.byContradiction fun hp => by have := hb.2 hp; cases this)
def eqCP (P : Program) (t : TypeId) (x y : Value) : Option Prop :=
  match P.underlying t, x, y with
  | some (.int _), .int k a, .int k' b => if k = k' then some (a = b) else none
  | some .string, .string a, .string b => some (a = b)
  | some .bool, .bool a, .bool b => some (a = b)
  | _, _, _ => none
def eqFsP (P : Program) (xs ys : Array Value) : List Field → Option Prop
  | [] => some True
  | f :: fs => if f.name = "_" then none else
    match xs[f.offset]?, ys[f.offset]? with
    | some x, some y => match eqCP P f.type x y, eqFsP P xs ys fs with | some b, some c => some (b ∧ c) | _, _ => none
    | _, _ => none
theorem ba_beq {a b : ByteArray} : (a == b) = true ↔ a = b := by
  cases a; cases b
  rename_i x y
  rw [ByteArray.mk.injEq]
  exact (beq_iff_eq (a := x) (b := y))
theorem eqCP_ok {P : Program} {t : TypeId} {x y : Value} {p : Prop} (h : eqCP P t x y = some p) : ∃ b, eqC P t x y = some b ∧ (b = true ↔ p) := by
  unfold eqCP at h
  unfold eqC
  split at h
  · rename_i hu
    split at h
    · rename_i e; cases h; subst e; simp only [hu, if_true]; exact ⟨_, rfl, by simp⟩
    · cases h
  · rename_i hu; cases h; simp only [hu]; first | exact ⟨_, rfl, ba_beq⟩ | exact ⟨_, rfl, beq_iff_eq⟩
  · rename_i hu; cases h; simp only [hu]; first | exact ⟨_, rfl, ba_beq⟩ | exact ⟨_, rfl, beq_iff_eq⟩
  · cases h
theorem eqFsP_ok {P : Program} {xs ys : Array Value} : ∀ {fs : List Field} {p : Prop}, eqFsP P xs ys fs = some p → ∃ b, eqFs P xs ys fs = some b ∧ (b = true ↔ p)
  | [], p, h => by cases h; exact ⟨true, rfl, by simp⟩
  | f :: fs, p, h => by
    simp only [eqFsP] at h
    split at h
    · cases h
    · rename_i hn
      split at h
      · rename_i x y hx hy
        split at h
        · rename_i q r hq hr
          cases h
          obtain ⟨b, b1, b2⟩ := eqCP_ok hq
          obtain ⟨c, c1, c2⟩ := eqFsP_ok hr
          refine ⟨b && c, ?_, by simp [b2, c2]⟩
          simp only [eqFs, if_neg hn, hx, hy, b1, c1]
        · cases h
      · cases h
def eqW (P : Program) (op : BinOp) (t : TypeId) (x y : Value) (K : Value → VC) : VC :=
  match op, x, y with
  | .eql, .agg a, .agg b => match eqTy P t with | some fs => (match eqFsP P a b fs with | some p => brW p K | none => .bad 1) | none => .bad 2
  | .neq, .agg a, .agg b => match eqTy P t with | some fs => (match eqFsP P a b fs with | some p => brN p K | none => .bad 3) | none => .bad 4
  | op, x, y => match eqF P op t x y with | some v => K v | none => .bad 5
theorem eqW_ok {P : Program} {op : BinOp} {t : TypeId} {x y : Value} {K : Value → VC} (h : (eqW P op t x y K).den) : ∃ v, eqF P op t x y = some v ∧ (K v).den := by
  unfold eqW at h
  split at h
  · split at h
    · rename_i fs hfs
      split at h
      · rename_i p hp
        obtain ⟨b, b1, b2⟩ := eqFsP_ok hp
        exact ⟨.bool b, by simp [eqF, hfs, b1], brW_ok h b2⟩
      · exact h.elim
    · exact h.elim
  · split at h
    · rename_i fs hfs
      split at h
      · rename_i p hp
        obtain ⟨b, b1, b2⟩ := eqFsP_ok hp
        refine ⟨.bool !b, by simp [eqF, hfs, b1], brN_ok h ?_⟩
        rw [← b2]
        cases b <;> simp
      · exact h.elim
    · exact h.elim
  · split at h
    · rename_i v hv
      exact ⟨v, hv, h⟩
    · exact h.elim
def binW (P : Program) (op : BinOp) (t : TypeId) (x y : Value) (ov : Bool) (K : Value → VC) : VC :=
  match x, y with
  | .int k a, .int k' b =>
    match op with
    | .shl => .must (0 ≤ b) (rngW ov k (shlI k a b) K)
    | .shr => .must (0 ≤ b) (K (.int k (shrI k a b)))
    | _ =>
    if k = k' then
      match op with
      | .add => rngW ov k (a + b) K
      | .sub => rngW ov k (a - b) K
      | .mul => rngW ov k (a * b) K
      | .quo => .must (b ≠ 0) (rngW ov k (a.tdiv b) K)
      | .rem => .must (b ≠ 0) (K (.int k (a.tmod b)))
      | .and => K (.int k (andI k a b))
      | .or => K (.int k (orI k a b))
      | .xor => K (.int k (xorI k a b))
      | .eql => brW (a = b) K
      | .neq => brN (a = b) K
      | .lss => brW (a < b) K
      | .leq => brW (a ≤ b) K
      | .gtr => brW (b < a) K
      | .geq => brW (b ≤ a) K
      | _ => .bad 6
    else .bad 7
  | .string a, .string b =>
    match op with
    | .add => .must (a.size + b.size ≤ 9223372036854775807) (K (.string (a ++ b)))
    | .eql => brW (a = b) K
    | .neq => brN (a = b) K
    | .lss => brW (strLt a b) K
    | .leq => brW (strLt a b ∨ a = b) K
    | .gtr => brN (strLt a b ∨ a = b) K
    | .geq => brN (strLt a b) K
    | _ => .bad 8
  | x, y => eqW P op t x y K
theorem bytes_beq {a b : ByteArray} : (a.toList == b.toList) = true ↔ a = b := by
  rw [beq_iff_eq]
  constructor
  · intro h
    rw [ByteArray.toList_eq, ByteArray.toList_eq] at h
    cases a; cases b
    simpa [Array.toList_inj] using h
  · rintro rfl; rfl
theorem binW_ok {P : Program} {op : BinOp} {t : TypeId} {x y : Value} {ov : Bool} {K : Value → VC} (h : (binW P op t x y ov K).den) : ∃ v, binV P op t x y = some v ∧ (K v).den := by
  have lift : ∀ {v : Value}, binF op x y = some v → (K v).den → ∃ v, binV P op t x y = some v ∧ (K v).den := fun {v} e hk => ⟨v, by simp [binV, e], hk⟩
  unfold binW at h
  split at h
  · rename_i k a k' b
    split at h
    · exact lift (by simp only [binF, if_neg (show ¬ b < 0 from Int.not_lt.2 h.1)] <;> rfl) (rngW_ok h.2)
    · exact lift (by simp only [binF, if_neg (show ¬ b < 0 from Int.not_lt.2 h.1)] <;> rfl) h.2
    · split at h
      · rename_i h1 h2 hk
        subst hk
        split at h
        · exact lift (by simp only [binF, if_true] <;> rfl) (rngW_ok h)
        · exact lift (by simp only [binF, if_true] <;> rfl) (rngW_ok h)
        · exact lift (by simp only [binF, if_true] <;> rfl) (rngW_ok h)
        · exact lift (by simp only [binF, if_true, if_neg h.1] <;> rfl) (rngW_ok h.2)
        · exact lift (by simp only [binF, if_true, if_neg h.1] <;> rfl) h.2
        · exact lift (by simp only [binF, if_true] <;> rfl) h
        · exact lift (by simp only [binF, if_true] <;> rfl) h
        · exact lift (by simp only [binF, if_true] <;> rfl) h
        · exact lift (by simp only [binF, if_true] <;> rfl) (brW_ok h (by simp))
        · exact lift (by simp only [binF, if_true] <;> rfl) (brN_ok h (by simp))
        · exact lift (by simp only [binF, if_true] <;> rfl) (brW_ok h (by simp))
        · exact lift (by simp only [binF, if_true] <;> rfl) (brW_ok h (by simp))
        · exact lift (by simp only [binF, if_true] <;> rfl) (brW_ok h (by simp))
        · exact lift (by simp only [binF, if_true] <;> rfl) (brW_ok h (by simp))
        · exact h.elim
      · exact h.elim
  · rename_i a b
    split at h
    · exact lift (by simp only [binF, if_pos h.1] <;> rfl) h.2
    · exact lift (by simp only [binF] <;> rfl) (brW_ok h bytes_beq)
    · exact lift (by simp only [binF] <;> rfl) (brN_ok h (by rw [Bool.not_eq_true', ← Bool.not_eq_true, bytes_beq]))
    · exact lift (by simp only [binF] <;> rfl) (brW_ok h Iff.rfl)
    · exact lift (by simp only [binF] <;> rfl) (brW_ok h (by rw [Bool.or_eq_true, bytes_beq]; rfl))
    · exact lift (by simp only [binF] <;> rfl) (brN_ok h (by rw [Bool.not_eq_true', ← Bool.not_eq_true, Bool.or_eq_true, bytes_beq]; rfl))
    · exact lift (by simp only [binF] <;> rfl) (brN_ok h (by rw [Bool.not_eq_true', ← Bool.not_eq_true]; rfl))
    · exact h.elim
  · rename_i hi hs
    obtain ⟨v, h1, h2⟩ := eqW_ok h
    refine ⟨v, ?_, h2⟩
    have : binF op x y = none := by
      unfold binF
      split
      · exact (hi _ _ _ _ rfl rfl).elim
      · exact (hs _ _ rfl rfl).elim
      · rfl
    simp [binV, this, h1]

/-! ### Elements of known kinds -/
inductive Kd where
  | i (k : IntKind)
  | s
  | b
def kindsT (P : Program) : Nat → TypeId → Option (List Kd)
  | 0, _ => none
  | d + 1, t => match P.underlying t with
    | some (.int k) => some [.i k]
    | some .string => some [.s]
    | some .bool => some [.b]
    | some (.struct fs) => fs.toList.foldr (fun f r => match kindsT P d f.type, r with | some a, some b => some (a ++ b) | _, _ => none) (some [])
    | _ => none
def tyEl : List Kd → List Value → Prop
  | [], [] => True
  | .i k :: r, .int k' n :: vs => k' = k ∧ inK k n ∧ tyEl r vs
  | .s :: r, .string _ :: vs => tyEl r vs
  | .b :: r, .bool _ :: vs => tyEl r vs
  | _, _ => False
/-- All elements are of these kinds. -/
def TR (ks : List Kd) (xs : List (List Value)) : Prop := ∀ el ∈ xs, tyEl ks el
def genEl : List Kd → (List Value → VC) → VC
  | [], K => K []
  | .i k :: r, K => .allI fun n => genEl r fun vs => K (.int k n :: vs)
  | .s :: r, K => .allS fun s => genEl r fun vs => K (.string s :: vs)
  | .b :: r, K => .and (genEl r fun vs => K (.bool true :: vs)) (genEl r fun vs => K (.bool false :: vs))
theorem genEl_ok : ∀ {ks : List Kd} {K : List Value → VC}, (genEl ks K).den → ∀ {el : List Value}, tyEl ks el → (K el).den
  | [], K, h, el, ht => by
    cases el with
    | nil => exact h
    | cons _ _ => exact ht.elim
  | .i k :: r, K, h, el, ht => by
    match el, ht with
    | .int k' n :: vs, ⟨e, _, ht'⟩ => subst e; exact genEl_ok (h n) ht'
  | .s :: r, K, h, el, ht => by
    match el, ht with
    | .string s :: vs, ht' => exact genEl_ok (h s) ht'
  | .b :: r, K, h, el, ht => by
    match el, ht with
    | .bool true :: vs, ht' => exact genEl_ok h.1 ht'
    | .bool false :: vs, ht' => exact genEl_ok h.2 ht'

/-! ### Contracts of calls -/
structure Ctr where
  ash : List VSh
  rsh : List VSh
  osh : List VSh
  pq : FnV ash (Prop × FnV (rsh ++ osh) Prop)
def resOk (c : Ctr) (q : FnV (c.rsh ++ c.osh) Prop) (r : Res) : Prop := r.1.length = c.rsh.length ∧ ∃ Q, appVs r.2.2 (c.rsh ++ c.osh) (r.1 ++ r.2.1) 0 q = some (Q, r.2.2.length) ∧ Q
/-- The contract is kept. -/
def Holds (P : Program) (md : Nat → List Bool) (g : Nat) (c : Ctr) : Prop :=
  ∀ ts bs pre q, appVs bs c.ash ts 0 c.pq = some ((pre, q), bs.length) → pre → ∃ r : Res, resOk c q r ∧ CallOk P (md g) g ts bs r.1 r.2.1 r.2.2
/-- Which results are bools that are not looked at yet (0: the whole; i + 1: one of more). -/
def marksI : Nat → List VSh → List Nat
  | _, [] => []
  | i, .one .sb :: r => i :: marksI (i + 1) r
  | i, _ :: r => marksI (i + 1) r
def marksR : List VSh → List Nat
  | [.one .sb] => [0]
  | [_] => []
  | l => marksI 1 l
def ctW : List (Nat × Ctr) → Nat → List V → List Blk → (List V → List V → List Blk → List Nat → VC) → VC
  | [], g, ts, bs, _ => .look g ts bs
  | x :: r, g, ts, bs, K => if x.1 = g then
      match appVs bs x.2.ash ts 0 x.2.pq with
      | some ((pre, q), c) => if c = bs.length then .must pre (genVs (x.2.rsh ++ x.2.osh) 0 q fun vs bs' _ Q => .imp Q (K (vs.take x.2.rsh.length) (vs.drop x.2.rsh.length) bs' (marksR x.2.rsh))) else ctW r g ts bs K
      | none => ctW r g ts bs K
    else ctW r g ts bs K
def postW : List (Nat × Ctr) → Nat → List V → List Blk → Res → Prop
  | [], _, _, _, _ => False
  | x :: r, g, ts, bs, s => if x.1 = g then
      match appVs bs x.2.ash ts 0 x.2.pq with
      | some ((pre, q), c) => if c = bs.length then resOk x.2 q s else postW r g ts bs s
      | none => postW r g ts bs s
    else postW r g ts bs s
theorem ctW_ok {P : Program} {md : Nat → List Bool} : ∀ {ct : List (Nat × Ctr)}, (∀ x ∈ ct, Holds P md x.1 x.2) → ∀ {g : Nat} {ts : List V} {bs : List Blk} {K : List V → List V → List Blk → List Nat → VC}, (ctW ct g ts bs K).den →
    ∃ r : Res, postW ct g ts bs r ∧ CallOk P (md g) g ts bs r.1 r.2.1 r.2.2
  | [], _, g, ts, bs, K, h => h.elim
  | x :: l, hct, g, ts, bs, K, h => by
    have ih := ctW_ok (ct := l) (fun y hy => hct y (List.mem_cons_of_mem _ hy)) (g := g) (ts := ts) (bs := bs) (K := K)
    simp only [ctW] at h
    split at h
    · rename_i e
      split at h
      · rename_i pre q c ha
        split at h
        · rename_i hc
          subst hc
          obtain ⟨r, r1, r2⟩ := hct x List.mem_cons_self ts bs pre q ha h.1
          exact ⟨r, by simp only [postW, if_pos e, ha, if_true]; exact r1, by rw [← e]; exact r2⟩
        · rename_i hc
          obtain ⟨r, r1, r2⟩ := ih h
          exact ⟨r, by simp only [postW, if_pos e, ha, if_neg hc]; exact r1, r2⟩
      · rename_i ha
        obtain ⟨r, r1, r2⟩ := ih h
        exact ⟨r, by simp only [postW, if_pos e, ha]; exact r1, r2⟩
    · rename_i e
      obtain ⟨r, r1, r2⟩ := ih h
      exact ⟨r, by simp only [postW, if_neg e]; exact r1, r2⟩
theorem take_drop_append {α : Type} (a b : List α) {n : Nat} (h : a.length = n) : (a ++ b).take n = a ∧ (a ++ b).drop n = b := by
  subst h
  simp
theorem ctW_post : ∀ {ct : List (Nat × Ctr)} {g : Nat} {ts : List V} {bs : List Blk} {K : List V → List V → List Blk → List Nat → VC}, (ctW ct g ts bs K).den → ∀ {r : Res}, postW ct g ts bs r → ∃ mk, (K r.1 r.2.1 r.2.2 mk).den
  | [], g, ts, bs, K, h, r, hp => h.elim
  | x :: l, g, ts, bs, K, h, r, hp => by
    simp only [ctW] at h
    simp only [postW] at hp
    split at h
    · rename_i e
      rw [if_pos e] at hp
      split at h
      · rename_i pre q c ha
        rw [ha] at hp
        simp only at hp
        split at h
        · rename_i hc
          rw [if_pos hc] at hp
          obtain ⟨r1, Q, r2, r3⟩ := hp
          obtain ⟨nb, k1, k2⟩ := genVs_ok h.2 r2
          simp only [List.drop_zero, List.drop_length, List.append_nil] at k2
          subst k2
          obtain ⟨e1, e2⟩ := take_drop_append r.1 r.2.1 r1
          have := k1 r3
          rw [e1, e2] at this
          exact ⟨_, this⟩
        · rename_i hc
          rw [if_neg hc] at hp
          exact ctW_post h hp
      · rename_i ha
        rw [ha] at hp
        exact ctW_post h hp
    · rename_i e
      rw [if_neg e] at hp
      exact ctW_post h hp
/-- The oracle of a list of contracts. -/
noncomputable def orcW (P : Program) (md : Nat → List Bool) (ct : List (Nat × Ctr)) : Orc := orcT P md fun g ts bs r => postW ct g (normA ts bs).1 (normA ts bs).2 r
theorem orcW_ok (P : Program) (md : Nat → List Bool) (ct : List (Nat × Ctr)) : OrcOk P md (orcW P md ct) := orcT_ok _ _ _
def callW (P : Program) (md : Nat → List Bool) (ct : List (Nat × Ctr)) (kf : Nat → Key) (m : Key → Option Blk) (g : Nat) (vs : List V) (K : Dl → List Nat → VC) : VC :=
  match packArgs m ⟨[], []⟩ (md g) vs with
  | (ts, p) => match normA ts p.bs with
    | (ts', bs') => ctW ct g ts' bs' fun rs os bs mk => match callF P md (fun _ _ _ => some (rs, os, bs)) kf m g vs with | some δ => K δ mk | none => .bad 10
theorem callW_ok {P : Program} {md : Nat → List Bool} {ct : List (Nat × Ctr)} (hct : ∀ x ∈ ct, Holds P md x.1 x.2) {kf : Nat → Key} {m : Key → Option Blk} {g : Nat} {vs : List V} {K : Dl → List Nat → VC} (h : (callW P md ct kf m g vs K).den) :
    ∃ δ mk, callF P md (orcW P md ct) kf m g vs = some δ ∧ (K δ mk).den := by
  unfold callW at h
  generalize hp : packArgs m ⟨[], []⟩ (md g) vs = q at h
  obtain ⟨ts, p⟩ := q
  simp only at h
  generalize hn : normA ts p.bs = q at h
  obtain ⟨ts', bs'⟩ := q
  simp only at h
  obtain ⟨r, r1, r2⟩ := ctW_ok hct h
  have hn1 : (normA ts p.bs).1 = ts' := by rw [hn]
  have hn2 : (normA ts p.bs).2 = bs' := by rw [hn]
  have hgood : Good P md (fun g ts bs r => postW ct g (normA ts bs).1 (normA ts bs).2 r) g ts p.bs := ⟨r, by show postW ct g (normA ts p.bs).1 (normA ts p.bs).2 r; rw [hn1, hn2]; exact r1, normA_ok (by rw [hn1, hn2]; exact r2)⟩
  obtain ⟨rs, os, bs2, o1, o2⟩ := orcT_of hgood
  rw [hn1, hn2] at o2
  obtain ⟨mk, hk⟩ := ctW_post h o2
  simp only at hk
  split at hk
  · rename_i δ hδ
    refine ⟨δ, mk, callF_of hδ ?_, hk⟩
    rw [hp]
    exact o1
  · exact hk.elim

/-! ### One operation -/
def musts : List Con → VC → VC
  | [], a => a
  | .p q :: r, a => .must q (musts r a)
  | .b x c :: r, a => .must (x = c) (musts r a)
  | _ :: _, _ => .bad 11
theorem musts_ok {orc : Orc} : ∀ {cs : List Con} {a : VC}, (musts cs a).den → (∀ c ∈ cs, c.holds orc) ∧ a.den
  | [], a, h => ⟨by simp, h⟩
  | .p q :: r, a, h => by
    obtain ⟨h1, h2⟩ := musts_ok (cs := r) h.2
    refine ⟨fun c hc => ?_, h2⟩
    rw [List.mem_cons] at hc
    rcases hc with rfl | hc
    · exact h.1
    · exact h1 c hc
  | .b x c0 :: r, a, h => by
    obtain ⟨h1, h2⟩ := musts_ok (cs := r) h.2
    refine ⟨fun c hc => ?_, h2⟩
    rw [List.mem_cons] at hc
    rcases hc with rfl | hc
    · exact h.1
    · exact h1 c hc
  | .elem _ _ _ :: _, _, h => h.elim
  | .byte _ _ _ :: _, _, h => h.elim
  | .str _ _ :: _, _, h => h.elim
  | .call _ _ _ _ :: _, _, h => h.elim
def restW (P : Program) (md : Nat → List Bool) (i : Nat) (o : Oper) (st : St) (K : Dl → VC) : VC :=
  match stepG P md i o st {} with
  | some (δ, _, cs) => musts cs (K δ)
  | none => .bad (1000 + i)
def stepW (P : Program) (md : Nat → List Bool) (ct : List (Nat × Ctr)) (ov : Bool) (i : Nat) (o : Oper) (st : St) (KK : Dl → List Nat → VC) : VC :=
  let K : Dl → VC := fun δ => KK δ []
  match o.op with
  | .binOp op t x y _ => match evF st x, evF st y with
    | some a, some b => binW P op t a b ov fun v => K ⟨.v (.one (.s v)), []⟩
    | _, _ => .bad 100
  | .unOp op t x => match op, evF st x with
    | .neg, some (.int k n) => rngW ov k (0 - n) fun v => K ⟨.v (.one (.s v)), []⟩
    | _, _ => restW P md i o st K
  | .load t x => match evL st x with
    | some (.ep k j off) => match st.m k with
      | some (.row _ e xs) => match kindsT P 6 e with
        | some ks => .must (TR ks xs ∧ j < xs.length) (genEl ks fun el => .imp (xs[j]? = some el) (match readCells P t off (el.map .s) with | some v => K (giveD P (st.key i) (some t) (.v v)) | none => .bad 101))
        | none => .bad 102
      | _ => .bad 103
    | _ => restW P md i o st K
  | .store t x y => match evL st x, evV st y with
    | some (.ep k j off), some v => match st.m k, v.leaves.mapM L.cv with
      | some (.row ow e xs), some ys => match kindsT P 6 e with
        | some ks => .must (TR ks xs ∧ j < xs.length) (genEl ks fun el => .imp (xs[j]? = some el) (
            if (szOf P t = some v.leaves.length ∧ aggT P t = some v.isAgg ∧ v.leaves.all L.cellOk = true) ∧ ow.w = true ∧ off + ys.length ≤ el.length then K ⟨.v (.one (.s undef)), [(k, some (.row ow e (xs.set j (splice el off ys))))]⟩ else .bad 104))
        | none => .bad 105
      | _, _ => .bad 106
    | _, _ => restW P md i o st K
  | .index t x j => match evF st x, evI st j with
    | some (.string s), some n => if isStr P t = true then .must (0 ≤ n ∧ n < s.size) (K ⟨.v (.one (.s (.int .u8 (byteAt s n)))), []⟩) else .bad 107
    | _, _ => .bad 108
  | .convert src dst x => match evL st x with
    | some (.s (.int k n)) => match intT P src, intT P dst with
      | some _, some k' => rngW ov k' n fun v => K ⟨.v (.one (.s v)), []⟩
      | _, _ => .bad 109
    | some l => if isStr P dst = true then
        match (elemT P src).bind (intT P), rowG st.m l with
        | some .u8, some (xs, cs) => musts cs (.must (bytesOk xs) (K ⟨.v (.one (.s (.string (rowStr xs)))), []⟩))
        | _, _ => restW P md i o st K
      else restW P md i o st K
    | none => .bad 110
  | .call c => match c.callee with
    | .value x => match evL st x, evVs st c.args.toList with
      | some (.fn g caps), some vs => callW P md ct (st.key i) st.m g (vs ++ caps.map .one) KK
      | _, _ => .bad 111
    | _ => restW P md i o st K
  | _ => restW P md i o st K
theorem restW_ok {P : Program} {md : Nat → List Bool} {orc : Orc} {i : Nat} {o : Oper} {st : St} {K : Dl → VC} (h : (restW P md i o st K).den) : ∃ δ, step P md orc i o st = some δ ∧ (K δ).den := by
  unfold restW at h
  split at h
  · rename_i δ s cs hs
    obtain ⟨h1, h2⟩ := musts_ok (orc := orc) h
    exact ⟨δ, stepG_ok hs h1, h2⟩
  · exact h.elim
theorem stepW_ok {P : Program} {md : Nat → List Bool} {ct : List (Nat × Ctr)} (hct : ∀ x ∈ ct, Holds P md x.1 x.2) {ov : Bool} {i : Nat} {o : Oper} {st : St} {KK : Dl → List Nat → VC} (h : (stepW P md ct ov i o st KK).den) :
    ∃ δ mk, step P md (orcW P md ct) i o st = some δ ∧ (KK δ mk).den := by
  have lift0 : (∃ δ, step P md (orcW P md ct) i o st = some δ ∧ (KK δ []).den) → ∃ δ mk, step P md (orcW P md ct) i o st = some δ ∧ (KK δ mk).den := fun ⟨δ, a, b⟩ => ⟨δ, [], a, b⟩
  have viaT : ∀ {x : T} (g : Option TypeId), giveTy o = g → stepT P o st = some x → (KK (giveD P (st.key i) g x) []).den → ∃ δ mk, step P md (orcW P md ct) i o st = some δ ∧ (KK δ mk).den := by
    intro x g hg hx hk
    exact ⟨_, [], by unfold step; rw [hx], by rw [hg]; exact hk⟩
  unfold stepW at h
  simp only at h
  split at h
  · rename_i op t x y pp heq
    split at h
    · rename_i a b h1 h2
      obtain ⟨v, v1, v2⟩ := binW_ok h
      refine viaT (x := .v (.one (.s v))) none (by simp [giveTy, heq]) ?_ v2
      unfold binV at v1
      simp only [stepT, heq, h1, h2]
      split at v1
      · rename_i u hu; cases v1; rw [hu]; rfl
      · rename_i hu; rw [hu, v1]; rfl
    · exact h.elim
  · rename_i op t x heq
    split at h
    · rename_i k n h1
      refine viaT (x := .v (.one (.s (.int k (k.wrap (0 - n)))))) none (by simp [giveTy, heq]) ?_ (rngW_ok h)
      simp only [stepT, heq, h1, unF]
      rfl
    · exact lift0 (restW_ok h)
  · rename_i t x heq
    split at h
    · rename_i k j off h1
      split at h
      · rename_i ow e xs hm
        split at h
        · rename_i ks hks
          obtain ⟨⟨t1, t2⟩, h⟩ := h
          have hx : xs[j]? = some xs[j] := List.getElem?_eq_getElem t2
          have h := genEl_ok h (t1 _ (List.getElem_mem t2)) hx
          split at h
          · rename_i v hv
            refine viaT (x := .v v) (some t) (by simp [giveTy, heq]) ?_ h
            simp only [stepT, heq, h1, loadV, hm, hx, hv]
          · exact h.elim
        · exact h.elim
      · exact h.elim
    · exact lift0 (restW_ok h)
  · rename_i t x y heq
    split at h
    · rename_i k j off v h1 h2
      split at h
      · rename_i ow e xs ys hm hys
        split at h
        · rename_i ks hks
          obtain ⟨⟨t1, t2⟩, h⟩ := h
          have hx : xs[j]? = some xs[j] := List.getElem?_eq_getElem t2
          have h := genEl_ok h (t1 _ (List.getElem_mem t2)) hx
          split at h
          · rename_i hc
            obtain ⟨c1, c2⟩ := hc
            have hM : stepM P md (orcW P md ct) (st.key i) o st = some ⟨.v (.one (.s undef)), [(k, some (.row ow e (xs.set j (splice xs[j] off ys))))]⟩ := by
              simp only [stepM, heq, h1, h2, storeV, hm, hys, hx]
              rw [if_pos c1, if_pos c2]
            refine ⟨_, [], ?_, h⟩
            unfold step
            rw [stepM_T hM]
            exact hM
          · exact h.elim
        · exact h.elim
      · exact h.elim
    · exact lift0 (restW_ok h)
  · rename_i t x j heq
    split at h
    · rename_i s n h1 h2
      split at h
      · rename_i hs
        obtain ⟨⟨c1, c2⟩, h⟩ := h
        have hlt : n.toNat < s.size := by omega
        have hb : s[n.toNat]? = some s[n.toNat] := by simp [hlt]
        refine viaT (x := .v (.one (.s (.int .u8 (byteAt s n))))) none (by simp [giveTy, heq]) ?_ h
        simp only [stepT, heq, h1, h2]
        rw [if_pos ⟨hs, c1⟩, hb]
        simp only [byteAt, hb]
        rfl
      · exact h.elim
    · exact h.elim
  · rename_i src dst x heq
    split at h
    · rename_i k n h1
      split at h
      · rename_i k1 k' h2 h3
        refine viaT (x := .v (.one (.s (.int k' (k'.wrap n))))) none (by simp [giveTy, heq]) ?_ (rngW_ok h)
        simp only [stepT, heq, h1, h2, h3]
        rfl
      · exact h.elim
    · rename_i l hne h1
      split at h
      · rename_i hs
        split at h
        · rename_i xs cs h2 h3
          obtain ⟨m1, m2, m3⟩ := musts_ok (orc := orcW P md ct) h
          have hr := rowG_ok h3 m1
          cases hso : strOf xs with
          | none => unfold bytesOk at m2; rw [hso] at m2; cases m2
          | some bs =>
            refine viaT (x := .v (.one (.s (.string ⟨bs.toArray⟩)))) none (by simp [giveTy, heq]) ?_ (by have m4 := m3; rw [show rowStr xs = ⟨bs.toArray⟩ by simp only [rowStr, hso]] at m4; exact m4)
            simp only [stepT, heq, h1]
            rw [if_pos hs, h2, hr]
            simp only [Option.bind_some, hso]
            rfl
        · exact lift0 (restW_ok h)
      · exact lift0 (restW_ok h)
    · exact h.elim
  · rename_i c heq
    split at h
    · rename_i x hcal
      split at h
      · rename_i g caps vs h1 h2
        obtain ⟨δ, mk, d1, d2⟩ := callW_ok hct h
        have hM : stepM P md (orcW P md ct) (st.key i) o st = some δ := by simp only [stepM, heq, hcal, h1, h2, d1]
        refine ⟨δ, mk, ?_, d2⟩
        unfold step
        rw [stepM_T hM]
        exact hM
      · exact h.elim
    · exact lift0 (restW_ok h)
  · exact lift0 (restW_ok h)
end Go.Proofs.Ytefofjpjbogilaa.M
