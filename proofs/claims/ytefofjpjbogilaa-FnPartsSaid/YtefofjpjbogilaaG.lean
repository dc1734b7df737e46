/- The guided executor: a script tells how the symbolic conditions come out; constraints come back. -/
import Derived.Test.YtefofjpjbogilaaEv
namespace Go.Proofs.Ytefofjpjbogilaa.M
set_option linter.unusedVariables false
set_option linter.unusedSimpArgs false
set_option linter.unusedSectionVars false

/-- What must hold for the guided run to be the run. -/
inductive Con where
  | b (x c : Bool)
  | p (q : Prop)
  | elem (xs : List (List Value)) (i : Nat) (el : List Value)
  | byte (s : ByteArray) (i : Nat) (x : UInt8)
  | str (xs : List (List Value)) (bs : List UInt8)
  | call (g : Nat) (ts : List V) (bs : List Blk) (r : Res)
def Con.holds (orc : Orc) : Con → Prop
  | .b x c => x = c
  | .p q => q
  | .elem xs i el => xs[i]? = some el
  | .byte s i x => s[i]? = some x
  | .str xs bs => strOf xs = some bs
  | .call g ts bs r => orc g ts bs = some r
/-- The script: how comparisons come out; elements, bytes and strings that are read; what calls give back. -/
structure Scr where
  bools : List Bool := []
  els : List (List Value) := []
  bytes : List UInt8 := []
  strs : List (List UInt8) := []
  rets : List Res := []
abbrev G (α : Type) := Option (α × Scr × List Con)
def dec (p : Prop) : Con := .p p
theorem decH {p : Prop} {orc : Orc} (h : (dec p).holds orc) : p := h
/-- Loads, with the element out of the script. -/
def loadG (P : Program) (m : Key → Option Blk) (t : TypeId) (sc : Scr) : L → G V
  | .p k off => (loadV P m t (.p k off)).map fun v => (v, sc, [])
  | .ep k i off =>
    match m k with
    | some (.row _ _ xs) =>
      match sc.els with
      | el :: r => (readCells P t off (el.map .s)).map fun v => (v, { sc with els := r }, [.elem xs i el])
      | [] => none
    | _ => none
  | _ => none
theorem loadG_ok {P : Program} {m : Key → Option Blk} {t : TypeId} {sc sc' : Scr} {l : L} {v : V} {cs : List Con} {orc : Orc} (h : loadG P m t sc l = some (v, sc', cs)) (hc : ∀ c ∈ cs, c.holds orc) : loadV P m t l = some v := by
  unfold loadG at h
  split at h
  · rw [Option.map_eq_some_iff] at h
    obtain ⟨v', h1, h2⟩ := h
    cases h2
    exact h1
  · rename_i k i off
    split at h
    · rename_i o e xs hm
      split at h
      · rename_i el r hs
        rw [Option.map_eq_some_iff] at h
        obtain ⟨v', h1, h2⟩ := h
        cases h2
        have hx : xs[i]? = some el := hc _ List.mem_cons_self
        simp only [loadV, hm, hx]
        exact h1
      · cases h
    · cases h
  · cases h
/-- A slice's row, its bounds to be shown. -/
def rowG (m : Key → Option Blk) : L → Option (List (List Value) × List Con)
  | .sub k lo n => match m k with | some (.row _ _ xs) => some ((xs.drop lo).take n, [dec (lo + n ≤ xs.length)]) | _ => none
  | l => (rowOf m l).map fun r => (r, [])
theorem rowG_ok {m : Key → Option Blk} {l : L} {r : List (List Value)} {cs : List Con} {orc : Orc} (h : rowG m l = some (r, cs)) (hc : ∀ c ∈ cs, c.holds orc) : rowOf m l = some r := by
  unfold rowG at h
  split at h
  · rename_i k lo n
    split at h
    · rename_i o e xs hm
      cases h
      have hd := decH (hc _ List.mem_cons_self)
      simp only [rowOf, hm]
      rw [if_pos (hd)]
    · cases h
  · rw [Option.map_eq_some_iff] at h
    obtain ⟨v, h1, h2⟩ := h
    cases h2
    exact h1
def srcG (P : Program) (m : Key → Option Blk) (e t2 : TypeId) : L → Option (List (List Value) × List Con)
  | .s (.string z) => if isStr P t2 = true ∧ szOf P e = some 1 then some (byteRow z, [dec (z.size ≤ maxLen)]) else none
  | .sub k lo n => match m k with | some (.row _ e' xs) => if e' = e ∧ elemT P t2 = some e then some ((xs.drop lo).take n, [dec (lo + n ≤ xs.length)]) else none | _ => none
  | l => (srcOf P m e t2 l).map fun r => (r, [])
theorem srcG_ok {P : Program} {m : Key → Option Blk} {e t2 : TypeId} {l : L} {r : List (List Value)} {cs : List Con} {orc : Orc} (h : srcG P m e t2 l = some (r, cs)) (hc : ∀ c ∈ cs, c.holds orc) : srcOf P m e t2 l = some r := by
  unfold srcG at h
  split at h
  · rename_i z
    split at h
    · rename_i hs
      cases h
      have hd := decH (hc _ List.mem_cons_self)
      simp only [srcOf]
      rw [if_pos ⟨hs.1, hs.2, hd⟩]
    · cases h
  · rename_i k lo n
    split at h
    · rename_i o e' xs hm
      split at h
      · rename_i hs
        cases h
        have hd := decH (hc _ List.mem_cons_self)
        simp only [srcOf, hm]
        rw [if_pos ⟨hs.1, hs.2, hd⟩]
      · cases h
    · cases h
  · rw [Option.map_eq_some_iff] at h
    obtain ⟨v, h1, h2⟩ := h
    cases h2
    exact h1
/-- Two numbers or strings. -/
def binG (P : Program) (op : BinOp) (t : TypeId) (x y : Value) (sc : Scr) : G Value :=
  let boolG (v : Value) : G Value := match v with
    | .bool p => match sc.bools with | c :: r => some (.bool c, { sc with bools := r }, [.b p c]) | [] => none
    | v => some (v, sc, [])
  match op, x, y with
  | .add, .string a, .string b => some (.string (a ++ b), sc, [dec (a.size + b.size ≤ 9223372036854775807)])
  | .quo, .int k a, .int k' b => if k = k' then some (.int k (k.wrap (a.tdiv b)), sc, [dec (¬ b = 0)]) else none
  | .rem, .int k a, .int k' b => if k = k' then some (.int k (a.tmod b), sc, [dec (¬ b = 0)]) else none
  | op, x, y => match binF op x y with
    | some v => boolG v
    | none => match eqF P op t x y with | some v => boolG v | none => none
def binV (P : Program) (op : BinOp) (t : TypeId) (x y : Value) : Option Value := match binF op x y with | some v => some v | none => eqF P op t x y
theorem binG_ok {P : Program} {op : BinOp} {t : TypeId} {x y v : Value} {sc sc' : Scr} {cs : List Con} {orc : Orc} (h : binG P op t x y sc = some (v, sc', cs)) (hc : ∀ c ∈ cs, c.holds orc) : binV P op t x y = some v := by
  have boolOk : ∀ {u : Value}, (match u with
      | .bool p => match sc.bools with | c :: r => some ((.bool c : Value), { sc with bools := r }, [Con.b p c]) | [] => none
      | u => some (u, sc, [])) = some (v, sc', cs) → u = v := by
    intro u h
    split at h
    · split at h
      · cases h
        have : _ = _ := hc _ List.mem_cons_self
        rw [this]
      · cases h
    · cases h; rfl
  unfold binG at h
  simp only at h
  unfold binV
  split at h
  · rename_i a b
    cases h
    have := decH (hc _ List.mem_cons_self)
    simp only [binF, if_pos (this)]
  · rename_i k a k' b
    split at h
    · rename_i hk
      cases h
      have := decH (hc _ List.mem_cons_self)
      simp only [binF, if_pos hk, if_neg (this)]
    · cases h
  · rename_i k a k' b
    split at h
    · rename_i hk
      cases h
      have := decH (hc _ List.mem_cons_self)
      simp only [binF, if_pos hk, if_neg (this)]
    · cases h
  · split at h
    · rename_i u hu
      exact congrArg some (boolOk h)
    · rename_i hu
      split at h
      · rename_i u hu2
        rw [hu2]
        exact congrArg some (boolOk h)
      · cases h

def evHiI (st : St) (x : Option Operand) (d : Nat) : Option Int := match x with | some h => evI st h | none => some d
/-- The value operations, guided. -/
def stepTG (P : Program) (o : Oper) (st : St) (sc : Scr) : G T :=
  let one (l : L) (cs : List Con) : G T := some (.v (.one l), sc, cs)
  match o.op with
  | .binOp op t x y _ => match evF st x, evF st y with
    | some a, some b => (binG P op t a b sc).map fun r => (.v (.one (.s r.1)), r.2.1, r.2.2)
    | _, _ => none
  | .load t x => match evL st x with
    | some l => (loadG P st.m t sc l).map fun r => (.v r.1, r.2.1, r.2.2)
    | none => none
  | .indexAddr t x i => if (elemT P t).isSome = true then match evL st x, evI st i with
    | some (.sl k), some n => match st.m k with | some (.row _ e xs) => if elemT P t = some e then one (.ep k n.toNat 0) [dec (0 ≤ n ∧ n < xs.length)] else none | _ => none
    | some (.sub k lo len), some n => match st.m k with | some (.row _ e xs) => if elemT P t = some e then one (.ep k (lo + n.toNat) 0) [dec (0 ≤ n ∧ n < len)] else none | _ => none
    | _, _ => none else none
  | .index t x i => match evF st x, evI st i with
    | some (.string s), some n => if isStr P t = true then match sc.bytes with
      | b :: r => some (.v (.one (.s (.int .u8 b.toNat))), { sc with bytes := r }, [dec (0 ≤ n), .byte s n.toNat b])
      | [] => none else none
    | _, _ => none
  | .slice t x lo hi none => match evL st x, evI st (lo.getD (.const (.int .i64 0))) with
    | some (.s (.string s)), some l => match evHiI st hi s.size with
      | some h => if isStr P t = true then one (.s (.string (s.extract l.toNat h.toNat))) [dec (0 ≤ l ∧ l ≤ h ∧ h ≤ s.size)] else none
      | none => none
    | some (.sl k), some l => match st.m k with
      | some (.row _ e xs) => match evHiI st hi xs.length with
        | some h => if elemT P t = some e then one (.sub k l.toNat (h.toNat - l.toNat)) [dec (0 ≤ l ∧ l ≤ h ∧ h ≤ xs.length)] else none
        | none => none
      | _ => none
    | some (.sub k l0 len), some l => match st.m k with
      | some (.row _ e _) => match evHiI st hi len with
        | some h => if elemT P t = some e then one (.sub k (l0 + l.toNat) (h.toNat - l.toNat)) [dec (0 ≤ l ∧ l ≤ h ∧ h ≤ len)] else none
        | none => none
      | _ => none
    | _, _ => none
  | .convert src dst x => match evL st x with
    | some (.s (.int k n)) => match intT P src, intT P dst with | some _, some k' => one (.s (.int k' (k'.wrap n))) [] | _, _ => none
    | some l =>
      if isStr P dst = true then
        match (elemT P src).bind (intT P), rowG st.m l with
        | some .u8, some (xs, cs) => match sc.strs with
          | bs :: r => some (.v (.one (.s (.string ⟨bs.toArray⟩))), { sc with strs := r }, .str xs bs :: cs)
          | [] => none
        | _, _ => none
      else none
    | none => none
  | _ => (stepT P o st).map fun x => (x, sc, [])
theorem evO_of {st : St} {lo : Option Operand} {l : Int} (h : evI st (lo.getD (.const (.int .i64 0))) = some l) (h0 : 0 ≤ l) : evO st lo = some l.toNat := by
  cases lo with
  | none => cases h; rfl
  | some x =>
    have h' : evI st x = some l := h
    show evN st x = some l.toNat
    unfold evN
    rw [h']
    simp only [if_pos h0]
theorem evHi_of {st : St} {hi : Option Operand} {d : Nat} {h : Int} (hh : evHiI st hi d = some h) (h0 : 0 ≤ h) : evHi st hi d = some h.toNat := by
  cases hi with
  | none => cases hh; rfl
  | some x =>
    have h' : evI st x = some h := hh
    show evN st x = some h.toNat
    unfold evN
    rw [h']
    simp only [if_pos h0]
theorem stepTG_ok {P : Program} {o : Oper} {st : St} {sc sc' : Scr} {x : T} {cs : List Con} {orc : Orc} (h : stepTG P o st sc = some (x, sc', cs)) (hc : ∀ c ∈ cs, c.holds orc) : stepT P o st = some x := by
  unfold stepTG at h
  simp only at h
  split at h
  · rename_i op t p q pp heq
    split at h
    · rename_i a b h1 h2
      rw [Option.map_eq_some_iff] at h
      obtain ⟨⟨v, s1, c1⟩, h3, h4⟩ := h
      cases h4
      have := binG_ok h3 hc
      unfold binV at this
      simp only [stepT, heq, h1, h2]
      split at this
      · rename_i u hu
        cases this
        rw [hu]
        rfl
      · rename_i hu
        rw [hu, this]
        rfl
    · cases h
  · rename_i t p heq
    split at h
    · rename_i l h1
      rw [Option.map_eq_some_iff] at h
      obtain ⟨⟨v, s1, c1⟩, h3, h4⟩ := h
      cases h4
      simp only [stepT, heq, h1, loadG_ok h3 hc]
    · cases h
  · rename_i t p q heq
    split at h
    · rename_i hel
      split at h
      · rename_i k n h1 h2
        split at h
        · rename_i o' e xs hm
          split at h
          · rename_i he
            cases h
            have hd := decH (hc _ List.mem_cons_self)
            simp only [stepT, heq, h1, h2, hm]
            rw [if_pos hel, if_pos ⟨hd.1, hd.2, he⟩]
            rfl
          · cases h
        · cases h
      · rename_i k lo len n h1 h2
        split at h
        · rename_i o' e xs hm
          split at h
          · rename_i he
            cases h
            have hd := decH (hc _ List.mem_cons_self)
            simp only [stepT, heq, h1, h2, hm]
            rw [if_pos hel, if_pos ⟨hd.1, hd.2, he⟩]
            rfl
          · cases h
        · cases h
      · cases h
    · cases h
  · rename_i t p q heq
    split at h
    · rename_i s n h1 h2
      split at h
      · rename_i hs
        split at h
        · rename_i b r hb
          cases h
          have hd := decH (hc _ List.mem_cons_self)
          have hx : s[n.toNat]? = some b := hc _ (List.mem_cons_of_mem _ List.mem_cons_self)
          simp only [stepT, heq, h1, h2]
          rw [if_pos ⟨hs, hd⟩, hx]
          rfl
        · cases h
      · cases h
    · cases h
  · rename_i t p lo hi heq
    split at h
    · rename_i s l h1 h2
      split at h
      · rename_i hh h3
        split at h
        · rename_i hs
          cases h
          have hd := decH (hc _ List.mem_cons_self)
          simp only [stepT, heq, h1, evO_of h2 hd.1, evHi_of h3 (by omega)]
          rw [if_pos ⟨hs, by omega, by omega⟩]
          rfl
        · cases h
      · cases h
    · rename_i k l h1 h2
      split at h
      · rename_i o' e xs hm
        split at h
        · rename_i hh h3
          split at h
          · rename_i he
            cases h
            have hd := decH (hc _ List.mem_cons_self)
            simp only [stepT, heq, h1, evO_of h2 hd.1, hm, evHi_of h3 (by omega)]
            rw [if_pos ⟨he, by omega, by omega⟩]
            rfl
          · cases h
        · cases h
      · cases h
    · rename_i k l0 len l h1 h2
      split at h
      · rename_i o' e xs hm
        split at h
        · rename_i hh h3
          split at h
          · rename_i he
            cases h
            have hd := decH (hc _ List.mem_cons_self)
            simp only [stepT, heq, h1, evO_of h2 hd.1, hm, evHi_of h3 (by omega)]
            rw [if_pos ⟨he, by omega, by omega⟩]
            rfl
          · cases h
        · cases h
      · cases h
    · cases h
  · rename_i src dst p heq
    split at h
    · rename_i k n h1
      split at h
      · rename_i k1 k' h2 h3
        cases h
        simp only [stepT, heq, h1, h2, h3]
        rfl
      · cases h
    · rename_i l hne h1
      split at h
      · rename_i hs
        split at h
        · rename_i xs c0 h2 h3
          split at h
          · rename_i bs r hb
            cases h
            have hx : strOf xs = some bs := hc _ List.mem_cons_self
            simp only [stepT, heq, h1]
            rw [if_pos hs, h2, rowG_ok h3 fun c hm => hc c (List.mem_cons_of_mem _ hm)]
            simp only [Option.bind_some, hx]
            rfl
          · cases h
        · cases h
      · cases h
    · cases h
  · rw [Option.map_eq_some_iff] at h
    obtain ⟨v, h3, h4⟩ := h
    cases h4
    exact h3

theorem callF_of {P : Program} {md : Nat → List Bool} {orc : Orc} {kf : Nat → Key} {m : Key → Option Blk} {g : Nat} {vs : List V} {r : Res} {δ : Dl} (h : callF P md (fun _ _ _ => some r) kf m g vs = some δ)
    (ho : orc g (packArgs m ⟨[], []⟩ (md g) vs).1 (packArgs m ⟨[], []⟩ (md g) vs).2.bs = some r) : callF P md orc kf m g vs = some δ := by
  unfold callF at h ⊢
  split at h
  · rename_i hc
    rw [if_pos hc]
    split at h
    rename_i ts p hp
    rw [hp] at ho
    simp only at ho h ⊢
    rw [ho]
    exact h
  · cases h
/-- The memory operations, guided. -/
def stepMG (P : Program) (md : Nat → List Bool) (kf : Nat → Key) (o : Oper) (st : St) (sc : Scr) : G Dl :=
  let no : Orc := fun _ _ _ => none
  match o.op with
  | .alloc _ | .box _ _ | .buildSlice _ _ _ => (stepM P md no kf o st).map fun δ => (δ, sc, [])
  | .store t x y => match evL st x, evV st y with
    | some (.p k off), some v => (storeV P st.m t (.p k off) v).map fun r => (⟨.v (.one (.s undef)), [(r.1, some r.2)]⟩, sc, [])
    | some (.ep k i off), some v =>
      if szOf P t = some v.leaves.length ∧ aggT P t = some v.isAgg ∧ v.leaves.all L.cellOk = true then
        match st.m k with
        | some (.row ow e xs) => match v.leaves.mapM L.cv with
          | some ys => match sc.els with
            | el :: r => if ow.w = true ∧ off + ys.length ≤ el.length then some (⟨.v (.one (.s undef)), [(k, some (.row ow e (xs.set i (splice el off ys))))]⟩, { sc with els := r }, [.elem xs i el]) else none
            | [] => none
          | none => none
        | _ => none
      else none
    | _, _ => none
  | .makeSlice t l c => match elemT P t, evI st l, evI st c with
    | some e, some n, some n' => match szOf P e, zeroT P e, bytesOf P e with
      | some sz, some z, some by_ => if 0 < sz ∧ z.length = sz then
          some (⟨.v (.one (.sl (kf 0))), [(kf 0, some (.row .own e (List.replicate n.toNat z)))]⟩, sc, [dec (n = n' ∧ 0 ≤ n ∧ by_ * n ≤ 140737488355328 ∧ n ≤ 140737488355328)]) else none
      | _, _, _ => none
    | _, _, _ => none
  | .convert src dst x => match evL st x with
    | some (.s (.string s)) => match elemT P dst, (elemT P dst).bind (intT P) with
      | some e, some .u8 => if isStr P src = true ∧ szOf P e = some 1 then some (⟨.v (.one (.sl (kf 0))), [(kf 0, some (.row .frz e (byteRow s)))]⟩, sc, [dec (s.size ≤ 140737488355328)]) else none
      | _, _ => none
    | some (.sl _) => (stepM P md no kf o st).map fun δ => (δ, sc, [])
    | _ => none
  | .call c => match c.callee with
    | .value x => match evL st x, evVs st c.args.toList with
      | some (.fn g caps), some vs => match sc.rets with
        | r :: rs =>
          let q := packArgs st.m ⟨[], []⟩ (md g) (vs ++ caps.map .one)
          (callF P md (fun _ _ _ => some r) kf st.m g (vs ++ caps.map .one)).map fun δ => (δ, { sc with rets := rs }, [.call g q.1 q.2.bs r])
        | [] => none
      | _, _ => none
    | .builtin .append => match c.args.toList, c.argTypes.toList with
      | [s, x], [t, t2] => match evL st s, evL st x, elemT P t, (elemT P t).bind (bytesOf P) with
        | some (.sl k), some y, some e, some by_ => match st.m k, srcG P st.m e t2 y with
          | some (.row ow e' xs), some (ys, cs) =>
            if e' = e ∧ (zeroT P e).map List.length = szOf P e then
              if ow.w = true then
                some (⟨.v (.one (.sl (kf 0))), [(k, none), (kf 0, some (.row .own e (xs ++ ys)))]⟩, sc, dec ((xs.length + ys.length) * by_ ≤ 140737488355328 ∧ xs.length + ys.length ≤ 140737488355328) :: cs)
              else if ow = .fix then
                some (⟨.v (.one (.sl (kf 0))), [(k, none), (kf 0, some (.row .own e (xs ++ ys)))]⟩, sc, dec ((xs.length + ys.length) * by_ ≤ 140737488355328 ∧ xs.length + ys.length ≤ 140737488355328) :: dec (ys ≠ []) :: cs)
              else none
            else none
          | _, _ => none
        | _, _, _, _ => none
      | _, _ => none
    | _ => none
  | _ => none

theorem stepMG_ok {P : Program} {md : Nat → List Bool} {kf : Nat → Key} {o : Oper} {st : St} {sc sc' : Scr} {δ : Dl} {cs : List Con} {orc : Orc} (h : stepMG P md kf o st sc = some (δ, sc', cs)) (hc : ∀ c ∈ cs, c.holds orc) : stepM P md orc kf o st = some δ := by
  unfold stepMG at h
  simp only at h
  split at h
  · rename_i t heq
    rw [Option.map_eq_some_iff] at h
    obtain ⟨v, h1, h2⟩ := h
    cases h2
    simpa only [stepM, heq] using h1
  · rename_i t x heq
    rw [Option.map_eq_some_iff] at h
    obtain ⟨v, h1, h2⟩ := h
    cases h2
    simpa only [stepM, heq] using h1
  · rename_i t n ps heq
    rw [Option.map_eq_some_iff] at h
    obtain ⟨v, h1, h2⟩ := h
    cases h2
    simpa only [stepM, heq] using h1
  · rename_i t x y heq
    split at h
    · rename_i k off v h1 h2
      rw [Option.map_eq_some_iff] at h
      obtain ⟨⟨k', b⟩, h3, h4⟩ := h
      cases h4
      simp only [stepM, heq, h1, h2, h3]
    · rename_i k i off v h1 h2
      split at h
      · rename_i hcond
        split at h
        · rename_i ow e xs hm
          split at h
          · rename_i ys hys
            split at h
            · rename_i el r hr
              split at h
              · rename_i hw
                cases h
                have hx : xs[i]? = some el := hc _ List.mem_cons_self
                simp only [stepM, heq, h1, h2, storeV, hm, hys, hx]
                rw [if_pos hcond, if_pos hw]
              · cases h
            · cases h
          · cases h
        · cases h
      · cases h
    · cases h
  · rename_i t l c heq
    split at h
    · rename_i e n n' h1 h2 h3
      split at h
      · rename_i sz z by_ h4 h5 h6
        split at h
        · rename_i hz
          cases h
          have hd := decH (hc _ List.mem_cons_self)
          simp only [stepM, heq, h1, h2, h3, h4, h5, h6]
          rw [if_pos ⟨hd.1, hd.2.1, hd.2.2.1, hd.2.2.2, hz.1, hz.2⟩]
          rfl
        · cases h
      · cases h
    · cases h
  · rename_i src dst x heq
    split at h
    · rename_i s h1
      split at h
      · rename_i e h2 h3
        split at h
        · rename_i hs
          cases h
          have hd := decH (hc _ List.mem_cons_self)
          rw [h2] at h3
          simp only [stepM, heq, h1, h2, h3]
          rw [if_pos ⟨hs.1, hs.2, hd⟩]
          rfl
        · cases h
      · cases h
    · rename_i k h1
      rw [Option.map_eq_some_iff] at h
      obtain ⟨v, h3, h4⟩ := h
      cases h4
      simpa only [stepM, heq] using h3
    · cases h
  · rename_i c heq
    split at h
    · rename_i x hcal
      split at h
      · rename_i g caps vs h1 h2
        split at h
        · rename_i r rs hr
          rw [Option.map_eq_some_iff] at h
          obtain ⟨v, h3, h4⟩ := h
          cases h4
          have ho : orc g _ _ = some r := hc _ List.mem_cons_self
          simp only [stepM, heq, hcal, h1, h2]
          exact callF_of h3 ho
        · cases h
      · cases h
    · rename_i hcal
      split at h
      · rename_i s x t t2 hargs htys
        split at h
        · rename_i k y e by_ h1 h2 h3 h4
          split at h
          · rename_i ow e' xs ys c0 hm hs
            split at h
            · rename_i he
              split at h
              · rename_i hw
                cases h
                have hd := decH (hc _ List.mem_cons_self)
                have hs' := srcG_ok hs fun c hm => hc c (List.mem_cons_of_mem _ hm)
                rw [h3] at h4
                simp only [stepM, heq, hcal, hargs, htys, h1, h2, h3, h4, hm, hs']
                rw [if_pos ⟨.inl hw, he, hd.1, hd.2⟩]
              · split at h
                · rename_i hw hfix
                  cases h
                  have hd := decH (hc _ List.mem_cons_self)
                  have hd2 := decH (hc _ (List.mem_cons_of_mem _ List.mem_cons_self))
                  have hs' := srcG_ok hs fun c hm => hc c (List.mem_cons_of_mem _ (List.mem_cons_of_mem _ hm))
                  rw [h3] at h4
                  simp only [stepM, heq, hcal, hargs, htys, h1, h2, h3, h4, hm, hs']
                  rw [if_pos ⟨.inr ⟨hfix, hd2⟩, he, hd.1, hd.2⟩]
                · cases h
            · cases h
          · cases h
        · cases h
      · cases h
    · cases h
  · cases h
end Go.Proofs.Ytefofjpjbogilaa.M
