/- A pure interpreter of the model's code: no heap, no draws; slices are rows by key. What it answers is what the machine does (the soundness texts). -/
import Derived.WalkKit
import Derived.KernelRfl
import Derived.Maps.AppendAt
import Derived.Deep.OwnRows
namespace Go.Proofs.Ytefofjpjbogilaa.M
set_option linter.unusedVariables false

/-- A key: the epoch (a region), the slot that the operation writes, a number. -/
structure Key where
  e : Nat
  d : Nat
  j : Nat
  deriving DecidableEq
/-- The keys of what was packed. -/
def pk (j : Nat) : Key := ⟨0, 0, j⟩
/-- A cell of a box, a part of a slot. -/
inductive L where
  | s (v : Value)
  | sl (k : Key)
  | sub (k : Key) (lo n : Nat)
  | p (k : Key) (off : Nat)
  | ep (k : Key) (i off : Nat)
  | fn (f : Nat) (caps : List L)
  | dead
inductive V where
  | one (l : L)
  | agg (ls : List L)
inductive T where
  | v (x : V)
  | tup (xs : List V)
/-- Whose a row is: another's (read alone), ours, ours and full (its capacity is its length), full and read alone (bytes of a constant), ours and read alone. -/
inductive Own where
  | ro
  | own
  | lit
  | fix
  | frz
  deriving DecidableEq
def Own.w : Own → Bool | .own => true | .lit => true | _ => false
/-- A row handed on: to be read alone, or for good. -/
def Own.pass : Own → Bool → Own | .own, true => .own | .lit, true => .own | .fix, true => .fix | .frz, true => .frz | _, _ => .ro
inductive Blk where
  | box (w : Bool) (t : TypeId) (cs : List L)
  | row (o : Own) (e : TypeId) (xs : List (List Value))
/-- Nobody else's. -/
def Blk.mine : Blk → Bool | .box o _ _ => o | .row .ro _ _ => false | .row _ _ _ => true
structure St where
  t : Nat → T
  m : Key → Option Blk
  e : Nat
  n : Nat
  /-- the own arguments, as they came in -/
  o : List V

def upd {κ α : Type} [DecidableEq κ] (f : κ → α) (k : κ) (v : α) : κ → α := fun i => if i = k then v else f i
theorem upd_at {κ α : Type} [DecidableEq κ] (f : κ → α) (k : κ) (v : α) (i : κ) : upd f k v i = if i = k then v else f i := rfl
theorem upd_same {κ α : Type} [DecidableEq κ] (f : κ → α) (k : κ) (v : α) : upd f k v k = v := by simp [upd]
theorem upd_ne {κ α : Type} [DecidableEq κ] (f : κ → α) (k : κ) (v : α) {i : κ} (h : i ≠ k) : upd f k v i = f i := by simp [upd, h]
theorem upd_comm {κ α : Type} [DecidableEq κ] (f : κ → α) {k j : κ} (v u : α) (h : k ≠ j) : upd (upd f k v) j u = upd (upd f j u) k v := by
  funext i
  simp only [upd]
  split <;> split <;> simp_all

/-! ### What the program's tables say -/
def szOf (P : Program) (t : TypeId) : Option Nat := (P.info? t).map (·.size)
def bytesOf (P : Program) (t : TypeId) : Option Nat := (P.info? t).map (·.bytes)
def elemT (P : Program) (t : TypeId) : Option TypeId := match P.underlying t with | some (.slice e) => some e | _ => none
def isStr (P : Program) (t : TypeId) : Bool := match P.underlying t with | some .string => true | _ => false
def intT (P : Program) (t : TypeId) : Option IntKind := match P.underlying t with | some (.int k) => some k | _ => none
def aggT (P : Program) (t : TypeId) : Option Bool := match P.underlying t with | some (.struct _) => some true | some (.array _ _) => some true | some _ => some false | none => none
/-- A variable's zero value, cell by cell. -/
def zeroT (P : Program) (t : TypeId) : Option (List Value) := match P.info? t with
  | some i => match i.zero with | some z => if z.cells.toList.all Value.oneCell' = true then some z.cells.toList else none | none => none
  | none => none
def fieldT (P : Program) (s : TypeId) (f : Nat) : Option Nat := match P.underlying s with | some (.struct fs) => (fs[f]?).map (·.offset) | _ => none
/-- Of each cell of a type: the element type, where it is a slice. -/
def leafT (P : Program) : Nat → TypeId → List (Option TypeId)
  | 0, _ => []
  | d + 1, t => match P.underlying t with
    | some (.struct fs) => fs.toList.flatMap fun f => leafT P d f.type
    | some (.slice e) => match szOf P e with | some (_ + 1) => [some e] | _ => [none]
    | _ => List.replicate ((szOf P t).getD 0) none

/-! ### Slots -/
/-- What an operation does: the value of its slot, the blocks that it sets. -/
structure Dl where
  x : T
  ks : List (Key × Option Blk)
def appM (m : Key → Option Blk) : List (Key × Option Blk) → Key → Option Blk
  | [] => m
  | (k, b) :: r => appM (upd m k b) r
def St.app (st : St) (d : Option Tmp) (δ : Dl) : St := { st with t := match d with | some d => upd st.t d δ.x | none => st.t, m := appM st.m δ.ks }
/-- The keys that the operation of number i may make. -/
def St.key (st : St) (i j : Nat) : Key := ⟨st.e, i + 1, j⟩
def ev (st : St) : Operand → Option T
  | .tmp n => some (st.t n)
  | .const v => match v with | .agg cs => if cs.toList.all Value.oneCell' = true then some (.v (.agg (cs.toList.map .s))) else none | v => some (.v (.one (.s v)))
  | .func f => some (.v (.one (.fn f [])))
  | .global _ => none
def evV (st : St) (x : Operand) : Option V := match ev st x with | some (.v a) => some a | _ => none
def evL (st : St) (x : Operand) : Option L := match ev st x with | some (.v (.one l)) => some l | _ => none
def L.val : L → Option Value | .s v => some v | _ => none
/-- A value without addresses, whole. -/
def V.flat : V → Option Value
  | .one (.s v) => some v
  | .agg ls => (ls.mapM L.val).map fun vs => .agg vs.toArray
  | _ => none
def evF (st : St) (x : Operand) : Option Value := match ev st x with | some (.v a) => a.flat | _ => none
def evI (st : St) (x : Operand) : Option Int := match ev st x with | some (.v (.one (.s (.int _ n)))) => some n | _ => none
def evN (st : St) (x : Operand) : Option Nat := match evI st x with | some n => if 0 ≤ n then some n.toNat else none | none => none
def evO (st : St) : Option Operand → Option Nat | some x => evN st x | none => some 0
/-- A slice's upper bound. -/
def evHi (st : St) (x : Option Operand) (d : Nat) : Option Nat := match x with | some h => evN st h | none => some d
def V.leaves : V → List L | .one l => [l] | .agg ls => ls
/-- Not a dead slot. -/
def V.okB : V → Bool | .one .dead => false | _ => true
def V.isAgg : V → Bool | .one _ => false | .agg _ => true
def L.isNil : L → Bool | .s (.slice none 0 0) => true | _ => false
/-- Nil slices become rows without elements. -/
def normL (kf : Nat → Key) : List (Option TypeId) → Nat → List L → List L × List (Key × Option Blk)
  | o :: es, j, l :: ls =>
    match o with
    | some e => if l.isNil then (.sl (kf j) :: (normL kf es (j + 1) ls).1, (kf j, some (.row .own e [])) :: (normL kf es (j + 1) ls).2) else (l :: (normL kf es (j + 1) ls).1, (normL kf es (j + 1) ls).2)
    | none => (l :: (normL kf es (j + 1) ls).1, (normL kf es (j + 1) ls).2)
  | [], _, ls => (ls, [])
  | _ :: _, _, [] => ([], [])
/-- A value of type t, its nil slices made rows. -/
def giveD (P : Program) (kf : Nat → Key) (t : Option TypeId) (x : T) : Dl :=
  match t, x with
  | some t, .v (.one l) => if (leafT P 6 t).any Option.isSome then
      (match normL kf (leafT P 6 t) 0 [l] with | ([l'], ks) => ⟨.v (.one l'), ks⟩ | _ => ⟨x, []⟩) else ⟨x, []⟩
  | some t, .v (.agg ls) => if (leafT P 6 t).any Option.isSome then ⟨.v (.agg (normL kf (leafT P 6 t) 0 ls).1), (normL kf (leafT P 6 t) 0 ls).2⟩ else ⟨x, []⟩
  | _, _ => ⟨x, []⟩

/-! ### Operations on values without addresses -/
def binF (op : BinOp) (x y : Value) : Option Value :=
  match x, y with
  | .int k a, .int k' b =>
    match op with
    | .shl => if b < 0 then none else some (.int k (k.wrap (a * 2 ^ (min b.toNat k.bits))))
    | .shr => if b < 0 then none else some (.int k (a.fdiv (2 ^ (min b.toNat k.bits))))
    | _ =>
    if k = k' then
      match op with
      | .add => some (.int k (k.wrap (a + b)))
      | .sub => some (.int k (k.wrap (a - b)))
      | .mul => some (.int k (k.wrap (a * b)))
      | .quo => if b = 0 then none else some (.int k (k.wrap (a.tdiv b)))
      | .rem => if b = 0 then none else some (.int k (a.tmod b))
      | .and => some (.int k (k.wrap (BitVec.ofInt k.bits a &&& BitVec.ofInt k.bits b).toNat))
      | .or => some (.int k (k.wrap (BitVec.ofInt k.bits a ||| BitVec.ofInt k.bits b).toNat))
      | .xor => some (.int k (k.wrap (BitVec.ofInt k.bits a ^^^ BitVec.ofInt k.bits b).toNat))
      | .eql => some (.bool (a == b))
      | .neq => some (.bool (a != b))
      | .lss => some (.bool (a < b))
      | .leq => some (.bool (a ≤ b))
      | .gtr => some (.bool (a > b))
      | .geq => some (.bool (a ≥ b))
      | _ => none
    else none
  | .string a, .string b =>
    match op with
    | .add => if a.size + b.size ≤ 9223372036854775807 then some (.string (a ++ b)) else none
    | .eql => some (.bool (a.toList == b.toList))
    | .neq => some (.bool !(a.toList == b.toList))
    | .lss => some (.bool (Op.bytesLess a.toList b.toList))
    | .leq => some (.bool (Op.bytesLess a.toList b.toList || a.toList == b.toList))
    | .gtr => some (.bool !(Op.bytesLess a.toList b.toList || a.toList == b.toList))
    | .geq => some (.bool !(Op.bytesLess a.toList b.toList))
    | _ => none
  | _, _ => none
def boolT (P : Program) (t : TypeId) : Bool := match P.underlying t with | some .bool => true | _ => false
def eqC (P : Program) (t : TypeId) (x y : Value) : Option Bool :=
  match P.underlying t, x, y with
  | some (.int _), .int k a, .int k' b => if k = k' then some (a == b) else none
  | some .string, .string a, .string b => some (a == b)
  | some .bool, .bool a, .bool b => some (a == b)
  | _, _, _ => none
/-- Two structs of numbers, bools and strings, field by field. -/
def eqFs (P : Program) (xs ys : Array Value) : List Field → Option Bool
  | [] => some true
  | f :: fs => if f.name = "_" then none else
    match xs[f.offset]?, ys[f.offset]? with
    | some x, some y => match eqC P f.type x y, eqFs P xs ys fs with | some b, some c => some (b && c) | _, _ => none
    | _, _ => none
/-- The fields of a struct that may be compared. -/
def eqTy (P : Program) (t : TypeId) : Option (List Field) := match P.underlying t with
  | some (.struct fs) => if P.stoodInHeld t = false ∧ P.eqGuardType P.depth t = false then some fs.toList else none
  | _ => none
/-- '==' and '!=' of bools and structs. -/
def eqF (P : Program) (op : BinOp) (t : TypeId) (x y : Value) : Option Value :=
  match op, x, y with
  | .eql, .bool a, .bool b => if boolT P t = true then some (.bool (a == b)) else none
  | .neq, .bool a, .bool b => if boolT P t = true then some (.bool (!(a == b))) else none
  | .eql, .agg a, .agg b => match eqTy P t with | some fs => (eqFs P a b fs).map .bool | none => none
  | .neq, .agg a, .agg b => match eqTy P t with | some fs => (eqFs P a b fs).map fun c => .bool !c | none => none
  | _, _, _ => none
def unF (op : UnOp) (x : Value) : Option Value :=
  match op, x with
  | .not, .bool b => some (.bool !b)
  | .neg, .int k n => some (.int k (k.wrap (0 - n)))
  | _, _ => none
def pickV (b : Bool) (x y : Value) : Value :=
  match x, y with
  | .bool p, .bool q => .bool (bif b then p else q)
  | x, y => if b then x else y

/-! ### Memory -/
/-- What may lie in a cell. -/
def L.cellOk : L → Bool | .s v => v.oneCell' | .dead => false | _ => true
/-- A cell of a row's element. -/
def L.cv : L → Option Value | .s v => if v.oneCell' then some v else none | _ => none
def strOf (xs : List (List Value)) : Option (List UInt8) := xs.mapM fun | [.int .u8 n] => some (UInt8.ofNat n.toNat) | _ => none
def byteRow (s : ByteArray) : List (List Value) := s.data.toList.map fun b => [.int .u8 b.toNat]
/-- The row of a slice, as it is read. -/
def rowOf (m : Key → Option Blk) : L → Option (List (List Value))
  | .sl k => match m k with | some (.row _ _ xs) => some xs | _ => none
  | .sub k lo n => match m k with | some (.row _ _ xs) => if lo + n ≤ xs.length then some ((xs.drop lo).take n) else none | _ => none
  | .s (.slice none 0 0) => some []
  | _ => none
def lenOf (m : Key → Option Blk) : L → Option Nat
  | .sl k => match m k with | some (.row _ _ xs) => some xs.length | _ => none
  | .sub k lo n => some n
  | .s (.slice none 0 0) => some 0
  | _ => none
def readCells (P : Program) (t : TypeId) (off : Nat) (cs : List L) : Option V :=
  match aggT P t, szOf P t with
  | some true, some n => if off + n ≤ cs.length then some (.agg ((cs.drop off).take n)) else none
  | some false, _ => match cs[off]? with | some l => some (.one l) | none => none
  | _, _ => none
def loadV (P : Program) (m : Key → Option Blk) (t : TypeId) : L → Option V
  | .p k off => match m k with | some (.box _ _ cs) => readCells P t off cs | _ => none
  | .ep k i off => match m k with
    | some (.row _ _ xs) => match xs[i]? with
      | some el => readCells P t off (el.map .s)
      | none => none
    | _ => none
  | _ => none
def splice {α : Type} (cs : List α) (off : Nat) (ys : List α) : List α := cs.take off ++ ys ++ cs.drop (off + ys.length)
def storeV (P : Program) (m : Key → Option Blk) (t : TypeId) (a : L) (x : V) : Option (Key × Blk) :=
  if szOf P t = some x.leaves.length ∧ aggT P t = some x.isAgg ∧ x.leaves.all L.cellOk = true then
    match a with
    | .p k off => match m k with
      | some (.box true bt cs) => if off + x.leaves.length ≤ cs.length then some (k, .box true bt (splice cs off x.leaves)) else none
      | _ => none
    | .ep k i off => match m k, x.leaves.mapM L.cv with
      | some (.row o e xs), some ys => match xs[i]? with
        | some el => if o.w = true ∧ off + ys.length ≤ el.length then some (k, .row o e (xs.set i (splice el off ys))) else none
        | none => none
      | _, _ => none
    | _ => none
  else none
def fieldTy (P : Program) (s : TypeId) (f : Nat) : Option TypeId := match P.underlying s with | some (.struct fs) => (fs[f]?).map (·.type) | _ => none
/-- A field's place, and its size. -/
def place (P : Program) (t : TypeId) (i : Nat) : Option (Nat × Nat) := match fieldT P t i, (fieldTy P t i).bind (szOf P) with
  | some off, some n => some (off, n)
  | _, _ => none
def fillL (pl : Nat → Option (Nat × Nat)) : List L → List (Nat × V) → Option (List L)
  | cs, [] => some cs
  | cs, (i, x) :: r => match pl i with
    | some (off, n) => if x.leaves.length = n ∧ off + n ≤ cs.length ∧ x.okB = true then fillL pl (splice cs off x.leaves) r else none
    | none => none
def partsV (st : St) : List (Nat × Operand) → Option (List (Nat × V))
  | [] => some []
  | (i, x) :: r => match evV st x, partsV st r with | some v, some vs => some ((i, v) :: vs) | _, _ => none
/-- All fields of a struct have a size. -/
def allSized (P : Program) (t : TypeId) : Bool := match P.underlying t with | some (.struct fs) => fs.all fun f => (szOf P f.type).isSome | _ => false
/-- Cells in groups of n. -/
def groups (n : Nat) : Nat → List Value → List (List Value)
  | 0, _ => []
  | k + 1, xs => xs.take n :: groups n k (xs.drop n)

/-! ### Packing: what is reached from some slots, its keys numbered anew -/
structure Pk where
  ren : List (Key × Nat)
  bs : List Blk
def Pk.look (p : Pk) (k : Key) : Option Nat := (p.ren.find? fun x => x.1 == k).map (·.2)
def packRow (own : Bool) (m : Key → Option Blk) (p : Pk) (k : Key) : Option Key × Pk :=
  match p.look k with
  | some j => (some (pk j), p)
  | none => match m k with
    | some (.row o e xs) => (some (pk p.bs.length), ⟨(k, p.bs.length) :: p.ren, p.bs ++ [.row (o.pass own) e xs]⟩)
    | _ => (none, p)
mutual
def packL (own : Bool) (m : Key → Option Blk) (p : Pk) : L → L × Pk
  | .s v => (.s v, p)
  | .sl k => match packRow own m p k with | (some j, q) => (.sl j, q) | (none, q) => (.dead, q)
  | .sub k lo n => match packRow own m p k with | (some j, q) => (.sub j lo n, q) | (none, q) => (.dead, q)
  | .ep k i off => match packRow own m p k with | (some j, q) => (.ep j i off, q) | (none, q) => (.dead, q)
  | .p k off => match p.look k with
    | some j => (.p (pk j) off, p)
    | none => match m k with
      | some (.box o t cs) => let r := packB own m p cs; (.p (pk r.2.bs.length) off, ⟨(k, r.2.bs.length) :: r.2.ren, r.2.bs ++ [.box (o && own) t r.1]⟩)
      | _ => (.dead, p)
  | .fn f caps => let r := packLs own m p caps; (.fn f r.1, r.2)
  | .dead => (.dead, p)
def packLs (own : Bool) (m : Key → Option Blk) (p : Pk) : List L → List L × Pk
  | [] => ([], p)
  | l :: ls => let r := packL own m p l; let s := packLs own m r.2 ls; (r.1 :: s.1, s.2)
/-- The cells of a box: rows alone, and values. -/
def packB (own : Bool) (m : Key → Option Blk) (p : Pk) : List L → List L × Pk
  | [] => ([], p)
  | l :: ls =>
    let r : L × Pk := match l with
      | .s v => (.s v, p)
      | .sl k => match packRow own m p k with | (some j, q) => (.sl j, q) | (none, q) => (.dead, q)
      | .sub k lo n => match packRow own m p k with | (some j, q) => (.sub j lo n, q) | (none, q) => (.dead, q)
      | _ => (.dead, p)
    let s := packB own m r.2 ls; (r.1 :: s.1, s.2)
end
def packV (own : Bool) (m : Key → Option Blk) (p : Pk) : V → V × Pk
  | .one l => let r := packL own m p l; (.one r.1, r.2)
  | .agg ls => let r := packLs own m p ls; (.agg r.1, r.2)
def packVs (own : Bool) (m : Key → Option Blk) (p : Pk) : List V → List V × Pk
  | [] => ([], p)
  | v :: vs => let r := packV own m p v; let s := packVs own m r.2 vs; (r.1 :: s.1, s.2)

/-! ### Calls -/
/-- What a call is given and what it gives: slots, and the memory that they reach. -/
abbrev Orc := Nat → List V → List Blk → Option (List V × List V × List Blk)
def packArgs (m : Key → Option Blk) (p : Pk) : List Bool → List V → List V × Pk
  | f, v :: vs => let r := packV (f.headD false) m p v; let s := packArgs m r.2 f.tail vs; (r.1 :: s.1, s.2)
  | _, [] => ([], p)
mutual
def keysL : L → List Key
  | .sl k => [k]
  | .sub k _ _ => [k]
  | .p k _ => [k]
  | .ep k _ _ => [k]
  | .fn _ caps => keysLs caps
  | .s _ => []
  | .dead => []
def keysLs : List L → List Key
  | [] => []
  | l :: ls => keysL l ++ keysLs ls
end
def keysV (x : V) : List Key := keysLs x.leaves
/-- Own arguments that come back: which of the callee's keys is which of ours. -/
def aliasL (taken : List Key) : L → L → List (Key × Key)
  | .sl k, .sl j => if taken.contains j then [] else [(j, k)]
  | .p k _, .p j _ => [(j, k)]
  | _, _ => []
def aliases (taken : List Key) : List Bool → List V → List V → List (Key × Key)
  | true :: f, a :: as_, o :: os => (a.leaves.zip o.leaves).flatMap (fun x => aliasL taken x.1 x.2) ++ aliases taken f as_ os
  | false :: f, _ :: as_, os => aliases taken f as_ os
  | _, _, _ => []
def newKey (base : Nat → Key) (al : List (Key × Key)) (k : Key) : Key := match al.find? (fun x => x.1 == k) with | some x => x.2 | none => base k.j
def renL (g : Key → Key) : L → L
  | .sl k => .sl (g k)
  | .sub k lo n => .sub (g k) lo n
  | .p k off => .p (g k) off
  | .ep k i off => .ep (g k) i off
  | .s v => .s v
  | _ => .dead
def renV (g : Key → Key) : V → V | .one l => .one (renL g l) | .agg ls => .agg (ls.map (renL g))
def renB (g : Key → Key) : Blk → Blk | .box o t cs => .box o t (cs.map (renL g)) | b => b
def layK (g : Key → Key) : Nat → List Blk → List (Key × Option Blk)
  | _, [] => []
  | j, b :: bs => (g (pk j), some (renB g b)) :: layK g (j + 1) bs
/-- A block that another may hold too: read alone from now on. -/
def Blk.dem : Blk → Blk | .box _ t cs => .box false t cs | .row _ e xs => .row .ro e xs
/-- Own blocks that were handed over are gone; where the callee gives back what it does not own, all that it was shown is read alone from now on. -/
def goneK (m : Key → Option Blk) (all : Bool) (bs : List Blk) : List (Key × Nat) → List (Key × Option Blk)
  | [] => []
  | (k, j) :: r => match bs[j]?, m k with
    | some b, some b' => if b.mine then (k, none) :: goneK m all bs r else if all then goneK m all bs r else (k, some b'.dem) :: goneK m all bs r
    | _, _ => goneK m all bs r
def nodupB : List Key → Bool | [] => true | k :: r => !(r.contains k) && nodupB r
/-- The keys that come back stand for what they stood for. -/
def okAl (m : Key → Option Blk) (ren : List (Key × Nat)) (bs bs' : List Blk) (al : List (Key × Key)) : Bool :=
  al.all fun x => (ren.any fun y => y.1 == x.2 && (match bs[y.2]? with | some b => b.mine | none => false)) &&
    (match m x.2, bs'[x.1.j]? with
     | some (.row _ e _), some (.row _ e' _) => e == e'
     | some (.box _ _ _), some (.box _ _ _) => true
     | _, _ => false)
def callable (P : Program) (g : Nat) : Bool := match P.funcs[g]? with | some fn => !(fn.name == "runtime.NumGoroutine") && fn.body.isSome | none => false
def resT : List V → T | [r] => .v r | rs => .tup rs
def callF (P : Program) (md : Nat → List Bool) (orc : Orc) (kf : Nat → Key) (m : Key → Option Blk) (g : Nat) (vs : List V) : Option Dl :=
  if callable P g then
    match packArgs m ⟨[], []⟩ (md g) vs with
    | (ts, p) => match orc g ts p.bs with
      | some (rs, os, bs) =>
        let al := aliases (rs.flatMap keysV) (md g) vs os
        let f := newKey kf al
        if okAl m p.ren p.bs bs al && nodupB ((List.range bs.length).map fun j => f (pk j)) then
          some ⟨resT (rs.map (renV f)), goneK m (bs.all Blk.mine) p.bs p.ren ++ layK f 0 bs⟩
        else none
      | none => none
  else none

/-- The memory that was packed. -/
def bsM (bs : List Blk) : Key → Option Blk := fun k => if k.e = 0 ∧ k.d = 0 then bs[k.j]? else none
/-! ### One operation -/
def evVs (st : St) : List Operand → Option (List V)
  | [] => some []
  | x :: r => match evV st x, evVs st r with | some v, some vs => some (v :: vs) | _, _ => none
def one1 (l : L) : Option T := some (.v (.one l))
/-- Operations that give a value and leave the memory as it is. -/
def stepT (P : Program) (o : Oper) (st : St) : Option T :=
  match o.op with
  | .move x | .assign x => ev st x
  | .pick c a b => match evF st c, evF st a, evF st b with | some (.bool t), some x, some y => if (pickV t x y).oneCell' = true then one1 (.s (pickV t x y)) else none | _, _, _ => none
  | .binOp op t x y _ => match evF st x, evF st y with
    | some a, some b => match binF op a b with
      | some v => one1 (.s v)
      | none => match eqF P op t a b with | some v => one1 (.s v) | none => none
    | _, _ => none
  | .unOp op t x => match evF st x with
    | some a => match unF op a with | some v => one1 (.s v) | none => none
    | none => none
  | .build t ps => match zeroT P t, partsV st ps.toList with
    | some vs, some xs => if allSized P t then match fillL (place P t) (vs.map .s) xs with | some ls => some (.v (.agg ls)) | none => none else none
    | _, _ => none
  | .load t x => match evL st x with
    | some l => match loadV P st.m t l with | some v => some (.v v) | none => none
    | none => none
  | .nilCheck x => match evL st x with | some (.p k off) => one1 (.p k off) | some (.ep k i off) => one1 (.ep k i off) | _ => none
  | .fieldAddr t x f => match evL st x, place P t f with
    | some (.p k off), some (fo, _ + 1) => one1 (.p k (off + fo))
    | some (.ep k i off), some (fo, _ + 1) => one1 (.ep k i (off + fo))
    | _, _ => none
  | .indexAddr t x i => if (elemT P t).isSome = true then match evL st x, evI st i with
    | some (.sl k), some n => match st.m k with | some (.row _ e xs) => if 0 ≤ n ∧ n < xs.length ∧ elemT P t = some e then one1 (.ep k n.toNat 0) else none | _ => none
    | some (.sub k lo len), some n => match st.m k with | some (.row _ e xs) => if 0 ≤ n ∧ n < len ∧ elemT P t = some e then one1 (.ep k (lo + n.toNat) 0) else none | _ => none
    | _, _ => none else none
  | .index t x i => match evF st x, evI st i with
    | some (.string s), some n => if isStr P t = true ∧ 0 ≤ n then match s[n.toNat]? with | some b => one1 (.s (.int .u8 b.toNat)) | none => none else none
    | _, _ => none
  | .slice t x lo hi none => match evL st x, evO st lo with
    | some (.s (.string s)), some l => match evHi st hi s.size with
      | some h => if isStr P t = true ∧ l ≤ h ∧ h ≤ s.size then one1 (.s (.string (s.extract l h))) else none
      | none => none
    | some (.sl k), some l => match st.m k with
      | some (.row _ e xs) => match evHi st hi xs.length with
        | some h => if elemT P t = some e ∧ l ≤ h ∧ h ≤ xs.length then one1 (.sub k l (h - l)) else none
        | none => none
      | _ => none
    | some (.sub k l0 len), some l => match st.m k with
      | some (.row _ e _) => match evHi st hi len with
        | some h => if elemT P t = some e ∧ l ≤ h ∧ h ≤ len then one1 (.sub k (l0 + l) (h - l)) else none
        | none => none
      | _ => none
    | _, _ => none
  | .extract x i => match ev st x with
    | some (.tup vs) => match vs[i]? with | some v => some (.v v) | none => none
    | _ => none
  | .makeFunc (.func f) first caps => match evVs st caps.toList with
    | some vs => if first.size = 0 ∧ vs.all (fun v => !v.isAgg) = true then one1 (.fn f (vs.flatMap V.leaves)) else none
    | none => none
  | .convert src dst x => match evL st x with
    | some (.s (.int k n)) => match intT P src, intT P dst with | some _, some k' => one1 (.s (.int k' (k'.wrap n))) | _, _ => none
    | some l =>
      if isStr P dst = true then
        match (elemT P src).bind (intT P), (rowOf st.m l).bind strOf with
        | some .u8, some bs => one1 (.s (.string ⟨bs.toArray⟩))
        | _, _ => none
      else none
    | none => none
  | .call c => match c.callee, c.args.toList, c.argTypes.toList with
    | .builtin .len, [x], [t] => match evL st x with
      | some (.s (.string s)) => if isStr P t = true then one1 (.s (.int .i64 s.size)) else none
      | some l => if (elemT P t).isSome = true then match lenOf st.m l with | some n => one1 (.s (.int .i64 n)) | none => none else none
      | none => none
    | _, _, _ => none
  | _ => none
def giveTy (o : Oper) : Option TypeId := match o.op with
  | .move _ => some o.type
  | .assign _ => some o.type
  | .load t _ => some t
  | .build t _ => some t
  | _ => none
def row1 (kf : Nat → Key) (b : Blk) : Option Dl := some ⟨.v (.one (.sl (kf 0))), [(kf 0, some b)]⟩
def box1 (kf : Nat → Key) (w : Bool) (t : TypeId) (cs : List L) (ks : List (Key × Option Blk)) : Option Dl := some ⟨.v (.one (.p (kf 0) 0)), ks ++ [(kf 0, some (.box w t cs))]⟩
/-- What append adds: elements of type e. -/
def srcOf (P : Program) (m : Key → Option Blk) (e t2 : TypeId) : L → Option (List (List Value))
  | .s (.string z) => if isStr P t2 = true ∧ szOf P e = some 1 ∧ z.size ≤ maxLen then some (byteRow z) else none
  | .sl k => match m k with | some (.row _ e' xs) => if e' = e ∧ elemT P t2 = some e then some xs else none | _ => none
  | .sub k lo n => match m k with | some (.row _ e' xs) => if e' = e ∧ elemT P t2 = some e ∧ lo + n ≤ xs.length then some ((xs.drop lo).take n) else none | _ => none
  | .s (.slice none 0 0) => if elemT P t2 = some e then some [] else none
  | _ => none
/-- Operations that change the memory. -/
def stepM (P : Program) (md : Nat → List Bool) (orc : Orc) (kf : Nat → Key) (o : Oper) (st : St) : Option Dl :=
  match o.op with
  | .alloc t => match zeroT P t with
    | some vs => let r := normL kf (leafT P 6 t) 1 (vs.map .s); box1 kf true t r.1 r.2
    | none => none
  | .box t x => match evV st x with
    | some v => if v.okB = true then box1 kf true t v.leaves [] else none
    | none => none
  | .buildSlice t n ps => match elemT P t, partsV st ps.toList with
    | some e, some xs => match szOf P e, zeroT P e with
      | some sz, some z => if 0 < sz ∧ z.length = sz ∧ n * sz ≤ 16777216 ∧ n ≤ maxLen then
          match fillL (fun i => some (i * sz, sz)) ((List.replicate n (z.map L.s)).flatten) xs with
          | some ls => match ls.mapM L.cv with
            | some vs => row1 kf (.row .lit e (groups sz n vs))
            | none => none
          | none => none else none
      | _, _ => none
    | _, _ => none
  | .store t x y => match evL st x, evV st y with
    | some l, some v => match storeV P st.m t l v with | some (k, b) => some ⟨.v (.one (.s undef)), [(k, some b)]⟩ | none => none
    | _, _ => none
  | .makeSlice t l c => match elemT P t, evI st l, evI st c with
    | some e, some n, some n' => match szOf P e, zeroT P e, bytesOf P e with
      | some sz, some z, some by_ => if n = n' ∧ 0 ≤ n ∧ by_ * n ≤ 140737488355328 ∧ n ≤ 140737488355328 ∧ 0 < sz ∧ z.length = sz then
          row1 kf (.row .own e (List.replicate n.toNat z)) else none
      | _, _, _ => none
    | _, _, _ => none
  | .convert src dst x => match evL st x with
    | some (.s (.string s)) => match elemT P dst, (elemT P dst).bind (intT P) with
      | some e, some .u8 => if isStr P src = true ∧ szOf P e = some 1 ∧ s.size ≤ 140737488355328 then row1 kf (.row .frz e (byteRow s)) else none
      | _, _ => none
    | some (.sl k) => match (elemT P src).bind (intT P), st.m k with
      | some .u8, some (.row .lit e xs) => if src = dst ∧ xs ≠ [] ∧ elemT P src = some e then some ⟨.v (.one (.sl (kf 0))), [(k, none), (kf 0, some (.row .fix e xs))]⟩ else none
      | _, _ => none
    | _ => none
  | .call c => match c.callee with
    | .value x => match evL st x, evVs st c.args.toList with
      | some (.fn g caps), some vs => callF P md orc kf st.m g (vs ++ caps.map .one)
      | _, _ => none
    | .builtin .append => match c.args.toList, c.argTypes.toList with
      | [s, x], [t, t2] => match evL st s, evL st x, elemT P t, (elemT P t).bind (bytesOf P) with
        | some (.sl k), some y, some e, some by_ => match st.m k, srcOf P st.m e t2 y with
          | some (.row ow e' xs), some ys =>
            if (ow.w = true ∨ ow = .fix ∧ ys ≠ []) ∧ (e' = e ∧ (zeroT P e).map List.length = szOf P e) ∧ (xs.length + ys.length) * by_ ≤ 140737488355328 ∧ xs.length + ys.length ≤ 140737488355328 then
              some ⟨.v (.one (.sl (kf 0))), [(k, none), (kf 0, some (.row .own e (xs ++ ys)))]⟩ else none
          | _, _ => none
        | _, _, _, _ => none
      | _, _ => none
    | _ => none
  | _ => none
def step (P : Program) (md : Nat → List Bool) (orc : Orc) (i : Nat) (o : Oper) (st : St) : Option Dl :=
  match stepT P o st with
  | some x => some (giveD P (st.key i) (giveTy o) x)
  | none => stepM P md orc (st.key i) o st

/-! ### Code -/
inductive Ex where
  | nx
  | exit (id : Nat)
  | ret
def undefT : T := .v (.one (.s undef))
/-- Does the guard let the operation be done? -/
def guardB (st : St) (all : Array Oper) (o : Oper) : Option Bool :=
  match o.guard with
  | none => some true
  | some (j, w) => match (all[j]?).bind (·.dst) with
    | some d => match st.t d with
      | .v (.one (.s (.bool b))) => some (b == w)
      | .v (.one (.s _)) => some false
      | _ => none
    | none => none
def okDst (st : St) (o : Oper) : Bool := match o.dst with | some d => decide (d < st.n) | none => true
def runOps (P : Program) (md : Nat → List Bool) (orc : Orc) (all : Array Oper) : Nat → List Oper → St → Option St
  | _, [], st => some st
  | i, o :: r, st => if okDst st o then
    match guardB st all o with
    | some g => bif g then (match step P md orc i o st with | some δ => runOps P md orc all (i + 1) r (st.app o.dst δ) | none => none) else runOps P md orc all (i + 1) r (st.app o.dst ⟨undefT, []⟩)
    | none => none else none
def slotV (st : St) (n : Nat) : V := match st.t n with | .v x => x | _ => .one .dead
/-- A loop's head: the slots that live on, and what they reach. -/
def head (keep : List Nat) (st : St) : St :=
  let q := packVs true st.m ⟨[], []⟩ st.o
  let r := packVs true st.m q.2 (keep.map (slotV st))
  { t := (keep.zip r.1).foldl (fun f x => upd f x.1 (.v x.2)) (fun _ => .v (.one .dead)), m := bsM r.2.bs, e := 1, n := st.n, o := q.1 }
def loopN (hd : St → St) (f : St → Option (Ex × St)) : Nat → St → Option (Ex × St)
  | 0, _ => none
  | k + 1, st => match f (hd st) with
    | some (.nx, s) => loopN hd f k s
    | r => r
/-! ### Regions that draw their order -/
def opnds : Op → List Operand
  | .move x => [x]
  | .assign x => [x]
  | .pick c a b => [c, a, b]
  | .binOp _ _ x y _ => [x, y]
  | .unOp _ _ x => [x]
  | .build _ ps => ps.toList.map (·.2)
  | .load _ x => [x]
  | .nilCheck x => [x]
  | .fieldAddr _ x _ => [x]
  | .indexAddr _ x i => [x, i]
  | .index _ x i => [x, i]
  | .slice _ x lo hi _ => x :: (lo.toList ++ hi.toList)
  | .extract x _ => [x]
  | .makeFunc _ _ caps => caps.toList
  | .convert _ _ x => [x]
  | .call c => (match c.callee with | .value x => [x] | _ => []) ++ c.args.toList
  | .box _ x => [x]
  | .buildSlice _ _ ps => ps.toList.map (·.2)
  | .store _ x y => [x, y]
  | .makeSlice _ l c => [l, c]
  | _ => []
/-- The slots that an operation looks at. -/
def looks (all : Array Oper) (o : Oper) : List Nat :=
  ((opnds o.op).filterMap fun | .tmp n => some n | _ => none) ++ (match o.guard with | some (j, _) => ((all[j]?).bind (·.dst)).toList | none => [])
def keysT : T → List Key | .v x => keysV x | .tup vs => vs.flatMap keysV
/-- What is reached from a key. -/
def reach (m : Key → Option Blk) (k : Key) : List Key := k :: (match m k with | some (.box _ _ cs) => keysLs cs | _ => [])
/-- The keys that an operation may look at. -/
def rdK (all : Array Oper) (o : Oper) (st : St) : List Key :=
  match o.op with
  | .load _ _ | .store _ _ _ | .indexAddr _ _ _ | .slice _ _ _ _ _ | .convert _ _ _ => (looks all o).flatMap fun n => keysT (st.t n)
  | .call c => match c.callee with
    | .value _ => (looks all o).flatMap fun n => (keysT (st.t n)).flatMap (reach st.m)
    | _ => (looks all o).flatMap fun n => keysT (st.t n)
  | _ => []
/-- An operation, its guard first. -/
def opD (P : Program) (md : Nat → List Bool) (orc : Orc) (all : Array Oper) (i : Nat) (o : Oper) (st : St) : Option Dl :=
  if okDst st o then
    match guardB st all o with
    | some g => bif g then step P md orc i o st else some ⟨undefT, []⟩
    | none => none
  else none
/-- What an operation of a region did: its number, its slot, what it gave, what it looked at. -/
structure Tr where
  i : Nat
  dst : Option Tmp
  δ : Dl
  ls : List Nat
  rd : List Key
def trace (P : Program) (md : Nat → List Bool) (orc : Orc) (all : Array Oper) : Nat → List Oper → St → Option (List Tr)
  | _, [], _ => some []
  | i, o :: r, st => match opD P md orc all i o st with
    | some δ => match trace P md orc all (i + 1) r (st.app o.dst δ) with
      | some l => some (⟨i, o.dst, δ, looks all o, rdK all o st⟩ :: l)
      | none => none
    | none => none
/-- Two operations that do not care which comes first. -/
def Tr.free (x y : Tr) : Bool :=
  (match x.dst with | some d => !(y.ls.contains d) && y.dst != some d | none => true) &&
  (match y.dst with | some d => !(x.ls.contains d) | none => true) &&
  (x.δ.ks.all fun k => !(y.rd.contains k.1) && !((y.δ.ks.map (·.1)).contains k.1)) &&
  (y.δ.ks.all fun k => !(x.rd.contains k.1))
/-- Is the operation of number j told to come after that of number i? -/
def waits (all : Array Oper) (i j : Nat) : Bool := match all[j]? with | some o => o.after.any fun e => Region.binds .any e && e.on == i | none => false
def pairsOk (all : Array Oper) : List Tr → Bool
  | [] => true
  | x :: r => (r.all fun y => waits all x.i y.i || x.free y) && pairsOk all r
def backward (all : Array Oper) : Bool := (List.range all.size).all fun i => match all[i]? with | some o => o.after.all fun e => !(Region.binds .any e) || decide (e.on < i) | none => true
def drawOk (P : Program) (md : Nat → List Bool) (orc : Orc) (all : Array Oper) (st : St) : Bool :=
  backward all && (match trace P md orc all 0 all.toList st with | some l => pairsOk all l | none => false)
structure Env where
  P : Program
  md : Nat → List Bool
  keep : Nat → Nat → List Nat
  /-- functions that are not run but known (a contract of each is a premise of the soundness) -/
  prim : Nat → Option (List V → List Blk → Option (List V × List V × List Blk))
def exec (E : Env) (orc : Orc) (f : Nat) : Code → Nat → Nat → St → Option (Ex × St)
  | .skip, _, _, st => some (.nx, st)
  | .region _ ops draw, _, _, st => if draw = true ∧ drawOk E.P E.md orc ops st = false then none else
    match runOps E.P E.md orc ops 0 ops.toList st with
    | some s => some (.nx, { s with e := s.e + 1 })
    | none => none
  | .seq a b, id, k, st => match exec E orc f a id k st with
    | some (.nx, s) => exec E orc f b id k s
    | r => r
  | .cond c a b, id, k, st => match evF st c with
    | some (.bool t) => bif t then exec E orc f a id k st else exec E orc f b id k st
    | _ => none
  | .block id c, _, k, st => match exec E orc f c id k st with
    | some (.exit i, s) => if i = id then some (.nx, s) else some (.exit i, s)
    | r => r
  | .loop c, id, k, st => loopN (head (E.keep f id)) (exec E orc f c id k) k st
  | .exit i, _, _, st => some (.exit i, st)
  | .ret, _, _, st => some (.ret, st)
  | _, _, _, _ => none
def resV (P : Program) (st : St) : List ResultVar → Option (List V)
  | [] => some []
  | .tmp t :: r => match st.t t, resV P st r with | .v x, some xs => some (x :: xs) | _, _ => none
  | .cell a t :: r => match (match st.t a with | .v (.one l) => loadV P st.m t l | _ => none), resV P st r with | some x, some xs => some (x :: xs) | _, _ => none
def ownOf {α : Type} : List Bool → List α → List α
  | true :: f, v :: vs => v :: ownOf f vs
  | false :: f, _ :: vs => ownOf f vs
  | _, _ => []
def startSt (md : List Bool) (ntmps : Nat) (ts : List V) (bs : List Blk) : St := { t := fun i => .v (ts.getD i (.one .dead)), m := bsM bs, e := 1, n := ntmps, o := ownOf md ts }
def finish (P : Program) (rv : List ResultVar) (st : St) : Option (List V × List V × List Blk) :=
  match resV P st rv with
  | some rs =>
    let r := packVs true st.m ⟨[], []⟩ rs
    let o := packVs true st.m r.2 st.o
    some (r.1, o.1, o.2.bs)
  | none => none
/-- slices.Clone: a row of its own, the elements the same. -/
def primClone (ts : List V) (bs : List Blk) : Option (List V × List V × List Blk) :=
  match ts with
  | [.one (.sl j)] => match bsM bs j with | some (.row _ e xs) => some ([.one (.sl (pk 0))], [], [.row .own e xs]) | _ => none
  | [.one (.sub j lo n)] => match bsM bs j with | some (.row _ e xs) => if lo + n ≤ xs.length then some ([.one (.sl (pk 0))], [], [.row .own e ((xs.drop lo).take n)]) else none | _ => none
  | _ => none
def run (E : Env) : Nat → Orc
  | 0, _, _, _ => none
  | k + 1, f, ts, bs => match E.prim f with
   | some p => p ts bs
   | none => match E.P.funcs[f]? with
    | some fn => match fn.body with
      | some c => if ts.length ≤ fn.ntmps then
          match exec E (run E k) f c 0 k (startSt (E.md f) fn.ntmps ts bs) with
          | some (.nx, st) => finish E.P fn.results.toList st
          | some (.ret, st) => finish E.P fn.results.toList st
          | _ => none
        else none
      | none => none
    | none => none
end Go.Proofs.Ytefofjpjbogilaa.M
