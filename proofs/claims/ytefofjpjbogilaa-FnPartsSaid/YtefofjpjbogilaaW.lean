/- What is to be shown of code, reckoned by the kernel: a tree of claims about numbers, strings and rows. -/
import Derived.Test.YtefofjpjbogilaaNorm
namespace Go.Proofs.Ytefofjpjbogilaa.M
set_option linter.unusedVariables false
set_option linter.unusedSimpArgs false
set_option linter.unusedSectionVars false

/-- A row without elements. -/
abbrev nilR : List (List Value) := []
inductive VC where
  | ok
  | bad (why : Nat)
  | look (why : Nat) (vs : List V) (bs : List Blk)
  | and (a b : VC)
  | imp (p : Prop) (a : VC)
  | must (p : Prop) (a : VC)
  | fin (p : Prop)
  | allI (k : Int → VC)
  | allB (k : Bool → VC)
  | allS (k : ByteArray → VC)
  | allR (k : List (List Value) → VC)
def VC.den : VC → Prop
  | .ok => True
  | .bad _ => False
  | .look _ _ _ => False
  | .and a b => a.den ∧ b.den
  | .imp p a => p → a.den
  | .must p a => p ∧ a.den
  | .fin p => p
  | .allI k => ∀ n, (k n).den
  | .allB k => ∀ b, (k b).den
  | .allS k => ∀ s, (k s).den
  | .allR k => ∀ xs, (k xs).den

/-! ### Shapes -/
inductive Sh where
  | i (k : IntKind)
  | s
  | b
  | sb
  | r (o : Own) (e : TypeId)
  | ref (j : Nat)
  | pref (j : Nat)
  | dead
inductive VSh where
  | one (x : Sh)
  | agg (xs : List Sh)
  | ptr (w : Bool) (t : TypeId) (xs : List Sh)
  | fn (g : Nat) (caps : List (Bool × TypeId × List Sh))
def FnS : Sh → Type → Type
  | .i _, β => Int → β
  | .s, β => ByteArray → β
  | .b, β => Bool → β
  | .sb, β => Bool → β
  | .r _ _, β => List (List Value) → β
  | .ref _, β => β
  | .pref _, β => β
  | .dead, β => β
def FnL : List Sh → Type → Type
  | [], β => β
  | x :: r, β => FnS x (FnL r β)
def FnC : List (Bool × TypeId × List Sh) → Type → Type
  | [], β => β
  | x :: r, β => FnL x.2.2 (FnC r β)
def FnV : List VSh → Type → Type
  | [], β => β
  | .one x :: r, β => FnS x (FnV r β)
  | .agg xs :: r, β => FnL xs (FnV r β)
  | .ptr _ _ xs :: r, β => FnL xs (FnV r β)
  | .fn _ caps :: r, β => FnC caps (FnV r β)
section
variable {β γ : Type} (bs : List Blk)
def appS : (x : Sh) → L → Nat → FnS x β → Option (β × Nat)
  | .i k, .s (.int k' n), c, f => if k' = k then some (f n, c) else none
  | .s, .s (.string s), c, f => some (f s, c)
  | .b, .s (.bool b), c, f => some (f b, c)
  | .sb, .s (.bool b), c, f => some (f b, c)
  | .r o e, .sl k, c, f => if k = pk c then (match bs[c]? with | some (.row o' e' xs) => if o' = o ∧ e' = e then some (f xs, c + 1) else none | _ => none) else none
  | .ref j, .sl k, c, f => if k = pk j then some (f, c) else none
  | .pref j, .p k 0, c, f => if k = pk j then some (f, c) else none
  | .dead, .dead, c, f => some (f, c)
  | _, _, _, _ => none
def appLs : (xs : List Sh) → List L → Nat → FnL xs β → Option (β × Nat)
  | [], [], c, f => some (f, c)
  | x :: r, l :: ls, c, f => match appS bs x l c f with | some (g, c1) => appLs r ls c1 g | none => none
  | _, _, _, _ => none
def isBox (w : Bool) (t : TypeId) : L → Nat → Option (List L)
  | .p k 0, c => if k = pk c then (match bs[c]? with | some (.box w' t' cs) => if w' = w ∧ t' = t then some cs else none | _ => none) else none
  | _, _ => none
/-- The cells of the box that stands behind them. -/
def cellsAt (l : L) : List L := match l with | .p k 0 => (match bs[k.j]? with | some (.box _ _ cs) => cs | _ => []) | _ => []
def appP (w : Bool) (t : TypeId) (xs : List Sh) (l : L) (c : Nat) (f : FnL xs β) : Option (β × Nat) :=
  match appLs bs xs (cellsAt bs l) c f with
  | some (g, c1) => if (isBox bs w t l c1).isSome then some (g, c1 + 1) else none
  | none => none
def appCs : (xs : List (Bool × TypeId × List Sh)) → List L → Nat → FnC xs β → Option (β × Nat)
  | [], [], c, f => some (f, c)
  | x :: r, l :: ls, c, f => match appP bs x.1 x.2.1 x.2.2 l c f with | some (g, c1) => appCs r ls c1 g | none => none
  | _, _, _, _ => none
def appVs : (xs : List VSh) → List V → Nat → FnV xs β → Option (β × Nat)
  | [], [], c, f => some (f, c)
  | .one x :: r, .one l :: vs, c, f => match appS bs x l c f with | some (g, c1) => appVs r vs c1 g | none => none
  | .agg xs :: r, .agg ls :: vs, c, f => match appLs bs xs ls c f with | some (g, c1) => appVs r vs c1 g | none => none
  | .ptr w t xs :: r, .one l :: vs, c, f => match appP bs w t xs l c f with | some (g, c1) => appVs r vs c1 g | none => none
  | .fn q caps :: r, .one (.fn q' ls) :: vs, c, f => if q' = q then (match appCs bs caps ls c f with | some (g, c1) => appVs r vs c1 g | none => none) else none
  | _, _, _, _ => none
end
section
variable {β : Type}
def genS : (x : Sh) → Nat → FnS x β → (L → List Blk → Nat → β → VC) → VC
  | .i k, c, f, K => .allI fun n => K (.s (.int k n)) [] c (f n)
  | .s, c, f, K => .allS fun s => K (.s (.string s)) [] c (f s)
  | .sb, c, f, K => .allB fun b => K (.s (.bool b)) [] c (f b)
  | .b, c, f, K => .and (K (.s (.bool true)) [] c (f true)) (K (.s (.bool false)) [] c (f false))
  | .r o e, c, f, K => .allR fun xs => K (.sl (pk c)) [.row o e xs] (c + 1) (f xs)
  | .ref j, c, f, K => K (.sl (pk j)) [] c f
  | .pref j, c, f, K => K (.p (pk j) 0) [] c f
  | .dead, c, f, K => K .dead [] c f
def genLs : (xs : List Sh) → Nat → FnL xs β → (List L → List Blk → Nat → β → VC) → VC
  | [], c, f, K => K [] [] c f
  | x :: r, c, f, K => genS x c f fun l nb c1 g => genLs r c1 g fun ls nb2 c2 b => K (l :: ls) (nb ++ nb2) c2 b
def genCs : (xs : List (Bool × TypeId × List Sh)) → Nat → FnC xs β → (List L → List Blk → Nat → β → VC) → VC
  | [], c, f, K => K [] [] c f
  | x :: r, c, f, K => genLs x.2.2 c f fun cs nb c1 g => genCs r (c1 + 1) g fun ls nb2 c2 b => K (.p (pk c1) 0 :: ls) (nb ++ .box x.1 x.2.1 cs :: nb2) c2 b
def genVs : (xs : List VSh) → Nat → FnV xs β → (List V → List Blk → Nat → β → VC) → VC
  | [], c, f, K => K [] [] c f
  | .one x :: r, c, f, K => genS x c f fun l nb c1 g => genVs r c1 g fun vs nb2 c2 b => K (.one l :: vs) (nb ++ nb2) c2 b
  | .agg xs :: r, c, f, K => genLs xs c f fun ls nb c1 g => genVs r c1 g fun vs nb2 c2 b => K (.agg ls :: vs) (nb ++ nb2) c2 b
  | .ptr w t xs :: r, c, f, K => genLs xs c f fun cs nb c1 g => genVs r (c1 + 1) g fun vs nb2 c2 b => K (.one (.p (pk c1) 0) :: vs) (nb ++ .box w t cs :: nb2) c2 b
  | .fn q caps :: r, c, f, K => genCs caps c f fun ls nb c1 g => genVs r c1 g fun vs nb2 c2 b => K (.one (.fn q ls) :: vs) (nb ++ nb2) c2 b
theorem drop_one {bs : List Blk} {c : Nat} {b : Blk} (h : bs[c]? = some b) : bs.drop c = [b] ++ bs.drop (c + 1) := by
  obtain ⟨h1, h2⟩ := List.getElem?_eq_some_iff.1 h
  rw [List.drop_eq_getElem_cons h1, h2]
  rfl
theorem genS_ok {x : Sh} {c : Nat} {f : FnS x β} {K : L → List Blk → Nat → β → VC} (h : (genS x c f K).den) {bs : List Blk} {l : L} {b : β} {c' : Nat} (ha : appS bs x l c f = some (b, c')) :
    ∃ nb, (K l nb c' b).den ∧ bs.drop c = nb ++ bs.drop c' := by
  unfold appS at ha
  split at ha
  · split at ha
    · rename_i e; subst e; cases ha; exact ⟨[], h _, rfl⟩
    · cases ha
  · cases ha; exact ⟨[], h _, rfl⟩
  · cases ha; rename_i bb _; cases bb <;> first | exact ⟨[], h.1, rfl⟩ | exact ⟨[], h.2, rfl⟩
  · cases ha; exact ⟨[], h _, rfl⟩
  · split at ha
    · rename_i e
      subst e
      split at ha
      · rename_i hb
        split at ha
        · rename_i hc; obtain ⟨rfl, rfl⟩ := hc; cases ha; exact ⟨_, h _, drop_one hb⟩
        · cases ha
      · cases ha
    · cases ha
  · split at ha
    · rename_i e; subst e; cases ha; exact ⟨[], h, rfl⟩
    · cases ha
  · split at ha
    · rename_i e; subst e; cases ha; exact ⟨[], h, rfl⟩
    · cases ha
  · cases ha; exact ⟨[], h, rfl⟩
  · cases ha
theorem genLs_ok : ∀ {xs : List Sh} {c : Nat} {f : FnL xs β} {K : List L → List Blk → Nat → β → VC}, (genLs xs c f K).den → ∀ {bs : List Blk} {ls : List L} {b : β} {c' : Nat}, appLs bs xs ls c f = some (b, c') →
    ∃ nb, (K ls nb c' b).den ∧ bs.drop c = nb ++ bs.drop c'
  | [], c, f, K, h, bs, ls, b, c', ha => by
    cases ls with
    | nil => cases ha; exact ⟨[], h, rfl⟩
    | cons l ls => cases ha
  | x :: r, c, f, K, h, bs, ls, b, c', ha => by
    cases ls with
    | nil => cases ha
    | cons l ls =>
      simp only [appLs] at ha
      split at ha
      · rename_i g c1 h1
        obtain ⟨nb, k1, k2⟩ := genS_ok h h1
        obtain ⟨nb2, j1, j2⟩ := genLs_ok k1 ha
        exact ⟨nb ++ nb2, j1, by rw [k2, j2, List.append_assoc]⟩
      · cases ha
theorem isBox_spec {bs : List Blk} {w : Bool} {t : TypeId} {l : L} {c : Nat} (h : (isBox bs w t l c).isSome = true) : l = .p (pk c) 0 ∧ bs[c]? = some (.box w t (cellsAt bs l)) := by
  unfold isBox at h
  split at h
  · split at h
    · rename_i k e
      subst e
      split at h
      · rename_i w' t' cs hb
        split at h
        · rename_i hc
          obtain ⟨rfl, rfl⟩ := hc
          refine ⟨rfl, ?_⟩
          show bs[c]? = some (.box w' t' (match bs[c]? with | some (.box _ _ cs) => cs | _ => []))
          rw [hb]
        · cases h
      · cases h
    · cases h
  · cases h
theorem genP_ok {w : Bool} {t : TypeId} {xs : List Sh} {c : Nat} {f : FnL xs β} {K : List L → List Blk → Nat → β → VC} (h : (genLs xs c f K).den) {bs : List Blk} {l : L} {b : β} {c' : Nat} (ha : appP bs w t xs l c f = some (b, c')) :
    ∃ cs nb c1, (K cs nb c1 b).den ∧ l = .p (pk c1) 0 ∧ c' = c1 + 1 ∧ bs.drop c = nb ++ .box w t cs :: bs.drop c' := by
  unfold appP at ha
  split at ha
  · rename_i g c1 h1
    split at ha
    · rename_i hb
      cases ha
      obtain ⟨nb, k1, k2⟩ := genLs_ok h h1
      obtain ⟨i1, i2⟩ := isBox_spec hb
      refine ⟨_, nb, c1, k1, i1, rfl, ?_⟩
      rw [k2, drop_one i2]
      rfl
    · cases ha
  · cases ha
theorem genCs_ok : ∀ {xs : List (Bool × TypeId × List Sh)} {c : Nat} {f : FnC xs β} {K : List L → List Blk → Nat → β → VC}, (genCs xs c f K).den → ∀ {bs : List Blk} {ls : List L} {b : β} {c' : Nat}, appCs bs xs ls c f = some (b, c') →
    ∃ nb, (K ls nb c' b).den ∧ bs.drop c = nb ++ bs.drop c'
  | [], c, f, K, h, bs, ls, b, c', ha => by
    cases ls with
    | nil => cases ha; exact ⟨[], h, rfl⟩
    | cons l ls => cases ha
  | x :: r, c, f, K, h, bs, ls, b, c', ha => by
    cases ls with
    | nil => cases ha
    | cons l ls =>
      simp only [appCs] at ha
      split at ha
      · rename_i g c1 h1
        obtain ⟨cs, nb, c0, k1, rfl, rfl, k2⟩ := genP_ok h h1
        obtain ⟨nb2, j1, j2⟩ := genCs_ok k1 ha
        exact ⟨_, j1, by rw [k2, j2]; simp⟩
      · cases ha
theorem genVs_ok : ∀ {xs : List VSh} {c : Nat} {f : FnV xs β} {K : List V → List Blk → Nat → β → VC}, (genVs xs c f K).den → ∀ {bs : List Blk} {ls : List V} {b : β} {c' : Nat}, appVs bs xs ls c f = some (b, c') →
    ∃ nb, (K ls nb c' b).den ∧ bs.drop c = nb ++ bs.drop c'
  | [], c, f, K, h, bs, ls, b, c', ha => by
    cases ls with
    | nil => cases ha; exact ⟨[], h, rfl⟩
    | cons l ls => cases ha
  | .one x :: r, c, f, K, h, bs, ls, b, c', ha => by
    cases ls with
    | nil => cases ha
    | cons v ls =>
      cases v with
      | agg l => cases ha
      | one l =>
        simp only [appVs] at ha
        split at ha
        · rename_i g c1 h1
          obtain ⟨nb, k1, k2⟩ := genS_ok h h1
          obtain ⟨nb2, j1, j2⟩ := genVs_ok k1 ha
          exact ⟨nb ++ nb2, j1, by rw [k2, j2, List.append_assoc]⟩
        · cases ha
  | .agg xs :: r, c, f, K, h, bs, ls, b, c', ha => by
    cases ls with
    | nil => cases ha
    | cons v ls =>
      cases v with
      | one l => cases ha
      | agg l =>
        simp only [appVs] at ha
        split at ha
        · rename_i g c1 h1
          obtain ⟨nb, k1, k2⟩ := genLs_ok h h1
          obtain ⟨nb2, j1, j2⟩ := genVs_ok k1 ha
          exact ⟨nb ++ nb2, j1, by rw [k2, j2, List.append_assoc]⟩
        · cases ha
  | .ptr w t xs :: r, c, f, K, h, bs, ls, b, c', ha => by
    cases ls with
    | nil => cases ha
    | cons v ls =>
      cases v with
      | agg l => cases ha
      | one l =>
        simp only [appVs] at ha
        split at ha
        · rename_i g c1 h1
          obtain ⟨cs, nb, c0, k1, rfl, rfl, k2⟩ := genP_ok h h1
          obtain ⟨nb2, j1, j2⟩ := genVs_ok k1 ha
          exact ⟨_, j1, by rw [k2, j2]; simp⟩
        · cases ha
  | .fn q caps :: r, c, f, K, h, bs, ls, b, c', ha => by
    cases ls with
    | nil => cases ha
    | cons v ls =>
      cases v with
      | agg l => cases ha
      | one l =>
        cases l with
        | fn q' cs =>
          simp only [appVs] at ha
          split at ha
          · rename_i e
            subst e
            split at ha
            · rename_i g c1 h1
              obtain ⟨nb, k1, k2⟩ := genCs_ok h h1
              obtain ⟨nb2, j1, j2⟩ := genVs_ok k1 ha
              exact ⟨nb ++ nb2, j1, by rw [k2, j2, List.append_assoc]⟩
            · cases ha
          · cases ha
        | _ => cases ha
end
/-- Of two functions of the same shapes one. -/
def zipS {β γ : Type} : (x : Sh) → FnS x β → FnS x γ → FnS x (β × γ)
  | .i _, f, g => fun n => (f n, g n)
  | .s, f, g => fun n => (f n, g n)
  | .b, f, g => fun n => (f n, g n)
  | .sb, f, g => fun n => (f n, g n)
  | .r _ _, f, g => fun n => (f n, g n)
  | .ref _, f, g => (f, g)
  | .pref _, f, g => (f, g)
  | .dead, f, g => (f, g)
def mapS {β γ : Type} (φ : β → γ) : (x : Sh) → FnS x β → FnS x γ
  | .i _, f => fun n => φ (f n)
  | .s, f => fun n => φ (f n)
  | .b, f => fun n => φ (f n)
  | .sb, f => fun n => φ (f n)
  | .r _ _, f => fun n => φ (f n)
  | .ref _, f => φ f
  | .pref _, f => φ f
  | .dead, f => φ f
def zipL {β γ : Type} : (xs : List Sh) → FnL xs β → FnL xs γ → FnL xs (β × γ)
  | [], f, g => (f, g)
  | x :: r, f, g => mapS (fun q : FnL r β × FnL r γ => zipL r q.1 q.2) x (zipS x f g)
def mapL {β γ : Type} (φ : β → γ) : (xs : List Sh) → FnL xs β → FnL xs γ
  | [], f => φ f
  | x :: r, f => mapS (fun q : FnL r β => mapL φ r q) x f
def zipC {β γ : Type} : (xs : List (Bool × TypeId × List Sh)) → FnC xs β → FnC xs γ → FnC xs (β × γ)
  | [], f, g => (f, g)
  | x :: r, f, g => mapL (fun q : FnC r β × FnC r γ => zipC r q.1 q.2) x.2.2 (zipL x.2.2 f g)
def mapC {β γ : Type} (φ : β → γ) : (xs : List (Bool × TypeId × List Sh)) → FnC xs β → FnC xs γ
  | [], f => φ f
  | x :: r, f => mapL (fun q : FnC r β => mapC φ r q) x.2.2 f
def zipV {β γ : Type} : (xs : List VSh) → FnV xs β → FnV xs γ → FnV xs (β × γ)
  | [], f, g => (f, g)
  | .one x :: r, f, g => mapS (fun q : FnV r β × FnV r γ => zipV r q.1 q.2) x (zipS x f g)
  | .agg xs :: r, f, g => mapL (fun q : FnV r β × FnV r γ => zipV r q.1 q.2) xs (zipL xs f g)
  | .ptr _ _ xs :: r, f, g => mapL (fun q : FnV r β × FnV r γ => zipV r q.1 q.2) xs (zipL xs f g)
  | .fn _ caps :: r, f, g => mapC (fun q : FnV r β × FnV r γ => zipV r q.1 q.2) caps (zipC caps f g)
section
variable {β γ δ : Type} {bs : List Blk}
/-- What the decoded arguments do to one function they do to the other. -/
def Par {δ : Type} (a : Option (β × Nat)) (d : Option (δ × Nat)) (R : β → δ → Prop) : Prop := ∀ x c, a = some (x, c) → ∃ z, d = some (z, c) ∧ R x z
theorem appS_map {φ : β → γ} {x : Sh} {l : L} {c : Nat} {f : FnS x β} {b : β} {c' : Nat} (h : appS bs x l c f = some (b, c')) : appS bs x l c (mapS φ x f) = some (φ b, c') := by
  unfold appS at h
  split at h
  · split at h
    · rename_i e; subst e; cases h; exact if_pos rfl
    · cases h
  · cases h; rfl
  · cases h; rfl
  · cases h; rfl
  · split at h
    · rename_i e
      subst e
      split at h
      · rename_i hb
        split at h
        · rename_i hc; obtain ⟨rfl, rfl⟩ := hc; cases h; simp [appS, mapS, hb]
        · cases h
      · cases h
    · cases h
  · split at h
    · rename_i e; subst e; cases h; simp [appS, mapS]
    · cases h
  · split at h
    · rename_i e; subst e; cases h; exact if_pos rfl
    · cases h
  · cases h; rfl
  · cases h
theorem appS_zip {x : Sh} {l : L} {c : Nat} {f : FnS x β} {g : FnS x γ} {b : β} {c' : Nat} (h : appS bs x l c f = some (b, c')) : ∃ d, appS bs x l c (zipS x f g) = some ((b, d), c') := by
  unfold appS at h
  split at h
  · split at h
    · rename_i e; subst e; cases h; exact ⟨_, by simp [appS, zipS]; rfl⟩
    · cases h
  · cases h; exact ⟨_, rfl⟩
  · cases h; exact ⟨_, rfl⟩
  · cases h; exact ⟨_, rfl⟩
  · split at h
    · rename_i e
      subst e
      split at h
      · rename_i hb
        split at h
        · rename_i hc; obtain ⟨rfl, rfl⟩ := hc; cases h; exact ⟨_, by simp [appS, zipS, hb]; rfl⟩
        · cases h
      · cases h
    · cases h
  · split at h
    · rename_i e; subst e; cases h; exact ⟨_, by simp [appS, zipS]; rfl⟩
    · cases h
  · split at h
    · rename_i e; subst e; cases h; exact ⟨_, if_pos rfl⟩
    · cases h
  · cases h; exact ⟨_, rfl⟩
  · cases h
theorem appLs_map {φ : β → γ} : ∀ {xs : List Sh} {ls : List L} {c : Nat} {f : FnL xs β} {b : β} {c' : Nat}, appLs bs xs ls c f = some (b, c') → appLs bs xs ls c (mapL φ xs f) = some (φ b, c')
  | [], [], c, f, b, c', h => by cases h; rfl
  | [], _ :: _, c, f, b, c', h => by cases h
  | _ :: _, [], c, f, b, c', h => by cases h
  | x :: r, l :: ls, c, f, b, c', h => by
    simp only [appLs] at h
    split at h
    · rename_i g c1 h1
      simp only [appLs, mapL, appS_map (φ := fun q : FnL r β => mapL φ r q) h1]
      exact appLs_map h
    · cases h
theorem appLs_zip : ∀ {xs : List Sh} {ls : List L} {c : Nat} {f : FnL xs β} {g : FnL xs γ} {b : β} {c' : Nat}, appLs bs xs ls c f = some (b, c') → ∃ d, appLs bs xs ls c (zipL xs f g) = some ((b, d), c')
  | [], [], c, f, g, b, c', h => by cases h; exact ⟨_, rfl⟩
  | [], _ :: _, c, f, g, b, c', h => by cases h
  | _ :: _, [], c, f, g, b, c', h => by cases h
  | x :: r, l :: ls, c, f, g, b, c', h => by
    simp only [appLs] at h
    split at h
    · rename_i q c1 h1
      obtain ⟨d, h2⟩ := appS_zip (γ := FnL r γ) (g := g) h1
      simp only [appLs, zipL, appS_map (φ := fun q : FnL r β × FnL r γ => zipL r q.1 q.2) h2]
      exact appLs_zip h
    · cases h
theorem appP_map {φ : β → γ} {w : Bool} {t : TypeId} {xs : List Sh} {l : L} {c : Nat} {f : FnL xs β} {b : β} {c' : Nat} (h : appP bs w t xs l c f = some (b, c')) : appP bs w t xs l c (mapL φ xs f) = some (φ b, c') := by
  unfold appP at h ⊢
  split at h
  · rename_i g c1 h1
    rw [appLs_map (φ := φ) h1]
    split at h
    · rename_i hb; cases h; simp [hb]
    · cases h
  · cases h
theorem appP_zip {w : Bool} {t : TypeId} {xs : List Sh} {l : L} {c : Nat} {f : FnL xs β} {g : FnL xs γ} {b : β} {c' : Nat} (h : appP bs w t xs l c f = some (b, c')) : ∃ d, appP bs w t xs l c (zipL xs f g) = some ((b, d), c') := by
  unfold appP at h ⊢
  split at h
  · rename_i q c1 h1
    obtain ⟨d, h2⟩ := appLs_zip (g := g) h1
    rw [h2]
    split at h
    · rename_i hb; cases h; exact ⟨d, by simp [hb]⟩
    · cases h
  · cases h
theorem appCs_map {φ : β → γ} : ∀ {xs : List (Bool × TypeId × List Sh)} {ls : List L} {c : Nat} {f : FnC xs β} {b : β} {c' : Nat}, appCs bs xs ls c f = some (b, c') → appCs bs xs ls c (mapC φ xs f) = some (φ b, c')
  | [], [], c, f, b, c', h => by cases h; rfl
  | [], _ :: _, c, f, b, c', h => by cases h
  | _ :: _, [], c, f, b, c', h => by cases h
  | x :: r, l :: ls, c, f, b, c', h => by
    simp only [appCs] at h
    split at h
    · rename_i g c1 h1
      simp only [appCs, mapC, appP_map (φ := fun q : FnC r β => mapC φ r q) h1]
      exact appCs_map h
    · cases h
theorem appCs_zip : ∀ {xs : List (Bool × TypeId × List Sh)} {ls : List L} {c : Nat} {f : FnC xs β} {g : FnC xs γ} {b : β} {c' : Nat}, appCs bs xs ls c f = some (b, c') → ∃ d, appCs bs xs ls c (zipC xs f g) = some ((b, d), c')
  | [], [], c, f, g, b, c', h => by cases h; exact ⟨_, rfl⟩
  | [], _ :: _, c, f, g, b, c', h => by cases h
  | _ :: _, [], c, f, g, b, c', h => by cases h
  | x :: r, l :: ls, c, f, g, b, c', h => by
    simp only [appCs] at h
    split at h
    · rename_i q c1 h1
      obtain ⟨d, h2⟩ := appP_zip (γ := FnC r γ) (g := g) h1
      simp only [appCs, zipC, appP_map (φ := fun q : FnC r β × FnC r γ => zipC r q.1 q.2) h2]
      exact appCs_zip h
    · cases h
theorem appVs_zip : ∀ {xs : List VSh} {ls : List V} {c : Nat} {f : FnV xs β} {g : FnV xs γ} {b : β} {c' : Nat}, appVs bs xs ls c f = some (b, c') → ∃ d, appVs bs xs ls c (zipV xs f g) = some ((b, d), c')
  | [], [], c, f, g, b, c', h => by cases h; exact ⟨_, rfl⟩
  | [], _ :: _, c, f, g, b, c', h => by cases h
  | .one x :: r, ls, c, f, g, b, c', h => by
    cases ls with
    | nil => cases h
    | cons v ls =>
      cases v with
      | agg l => cases h
      | one l =>
        simp only [appVs] at h
        split at h
        · rename_i q c1 h1
          obtain ⟨d, h2⟩ := appS_zip (γ := FnV r γ) (g := g) h1
          simp only [appVs, zipV, appS_map (φ := fun q : FnV r β × FnV r γ => zipV r q.1 q.2) h2]
          exact appVs_zip h
        · cases h
  | .agg xs :: r, ls, c, f, g, b, c', h => by
    cases ls with
    | nil => cases h
    | cons v ls =>
      cases v with
      | one l => cases h
      | agg l =>
        simp only [appVs] at h
        split at h
        · rename_i q c1 h1
          obtain ⟨d, h2⟩ := appLs_zip (γ := FnV r γ) (g := g) h1
          simp only [appVs, zipV, appLs_map (φ := fun q : FnV r β × FnV r γ => zipV r q.1 q.2) h2]
          exact appVs_zip h
        · cases h
  | .ptr w t xs :: r, ls, c, f, g, b, c', h => by
    cases ls with
    | nil => cases h
    | cons v ls =>
      cases v with
      | agg l => cases h
      | one l =>
        simp only [appVs] at h
        split at h
        · rename_i q c1 h1
          obtain ⟨d, h2⟩ := appP_zip (γ := FnV r γ) (g := g) h1
          simp only [appVs, zipV, appP_map (φ := fun q : FnV r β × FnV r γ => zipV r q.1 q.2) h2]
          exact appVs_zip h
        · cases h
  | .fn q caps :: r, ls, c, f, g, b, c', h => by
    cases ls with
    | nil => cases h
    | cons v ls =>
      cases v with
      | agg l => cases h
      | one l =>
        cases l with
        | fn q' cs =>
          simp only [appVs] at h
          split at h
          · rename_i e
            subst e
            split at h
            · rename_i q1 c1 h1
              obtain ⟨d, h2⟩ := appCs_zip (γ := FnV r γ) (g := g) h1
              simp only [appVs, zipV, if_true, appCs_map (φ := fun q : FnV r β × FnV r γ => zipV r q.1 q.2) h2]
              exact appVs_zip h
            · cases h
          · cases h
        | _ => cases h
end
end Go.Proofs.Ytefofjpjbogilaa.M
