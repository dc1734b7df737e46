/- Contracts, and code that is walked by them. -/
import Derived.Test.YtefofjpjbogilaaDraw2
namespace Go.Proofs.Ytefofjpjbogilaa.M
set_option linter.unusedVariables false
set_option linter.unusedSimpArgs false
set_option linter.unusedSectionVars false

/-- What a call gives back. -/
abbrev Res := List V × List V × List Blk
/-- What a function is told to do: of some of its results at least one is right. -/
abbrev PostT := Nat → List V → List Blk → Res → Prop
def Good (P : Program) (md : Nat → List Bool) (Post : PostT) (g : Nat) (ts : List V) (bs : List Blk) : Prop :=
  ∃ r : Res, Post g ts bs r ∧ CallOk P (md g) g ts bs r.1 r.2.1 r.2.2
open Classical in
/-- The oracle of the contracts. -/
noncomputable def orcT (P : Program) (md : Nat → List Bool) (Post : PostT) : Orc := fun g ts bs => if h : Good P md Post g ts bs then some h.choose else none
theorem orcT_ok (P : Program) (md : Nat → List Bool) (Post : PostT) : OrcOk P md (orcT P md Post) := by
  intro g ts bs rs os bs' h
  unfold orcT at h
  split at h
  · rename_i hg
    have := hg.choose_spec.2
    cases hc : hg.choose with
    | mk a b =>
      obtain ⟨b1, b2⟩ := b
      rw [hc] at h this
      cases h
      exact this
  · cases h
theorem orcT_of {P : Program} {md : Nat → List Bool} {Post : PostT} {g : Nat} {ts : List V} {bs : List Blk} (h : Good P md Post g ts bs) : ∃ rs os bs', orcT P md Post g ts bs = some (rs, os, bs') ∧ Post g ts bs (rs, os, bs') := by
  refine ⟨h.choose.1, h.choose.2.1, h.choose.2.2, ?_, h.choose_spec.1⟩
  unfold orcT
  rw [dif_pos h]

/-! ### More rounds do no harm -/
theorem loopN_mono {hd : St → St} {f g : St → Option (Ex × St)} (h : ∀ s r, f s = some r → g s = some r) : ∀ {k k' : Nat} {s : St} {r : Ex × St}, k ≤ k' → loopN hd f k s = some r → loopN hd g k' s = some r
  | 0, _, s, r, _, e => by cases e
  | k + 1, 0, s, r, hk, _ => by omega
  | k + 1, k' + 1, s, r, hk, e => by
    simp only [loopN] at e ⊢
    split at e
    · rename_i s' hs
      rw [h _ _ hs]
      exact loopN_mono h (by omega) e
    · rename_i hne
      rw [h _ _ e]
      split
      · rename_i s' hs
        cases hs
        exact absurd e (hne s')
      · rfl
theorem exec_mono {E : Env} {orc : Orc} {f : Nat} : ∀ (c : Code) {id k k' : Nat} {st : St} {r : Ex × St}, k ≤ k' → exec E orc f c id k st = some r → exec E orc f c id k' st = some r := by
  intro c
  induction c with
  | skip => intro id k k' st r hk h; exact h
  | region => intro id k k' st r hk h; exact h
  | exit => intro id k k' st r hk h; exact h
  | ret => intro id k k' st r hk h; exact h
  | seq x y ihx ihy =>
    intro id k k' st r hk h
    simp only [exec] at h ⊢
    split at h
    · rename_i s hs
      rw [ihx hk hs]
      exact ihy hk h
    · rename_i hne
      rw [ihx hk h]
      split
      · rename_i s hs
        cases hs
        exact absurd h (hne s)
      · rfl
  | cond c x y ihx ihy =>
    intro id k k' st r hk h
    simp only [exec] at h ⊢
    split at h
    · rename_i t ht
      cases t with
      | true => exact ihx hk h
      | false => exact ihy hk h
    · cases h
  | block bid c ih =>
    intro id k k' st r hk h
    simp only [exec] at h ⊢
    split at h
    · rename_i i s hs
      rw [ih hk hs]
      exact h
    · rename_i hne
      rw [ih hk h]
      split
      · rename_i i s hs
        cases hs
        exact absurd h (hne i s)
      · rfl
  | loop c ih =>
    intro id k k' st r hk h
    simp only [exec] at h ⊢
    exact loopN_mono (fun s r hs => ih hk hs) hk h
  | _ => intros; rename_i h; simp [exec] at h

/-- The code comes to an end, as Q says. -/
def Ev (E : Env) (orc : Orc) (f : Nat) (c : Code) (id : Nat) (st : St) (Q : Ex → St → Prop) : Prop := ∃ k ex st', exec E orc f c id k st = some (ex, st') ∧ Q ex st'
section
variable {E : Env} {orc : Orc} {f id : Nat} {st : St} {Q : Ex → St → Prop}
theorem Ev.mono {c : Code} {Q' : Ex → St → Prop} (h : Ev E orc f c id st Q) (hq : ∀ ex s, Q ex s → Q' ex s) : Ev E orc f c id st Q' := by
  obtain ⟨k, ex, s, h1, h2⟩ := h
  exact ⟨k, ex, s, h1, hq _ _ h2⟩
def onNx (N : St → Prop) (Q : Ex → St → Prop) : Ex → St → Prop | .nx, s => N s | e, s => Q e s
theorem Ev.seq {x y : Code} (h : Ev E orc f x id st (onNx (fun s => Ev E orc f y id s Q) Q)) : Ev E orc f (.seq x y) id st Q := by
  obtain ⟨k, ex, s, h1, h2⟩ := h
  cases ex with
  | nx =>
    obtain ⟨k', ex', s', h3, h4⟩ := h2
    refine ⟨max k k', ex', s', ?_, h4⟩
    simp only [exec, exec_mono x (Nat.le_max_left k k') h1, exec_mono y (Nat.le_max_right k k') h3]
  | exit i => exact ⟨k, .exit i, s, by simp only [exec, h1], h2⟩
  | ret => exact ⟨k, .ret, s, by simp only [exec, h1], h2⟩
theorem Ev.cond {c : Operand} {x y : Code} {t : Bool} (hc : evF st c = some (.bool t)) (ht : t = true → Ev E orc f x id st Q) (hf : t = false → Ev E orc f y id st Q) : Ev E orc f (.cond c x y) id st Q := by
  cases t with
  | true =>
    obtain ⟨k, ex, s, h1, h2⟩ := ht rfl
    exact ⟨k, ex, s, by simp only [exec, hc, cond_true, h1], h2⟩
  | false =>
    obtain ⟨k, ex, s, h1, h2⟩ := hf rfl
    exact ⟨k, ex, s, by simp only [exec, hc, cond_false, h1], h2⟩
theorem Ev.region {rid : Nat} {ops : Array Oper} {draw : Bool} {s : St} (hd : draw = true → drawOk E.P E.md orc ops st = true) (hr : runOps E.P E.md orc ops 0 ops.toList st = some s) (h : Q .nx { s with e := s.e + 1 }) : Ev E orc f (.region rid ops draw) id st Q := by
  refine ⟨0, .nx, _, ?_, h⟩
  simp only [exec]
  rw [if_neg (by rintro ⟨h1, h2⟩; rw [hd h1] at h2; cases h2), hr]
theorem Ev.skip (h : Q .nx st) : Ev E orc f .skip id st Q := ⟨0, .nx, st, rfl, h⟩
theorem Ev.exit {i : Nat} (h : Q (.exit i) st) : Ev E orc f (.exit i) id st Q := ⟨0, .exit i, st, rfl, h⟩
theorem Ev.ret (h : Q .ret st) : Ev E orc f .ret id st Q := ⟨0, .ret, st, rfl, h⟩
def onExit (bid : Nat) (Q : Ex → St → Prop) : Ex → St → Prop | .exit i, s => if i = bid then Q .nx s else Q (.exit i) s | e, s => Q e s
theorem Ev.block {bid : Nat} {c : Code} (h : Ev E orc f c bid st (onExit bid Q)) : Ev E orc f (.block bid c) id st Q := by
  obtain ⟨k, ex, s, h1, h2⟩ := h
  cases ex with
  | nx => exact ⟨k, .nx, s, by simp only [exec, h1], h2⟩
  | exit i =>
    simp only [onExit] at h2
    split at h2
    · rename_i hi
      exact ⟨k, .nx, s, by simp only [exec, h1, hi, if_true], h2⟩
    · rename_i hi
      exact ⟨k, .exit i, s, by simp only [exec, h1, hi, if_false], h2⟩
  | ret => exact ⟨k, .ret, s, by simp only [exec, h1], h2⟩
/-- A loop: a relation of the head's state, and a number that every round lowers. -/
theorem Ev.loop {c : Code} (I : Nat → St → Prop) (n : Nat) (h0 : I n (head (E.keep f id) st))
    (round : ∀ n s, I n s → Ev E orc f c id s (onNx (fun s' => ∃ m, m < n ∧ I m (head (E.keep f id) s')) Q)) : Ev E orc f (.loop c) id st Q := by
  induction n using Nat.strongRecOn generalizing st with
  | _ n ih =>
    obtain ⟨k, ex, s, h1, h2⟩ := round n _ h0
    cases ex with
    | nx =>
      obtain ⟨m, hm, hI⟩ := h2
      obtain ⟨k', ex', s', h3, h4⟩ := ih m hm hI
      simp only [exec] at h3
      refine ⟨max k k' + 1, ex', s', ?_, h4⟩
      simp only [exec, loopN]
      rw [exec_mono c (by omega : k ≤ max k k' + 1) h1]
      exact loopN_mono (fun s r hs => exec_mono c (by omega) hs) (by omega : k' ≤ max k k') h3
    | exit i => exact ⟨k + 1, .exit i, s, by simp only [exec, loopN]; rw [exec_mono c (by omega : k ≤ k + 1) h1], h2⟩
    | ret => exact ⟨k + 1, .ret, s, by simp only [exec, loopN]; rw [exec_mono c (by omega : k ≤ k + 1) h1], h2⟩
end
/-- A function that keeps its contract. -/
theorem good_of {E : Env} (hmix : E.P.follows .mixedOrders = true) {Post : PostT} {f : FuncId} {fn : Func} {c : Code} (hfn : E.P.funcs[f]? = some fn) (hc : fn.body = some c) {ts : List V} {bs : List Blk} (hlen : ts.length ≤ fn.ntmps)
    (h : Ev E (orcT E.P E.md Post) f c 0 (startSt (E.md f) fn.ntmps ts bs) fun ex st => (ex = .nx ∨ ex = .ret) ∧ ∃ r, finish E.P fn.results.toList st = some r ∧ Post f ts bs r) : Good E.P E.md Post f ts bs := by
  obtain ⟨k, ex, st, h1, h2, ⟨rs, os, bs'⟩, h3, h4⟩ := h
  exact ⟨(rs, os, bs'), h4, body_ok (orcT_ok _ _ _) (draw_ok hmix (orcT_ok _ _ _)) hfn hc hlen h2 h1 h3⟩
end Go.Proofs.Ytefofjpjbogilaa.M
