/- Regions that draw their order: no order matters. -/
import Derived.Test.YtefofjpjbogilaaLoc2
import Derived.Orders
namespace Go.Proofs.Ytefofjpjbogilaa.M
set_option linter.unusedVariables false
set_option linter.unusedSimpArgs false
set_option linter.unusedSectionVars false

/-- The operations of S done, in the text's order. -/
def cS (S : Nat → Bool) : List Tr → St → St
  | [], st => st
  | x :: l, st => cS S l (if S x.i = true then st.app x.dst x.δ else st)
theorem cS_append (S : Nat → Bool) : ∀ (l l' : List Tr) (st : St), cS S (l ++ l') st = cS S l' (cS S l st)
  | [], _, _ => rfl
  | x :: l, l', st => cS_append S l l' _
theorem cS_same (S : Nat → Bool) : ∀ (l : List Tr) (st : St), (cS S l st).e = st.e ∧ (cS S l st).n = st.n ∧ (cS S l st).o = st.o
  | [], st => ⟨rfl, rfl, rfl⟩
  | x :: l, st => by
    have := cS_same S l (if S x.i = true then st.app x.dst x.δ else st)
    simp only [cS]
    split at this <;> rename_i h <;> simp only [h, if_true, if_false, Bool.false_eq_true] <;> exact this
theorem app_slot {st : St} {d : Option Tmp} {δ : Dl} {n : Nat} (h : d ≠ some n) : (st.app d δ).t n = st.t n := by
  cases d with
  | none => rfl
  | some d => exact upd_ne _ _ _ fun e => h (by rw [e])
theorem cS_slot {S T : Nat → Bool} {n : Nat} : ∀ {l : List Tr} {st st' : St}, (∀ x ∈ l, x.dst = some n → S x.i = T x.i) → st.t n = st'.t n → (cS S l st).t n = (cS T l st').t n
  | [], st, st', _, h => h
  | x :: l, st, st', hx, h => by
    simp only [cS]
    refine cS_slot (fun y hy => hx y (List.mem_cons_of_mem _ hy)) ?_
    by_cases hd : x.dst = some n
    · rw [← hx x List.mem_cons_self hd]
      split
      · show (match x.dst with | some d => upd st.t d x.δ.x | none => st.t) n = (match x.dst with | some d => upd st'.t d x.δ.x | none => st'.t) n
        rw [hd]
        simp only [upd_same]
      · exact h
    · have e1 : (if S x.i = true then st.app x.dst x.δ else st).t n = st.t n := by split; exact app_slot hd; rfl
      have e2 : (if T x.i = true then st'.app x.dst x.δ else st').t n = st'.t n := by split; exact app_slot hd; rfl
      rw [e1, e2, h]
theorem appM_at : ∀ {ks : List (Key × Option Blk)} {m m' : Key → Option Blk} {k : Key}, m k = m' k → appM m ks k = appM m' ks k
  | [], m, m', k, h => h
  | (k1, b) :: ks, m, m', k, h => appM_at (ks := ks) (by
      by_cases hk : k = k1
      · subst hk; rw [upd_same, upd_same]
      · rw [upd_ne _ _ _ hk, upd_ne _ _ _ hk, h])
theorem appM_out {ks : List (Key × Option Blk)} {m : Key → Option Blk} {k : Key} (h : k ∉ ks.map (·.1)) : appM m ks k = m k :=
  appM_none fun b hb => h (List.mem_map.2 ⟨_, hb, rfl⟩)
theorem cS_mem {S T : Nat → Bool} {k : Key} : ∀ {l : List Tr} {st st' : St}, (∀ x ∈ l, k ∈ x.δ.ks.map (·.1) → S x.i = T x.i) → st.m k = st'.m k → (cS S l st).m k = (cS T l st').m k
  | [], st, st', _, h => h
  | x :: l, st, st', hx, h => by
    simp only [cS]
    refine cS_mem (fun y hy => hx y (List.mem_cons_of_mem _ hy)) ?_
    by_cases hd : k ∈ x.δ.ks.map (·.1)
    · rw [← hx x List.mem_cons_self hd]
      split
      · exact appM_at h
      · exact h
    · have e1 : (if S x.i = true then st.app x.dst x.δ else st).m k = st.m k := by split; exact appM_out hd; rfl
      have e2 : (if T x.i = true then st'.app x.dst x.δ else st').m k = st'.m k := by split; exact appM_out hd; rfl
      rw [e1, e2, h]
theorem cS_none : ∀ (l : List Tr) (st : St), cS (fun _ => false) l st = st
  | [], _ => rfl
  | x :: l, st => cS_none l st

theorem free_spec {x y : Tr} (h : x.free y = true) : (∀ d, x.dst = some d → d ∉ y.ls ∧ y.dst ≠ some d) ∧ (∀ d, y.dst = some d → d ∉ x.ls) ∧
    (∀ k, k ∈ x.δ.ks.map (·.1) → k ∉ y.rd ∧ k ∉ y.δ.ks.map (·.1)) ∧ (∀ k, k ∈ y.δ.ks.map (·.1) → k ∉ x.rd) := by
  unfold Tr.free at h
  simp only [Bool.and_eq_true, List.all_eq_true] at h
  obtain ⟨⟨⟨h1, h2⟩, h3⟩, h4⟩ := h
  refine ⟨fun d hd => ?_, fun d hd => ?_, fun k hk => ?_, fun k hk => ?_⟩
  · rw [hd] at h1
    simp only [Bool.and_eq_true, Bool.not_eq_true', bne_iff_ne] at h1
    exact ⟨by simpa using h1.1, h1.2⟩
  · rw [hd] at h2
    simpa using h2
  · obtain ⟨b, hb, rfl⟩ := List.mem_map.1 hk
    have := h3 b hb
    simp only [Bool.and_eq_true, Bool.not_eq_true'] at this
    exact ⟨by simpa using this.1, fun hm => by have h2 := this.2; have h3 : (List.map (·.1) y.δ.ks).contains b.1 = true := List.contains_iff_mem.2 hm; rw [h3] at h2; cases h2⟩
  · obtain ⟨b, hb, rfl⟩ := List.mem_map.1 hk
    have := h4 b hb
    simpa using this
theorem pairs_spec {all : Array Oper} : ∀ {l l1 l2 : List Tr} {x : Tr}, pairsOk all l = true → l = l1 ++ x :: l2 → (∀ y ∈ l2, waits all x.i y.i = true ∨ x.free y = true) ∧ ∀ z ∈ l1, waits all z.i x.i = true ∨ z.free x = true
  | [], l1, l2, x, _, e => by simp at e
  | a :: l, [], l2, x, h, e => by
    simp only [List.nil_append, List.cons.injEq] at e
    obtain ⟨rfl, rfl⟩ := e
    simp only [pairsOk, Bool.and_eq_true, List.all_eq_true, Bool.or_eq_true] at h
    exact ⟨h.1, fun z hz => by simp at hz⟩
  | a :: l, b :: l1, l2, x, h, e => by
    simp only [List.cons_append, List.cons.injEq] at e
    obtain ⟨rfl, rfl⟩ := e
    simp only [pairsOk, Bool.and_eq_true, List.all_eq_true, Bool.or_eq_true] at h
    obtain ⟨i1, i2⟩ := pairs_spec (l := l1 ++ x :: l2) (l1 := l1) (l2 := l2) (x := x) h.2 rfl
    refine ⟨i1, fun z hz => ?_⟩
    rw [List.mem_cons] at hz
    rcases hz with rfl | hz
    · exact h.1 x (by simp)
    · exact i2 z hz

theorem trace_spec {P : Program} {md : Nat → List Bool} {orc : Orc} {all : Array Oper} : ∀ {r : List Oper} {i : Nat} {st : St} {l : List Tr}, trace P md orc all i r st = some l →
    l.length = r.length ∧ (∀ st', runOps P md orc all i r st = some st' → st' = cS (fun _ => true) l st) ∧
    ∀ l1 x l2, l = l1 ++ x :: l2 → ∃ o, r[l1.length]? = some o ∧ x.i = i + l1.length ∧ x.dst = o.dst ∧ x.ls = looks all o ∧ x.rd = rdK all o (cS (fun _ => true) l1 st) ∧ opD P md orc all x.i o (cS (fun _ => true) l1 st) = some x.δ
  | [], i, st, l, h => by
    cases h
    exact ⟨rfl, fun st' h => by cases h; rfl, fun l1 x l2 e => by simp at e⟩
  | o :: r, i, st, l, h => by
    simp only [trace] at h
    split at h
    · rename_i δ hδ
      split at h
      · rename_i l' hl'
        cases h
        obtain ⟨i1, i2, i3⟩ := trace_spec hl'
        refine ⟨by simp [i1], fun st' hr => ?_, fun l1 x l2 e => ?_⟩
        · have hr' : runOps P md orc all (i + 1) r (st.app o.dst δ) = some st' := by
            unfold opD at hδ
            simp only [runOps] at hr
            split at hδ
            · rename_i hd
              rw [if_pos hd] at hr
              split at hδ
              · rename_i g hg
                rw [hg] at hr
                cases g with
                | true =>
                  simp only [cond_true] at hδ hr
                  rw [hδ] at hr
                  exact hr
                | false =>
                  simp only [cond_false] at hδ hr
                  cases hδ
                  exact hr
              · cases hδ
            · cases hδ
          exact i2 st' hr'
        · cases l1 with
          | nil =>
            simp only [List.nil_append, List.cons.injEq] at e
            obtain ⟨rfl, rfl⟩ := e
            exact ⟨o, rfl, rfl, rfl, rfl, rfl, hδ⟩
          | cons b l1 =>
            simp only [List.cons_append, List.cons.injEq] at e
            obtain ⟨rfl, rfl⟩ := e
            obtain ⟨o', q1, q2, q3, q4, q5, q6⟩ := i3 l1 x l2 rfl
            exact ⟨o', by simpa using q1, by rw [q2]; simp; omega, q3, q4, q5, q6⟩
      · cases h
    · cases h

section
variable {P : Program} {md : Nat → List Bool} {orc : Orc} {all : Array Oper} {st0 : St} {l : List Tr}
variable (hl : trace P md orc all 0 all.toList st0 = some l) (hp : pairsOk all l = true)
include hl
theorem tr_at {i : Nat} (hi : i < all.size) : ∃ l1 x l2 o, l = l1 ++ x :: l2 ∧ x.i = i ∧ l1.length = i ∧ all[i]? = some o ∧ x.dst = o.dst ∧ x.ls = looks all o ∧ x.rd = rdK all o (cS (fun _ => true) l1 st0) ∧ opD P md orc all i o (cS (fun _ => true) l1 st0) = some x.δ := by
  obtain ⟨h1, _, h3⟩ := trace_spec hl
  have hlt : i < l.length := by rw [h1]; simpa using hi
  have e : l = l.take i ++ l[i] :: l.drop (i + 1) := by rw [List.getElem_cons_drop, List.take_append_drop]
  obtain ⟨o, q1, q2, q3, q4, q5, q6⟩ := h3 _ _ _ e
  have hlen : (l.take i).length = i := by simp; omega
  rw [hlen] at q1 q2
  have hx : l[i].i = i := by rw [q2]; omega
  rw [hx] at q6
  exact ⟨_, _, _, o, e, hx, hlen, by simpa using q1, q3, q4, q5, q6⟩
theorem tr_num {l1 l2 : List Tr} {x : Tr} (e : l = l1 ++ x :: l2) : x.i = l1.length := by
  obtain ⟨o, _, q2, _⟩ := (trace_spec hl).2.2 _ _ _ e
  omega
theorem tr_split {l1 l2 : List Tr} {x : Tr} (e : l = l1 ++ x :: l2) : (∀ z ∈ l1, z.i < x.i) ∧ ∀ y ∈ l2, x.i < y.i := by
  constructor
  · intro z hz
    obtain ⟨a, b, rfl⟩ := List.append_of_mem hz
    rw [tr_num hl e, tr_num hl (l1 := a) (l2 := b ++ x :: l2) (x := z) (by rw [e]; simp)]
    simp <;> omega
  · intro y hy
    obtain ⟨a, b, rfl⟩ := List.append_of_mem hy
    rw [tr_num hl e, tr_num hl (l1 := l1 ++ x :: a) (l2 := b) (x := y) (by rw [e]; simp)]
    simp <;> omega
include hp
/-- An operation that may come up gives what it gives in the text's order. -/
theorem opD_any {S : Nat → Bool} {l1 l2 : List Tr} {x : Tr} {o : Oper} (e : l = l1 ++ x :: l2) (hx : S x.i = false) (hls : x.ls = looks all o) (hrd : x.rd = rdK all o (cS (fun _ => true) l1 st0)) (hop : opD P md orc all x.i o (cS (fun _ => true) l1 st0) = some x.δ)
    (hclosed : ∀ i j, S j = true → waits all i j = true → S i = true) (hready : ∀ i, waits all i x.i = true → S i = true) : opD P md orc all x.i o (cS S l st0) = some x.δ := by
  obtain ⟨p1, p2⟩ := pairs_spec hp e
  have f1 : ∀ z ∈ l1, S z.i = false → z.free x = true := fun z hz hs => (p2 z hz).resolve_left fun hw => by rw [hready _ hw] at hs; cases hs
  have f2 : ∀ y ∈ l2, S y.i = true → x.free y = true := fun y hy hs => (p1 y hy).resolve_left fun hw => by rw [hclosed _ _ hs hw] at hx; cases hx
  rw [e, cS_append]
  have s1 := cS_same S (x :: l2) (cS S l1 st0)
  have s2 := cS_same S l1 st0
  have s3 := cS_same (fun _ => true) l1 st0
  rw [← hop]
  refine opD_loc (fun n hn => ?_) (by rw [s1.1, s2.1, s3.1]) (by rw [s1.2.1, s2.2.1, s3.2.1]) (fun k hk => ?_)
  · rw [cS_slot (T := fun _ => false) (st' := cS S l1 st0) (fun y hy hd => ?_) rfl, cS_none]
    · refine cS_slot (fun z hz hd => ?_) rfl
      cases hs : S z.i with
      | true => rfl
      | false => exact absurd (hls ▸ hn) ((free_spec (f1 z hz hs)).1 n hd).1
    · rw [List.mem_cons] at hy
      rcases hy with rfl | hy
      · exact hx
      · cases hs : S y.i with
        | false => rfl
        | true => exact absurd (hls ▸ hn) ((free_spec (f2 y hy hs)).2.1 n hd)
  · rw [cS_mem (T := fun _ => false) (st' := cS S l1 st0) (fun y hy hd => ?_) rfl, cS_none]
    · refine cS_mem (fun z hz hd => ?_) rfl
      cases hs : S z.i with
      | true => rfl
      | false => exact absurd (hrd ▸ hk) ((free_spec (f1 z hz hs)).2.2.1 k hd).1
    · rw [List.mem_cons] at hy
      rcases hy with rfl | hy
      · exact hx
      · cases hs : S y.i with
        | false => rfl
        | true => exact absurd (hrd ▸ hk) ((free_spec (f2 y hy hs)).2.2.2 k hd)
/-- Its doing makes of the state of S the state of S and it. -/
theorem app_any {S : Nat → Bool} {l1 l2 : List Tr} {x : Tr} (e : l = l1 ++ x :: l2) (hx : S x.i = false) (hclosed : ∀ i j, S j = true → waits all i j = true → S i = true) :
    (cS S l st0).app x.dst x.δ = cS (fun i => S i || i == x.i) l st0 := by
  obtain ⟨p1, p2⟩ := pairs_spec hp e
  obtain ⟨t1, t2⟩ := tr_split hl e
  have f2 : ∀ y ∈ l2, S y.i = true → x.free y = true := fun y hy hs => (p1 y hy).resolve_left fun hw => by rw [hclosed _ _ hs hw] at hx; cases hx
  have hS' : ∀ y ∈ l2, (S y.i || y.i == x.i) = S y.i := fun y hy => by
    have := t2 y hy
    have : (y.i == x.i) = false := by simp; omega
    simp [this]
  have a1 := cS_same S l st0
  have a2 := cS_same (fun i => S i || i == x.i) l st0
  have ht : ((cS S l st0).app x.dst x.δ).t = (cS (fun i => S i || i == x.i) l st0).t := by
    funext n
    by_cases hd : x.dst = some n
    · have h1 : ((cS S l st0).app x.dst x.δ).t n = x.δ.x := by
        show (match x.dst with | some d => upd (cS S l st0).t d x.δ.x | none => (cS S l st0).t) n = _
        rw [hd]; exact upd_same _ _ _
      rw [h1, e, cS_append]
      simp only [cS, beq_self_eq_true, Bool.or_true, if_true]
      rw [cS_slot (T := fun _ => false) (st' := (cS (fun i => S i || i == x.i) l1 st0).app x.dst x.δ) (fun y hy hdy => ?_) rfl, cS_none]
      · show _ = (match x.dst with | some d => upd _ d x.δ.x | none => _) n
        rw [hd]; exact (upd_same _ _ _).symm
      · rw [hS' y hy]
        cases hs : S y.i with
        | false => rfl
        | true => exact absurd hdy ((free_spec (f2 y hy hs)).1 n hd).2
    · rw [app_slot hd]
      refine cS_slot (fun y hy hdy => ?_) rfl
      have : y.i ≠ x.i := by
        intro hi
        rw [e, List.mem_append, List.mem_cons] at hy
        rcases hy with hy | rfl | hy
        · have := t1 y hy; omega
        · exact hd hdy
        · have := t2 y hy; omega
      simp [this]
  have hm : ((cS S l st0).app x.dst x.δ).m = (cS (fun i => S i || i == x.i) l st0).m := by
    funext k
    by_cases hk : k ∈ x.δ.ks.map (·.1)
    · have hno : ∀ y ∈ l2, k ∈ y.δ.ks.map (·.1) → S y.i = false := fun y hy hky => by
        cases hs : S y.i with
        | false => rfl
        | true => exact absurd hky ((free_spec (f2 y hy hs)).2.2.1 k hk).2
      have h0 : (cS S l st0).m k = (cS S l1 st0).m k := by
        rw [e, cS_append]
        rw [cS_mem (T := fun _ => false) (st' := cS S l1 st0) (fun y hy hky => ?_) rfl, cS_none]
        rw [List.mem_cons] at hy
        rcases hy with rfl | hy
        · exact hx
        · exact hno y hy hky
      have h1 : (cS (fun i => S i || i == x.i) l1 st0).m k = (cS S l1 st0).m k := cS_mem (fun z hz _ => by
        have := t1 z hz
        have : (z.i == x.i) = false := by simp; omega
        simp [this]) rfl
      have h3 : ((cS S l st0).app x.dst x.δ).m k = appM (cS S l1 st0).m x.δ.ks k := appM_at h0
      have h4 : (cS (fun i => S i || i == x.i) l st0).m k = appM (cS (fun i => S i || i == x.i) l1 st0).m x.δ.ks k := by
        rw [e, cS_append]
        simp only [cS, beq_self_eq_true, Bool.or_true, if_true]
        rw [cS_mem (S := fun i => S i || i == x.i) (l := l2) (T := fun _ => false) (st' := (cS (fun i => S i || i == x.i) l1 st0).app x.dst x.δ) (fun y hy hky => (hS' y hy).trans (hno y hy hky)) rfl, cS_none]
        rfl
      rw [h3, h4]
      exact appM_at h1.symm
    · have : ((cS S l st0).app x.dst x.δ).m k = (cS S l st0).m k := appM_out hk
      rw [this]
      refine cS_mem (fun y hy hky => ?_) rfl
      have : y.i ≠ x.i := by
        intro hi
        rw [e, List.mem_append, List.mem_cons] at hy
        rcases hy with hy | rfl | hy
        · have := t1 y hy; omega
        · exact hk hky
        · have := t2 y hy; omega
      simp [this]
  have he : ((cS S l st0).app x.dst x.δ).e = (cS (fun i => S i || i == x.i) l st0).e := a1.1.trans a2.1.symm
  have hn : ((cS S l st0).app x.dst x.δ).n = (cS (fun i => S i || i == x.i) l st0).n := a1.2.1.trans a2.2.1.symm
  have ho : ((cS S l st0).app x.dst x.δ).o = (cS (fun i => S i || i == x.i) l st0).o := a1.2.2.trans a2.2.2.symm
  cases h1 : (cS S l st0).app x.dst x.δ
  cases h2 : cS (fun i => S i || i == x.i) l st0
  rw [h1, h2] at ht hm he hn ho
  simp only at ht hm he hn ho
  subst ht hm he hn ho
  rfl
end
end Go.Proofs.Ytefofjpjbogilaa.M
