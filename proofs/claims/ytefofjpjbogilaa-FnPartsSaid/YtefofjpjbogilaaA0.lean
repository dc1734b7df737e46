/- slices.Clone of this program's types: a row of its own with the same elements. -/
import Derived.Test.YtefofjpjbogilaaClone
import Derived.Test.YtefofjpjbogilaaW3
import Derived.Test.YtefofjpjbogilaaTab
set_option linter.unusedVariables false
set_option linter.unusedSimpArgs false
open Go Go.Proofs.Ytefofjpjbogilaa.M
namespace Go.Proofs.Ytefofjpjbogilaa
theorem mix : E.P.follows .mixedOrders = true := by kernel_rfl
/-- No row is longer than this. -/
def Len (xs : List (List Value)) : Prop := xs.length ≤ 1099511627776
noncomputable def cloneS (e : TypeId) (xs : List (List Value)) : St := { (startSt [] 8 [.one (.sl (pk 0))] [.row .ro e xs]).app (some 2) ⟨.v (.one (.sl ⟨1, 1, 0⟩)), [(⟨1, 1, 0⟩, some (.row .own e []))]⟩ with e := 2 }
def cloneC (e : TypeId) : Ctr := { ash := [.one (.r .ro e)], rsh := [.one (.r .own e)], osh := [], pq := fun xs => (Len xs, fun ys => ys = xs) }
theorem cloneC_ok {f : Nat} {e : TypeId} (h : ∀ xs : List (List Value), Len xs → CallOk E.P (E.md f) f [.one (.sl (pk 0))] [.row .ro e xs] [.one (.sl (pk 0))] [] [.row .own e xs]) : Holds E.P E.md f (cloneC e) := by
  intro ts bs pre q ha hp
  obtain ⟨nb, k1, k2⟩ := genVs_ok (xs := [.one (.r .ro e)]) (c := 0) (f := (cloneC e).pq) (K := fun ts bs _ b => .imp b.1 (.fin (∃ r : Res, resOk (cloneC e) b.2 r ∧ CallOk E.P (E.md f) f ts bs r.1 r.2.1 r.2.2)))
    (by
      intro xs hl
      exact ⟨([.one (.sl (pk 0))], [], [.row .own e xs]), ⟨rfl, xs = xs, by simp [appVs, appS, cloneC, pk], rfl⟩, h xs hl⟩) ha
  simp only [List.drop_zero, List.drop_length, List.append_nil] at k2
  subst k2
  exact k1 hp
-- @PRIM cloneTell 104
def c_cloneTell : Ctr := cloneC 35
theorem t_cloneTell : Holds E.P E.md 104 c_cloneTell := cloneC_ok fun xs hl => by
  have hl : xs.length ≤ 1099511627776 := hl
  refine clone_ok (orc := orcW E.P E.md []) (orcW_ok _ _ _) mix (T := 25) (e := 35) (pp := 25) (s0 := cloneS 35 xs) Try.func104 rfl ⟨rfl, rfl, rfl⟩ ⟨rfl, rfl, rfl⟩ (by kernel_rfl) (by decide)
    (execG_ok (sc := {}) (sc' := {}) (cs := []) _ (by kernel_rfl) (by simp)) (by kernel_rfl) (by kernel_rfl) (by kernel_rfl) ?_ ?_
  · rintro rfl
    exact tailG_ok (sc := {}) (cs := []) (r := ([.one (.sl (pk 0))], [], [.row .own 35 []])) (by kernel_rfl) (by simp)
  · refine tailG_ok (sc := {}) (cs := [dec ((([] : List (List Value)).length + xs.length) * 24 ≤ 140737488355328 ∧ ([] : List (List Value)).length + xs.length ≤ 140737488355328)]) (r := ([.one (.sl (pk 0))], [], [.row .own 35 xs])) (by kernel_rfl) ?_
    intro c hc
    simp only [List.mem_singleton] at hc
    subst hc
    exact (show (([] : List (List Value)).length + xs.length) * 24 ≤ 140737488355328 ∧ ([] : List (List Value)).length + xs.length ≤ 140737488355328 by simp; omega)
-- @PRIM cloneOp 125
def c_cloneOp : Ctr := cloneC 29
theorem t_cloneOp : Holds E.P E.md 125 c_cloneOp := cloneC_ok fun xs hl => by
  have hl : xs.length ≤ 1099511627776 := hl
  refine clone_ok (orc := orcW E.P E.md []) (orcW_ok _ _ _) mix (T := 24) (e := 29) (pp := 24) (s0 := cloneS 29 xs) Try.func125 rfl ⟨rfl, rfl, rfl⟩ ⟨rfl, rfl, rfl⟩ (by kernel_rfl) (by decide)
    (execG_ok (sc := {}) (sc' := {}) (cs := []) _ (by kernel_rfl) (by simp)) (by kernel_rfl) (by kernel_rfl) (by kernel_rfl) ?_ ?_
  · rintro rfl
    exact tailG_ok (sc := {}) (cs := []) (r := ([.one (.sl (pk 0))], [], [.row .own 29 []])) (by kernel_rfl) (by simp)
  · refine tailG_ok (sc := {}) (cs := [dec ((([] : List (List Value)).length + xs.length) * 56 ≤ 140737488355328 ∧ ([] : List (List Value)).length + xs.length ≤ 140737488355328)]) (r := ([.one (.sl (pk 0))], [], [.row .own 29 xs])) (by kernel_rfl) ?_
    intro c hc
    simp only [List.mem_singleton] at hc
    subst hc
    exact (show (([] : List (List Value)).length + xs.length) * 56 ≤ 140737488355328 ∧ ([] : List (List Value)).length + xs.length ≤ 140737488355328 by simp; omega)
-- @PRIM cloneIns 130
def c_cloneIns : Ctr := cloneC 114
theorem t_cloneIns : Holds E.P E.md 130 c_cloneIns := cloneC_ok fun xs hl => by
  have hl : xs.length ≤ 1099511627776 := hl
  refine clone_ok (orc := orcW E.P E.md []) (orcW_ok _ _ _) mix (T := 45) (e := 114) (pp := 45) (s0 := cloneS 114 xs) Try.func130 rfl ⟨rfl, rfl, rfl⟩ ⟨rfl, rfl, rfl⟩ (by kernel_rfl) (by decide)
    (execG_ok (sc := {}) (sc' := {}) (cs := []) _ (by kernel_rfl) (by simp)) (by kernel_rfl) (by kernel_rfl) (by kernel_rfl) ?_ ?_
  · rintro rfl
    exact tailG_ok (sc := {}) (cs := []) (r := ([.one (.sl (pk 0))], [], [.row .own 114 []])) (by kernel_rfl) (by simp)
  · refine tailG_ok (sc := {}) (cs := [dec ((([] : List (List Value)).length + xs.length) * 72 ≤ 140737488355328 ∧ ([] : List (List Value)).length + xs.length ≤ 140737488355328)]) (r := ([.one (.sl (pk 0))], [], [.row .own 114 xs])) (by kernel_rfl) ?_
    intro c hc
    simp only [List.mem_singleton] at hc
    subst hc
    exact (show (([] : List (List Value)).length + xs.length) * 72 ≤ 140737488355328 ∧ ([] : List (List Value)).length + xs.length ≤ 140737488355328 by simp; omega)
-- @PRIM cloneStr 203
def c_cloneStr : Ctr := cloneC 9
theorem t_cloneStr : Holds E.P E.md 203 c_cloneStr := cloneC_ok fun xs hl => by
  have hl : xs.length ≤ 1099511627776 := hl
  refine clone_ok (orc := orcW E.P E.md []) (orcW_ok _ _ _) mix (T := 57) (e := 9) (pp := 57) (s0 := cloneS 9 xs) Try.func203 rfl ⟨rfl, rfl, rfl⟩ ⟨rfl, rfl, rfl⟩ (by kernel_rfl) (by decide)
    (execG_ok (sc := {}) (sc' := {}) (cs := []) _ (by kernel_rfl) (by simp)) (by kernel_rfl) (by kernel_rfl) (by kernel_rfl) ?_ ?_
  · rintro rfl
    exact tailG_ok (sc := {}) (cs := []) (r := ([.one (.sl (pk 0))], [], [.row .own 9 []])) (by kernel_rfl) (by simp)
  · refine tailG_ok (sc := {}) (cs := [dec ((([] : List (List Value)).length + xs.length) * 16 ≤ 140737488355328 ∧ ([] : List (List Value)).length + xs.length ≤ 140737488355328)]) (r := ([.one (.sl (pk 0))], [], [.row .own 9 xs])) (by kernel_rfl) ?_
    intro c hc
    simp only [List.mem_singleton] at hc
    subst hc
    exact (show (([] : List (List Value)).length + xs.length) * 16 ≤ 140737488355328 ∧ ([] : List (List Value)).length + xs.length ≤ 140737488355328 by simp; omega)
-- @PRIM cloneInt 204
def c_cloneInt : Ctr := cloneC 3
theorem t_cloneInt : Holds E.P E.md 204 c_cloneInt := cloneC_ok fun xs hl => by
  have hl : xs.length ≤ 1099511627776 := hl
  refine clone_ok (orc := orcW E.P E.md []) (orcW_ok _ _ _) mix (T := 70) (e := 3) (pp := 70) (s0 := cloneS 3 xs) Try.func204 rfl ⟨rfl, rfl, rfl⟩ ⟨rfl, rfl, rfl⟩ (by kernel_rfl) (by decide)
    (execG_ok (sc := {}) (sc' := {}) (cs := []) _ (by kernel_rfl) (by simp)) (by kernel_rfl) (by kernel_rfl) (by kernel_rfl) ?_ ?_
  · rintro rfl
    exact tailG_ok (sc := {}) (cs := []) (r := ([.one (.sl (pk 0))], [], [.row .own 3 []])) (by kernel_rfl) (by simp)
  · refine tailG_ok (sc := {}) (cs := [dec ((([] : List (List Value)).length + xs.length) * 8 ≤ 140737488355328 ∧ ([] : List (List Value)).length + xs.length ≤ 140737488355328)]) (r := ([.one (.sl (pk 0))], [], [.row .own 3 xs])) (by kernel_rfl) ?_
    intro c hc
    simp only [List.mem_singleton] at hc
    subst hc
    exact (show (([] : List (List Value)).length + xs.length) * 8 ≤ 140737488355328 ∧ ([] : List (List Value)).length + xs.length ≤ 140737488355328 by simp; omega)
end Go.Proofs.Ytefofjpjbogilaa
