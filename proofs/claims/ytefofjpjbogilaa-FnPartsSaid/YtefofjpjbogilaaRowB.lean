/- A law of bytes: from its contract to its call. -/
import Derived.Test.YtefofjpjbogilaaLib
import Derived.Below
namespace Go.Proofs.Ytefofjpjbogilaa.M
set_option linter.unusedVariables false
set_option linter.unusedSimpArgs false
open Go.RowKit

def lawC (e : TypeId) : Ctr := { ash := [.one (.r .ro e)], rsh := [.one .b], osh := [], pq := fun zs => (TR [.i .u8] zs, fun b => b = true) }
/-- A row of numbers, with its spare. -/
def IsRow (k : IntKind) (w : World) (a : Option Addr) (len cap : Nat) (zs : List Int) : Prop :=
  (a = none ∧ len = 0 ∧ cap = 0 ∧ zs = []) ∨
  ∃ x, a = some x ∧ len ≤ cap ∧ cap ≤ maxLen ∧ zs.length = cap ∧ (∀ i, i < zs.length → w.cell? (x.add i) = some (.int k (zs.getD i 0))) ∧ ∀ n ∈ zs, (Lit.int k n).wf = true
def numRow (k : IntKind) (zs : List Int) : List (List Value) := zs.map fun n => [.int k n]
theorem numRow_vals (k : IntKind) : ∀ zs : List Int, rowVals (numRow k zs) = zs.map fun n => .int k n
  | [] => rfl
  | z :: zs => by
    have := numRow_vals k zs
    simp only [rowVals, numRow, List.map_cons, List.flatten_cons] at this ⊢
    rw [this]
    rfl
theorem law_true {P : Program} {md : Nat → List Bool} {f : Nat} {e : TypeId} (hsz : szOf P e = some 1) (h : Holds P md f (lawC e)) {W : World} {a : Option Addr} {len cap : Nat} {zs : List Int} (hr : IsRow .u8 W a len cap zs) :
    Calls P f #[.slice a len cap] W fun en W' => en = .returned (.bool true) ∧ Below W.heap.size W W' := by
  have hu : ∀ n ∈ zs.take len, inK .u8 n := by
    intro n hn
    have hm := List.mem_of_mem_take hn
    rcases hr with ⟨_, _, _, rfl⟩ | ⟨x, _, _, _, _, _, hw⟩
    · simp at hm
    · have := hw n hm
      simp [Lit.wf, IntKind.min, IntKind.max, IntKind.signed, IntKind.bits] at this
      exact ⟨by omega, by omega⟩
  have hlen : (zs.take len).length = len ∧ len ≤ cap ∧ cap ≤ maxLen := by
    rcases hr with ⟨_, rfl, rfl, rfl⟩ | ⟨x, _, h1, h2, h3, _⟩
    · simp
    · rw [List.length_take]; omega
  have hL : (numRow .u8 (zs.take len)).length = len := by rw [numRow, List.length_map, hlen.1]
  have happ : appVs [.row .ro e (numRow .u8 (zs.take len))] (lawC e).ash [.one (.sl (pk 0))] 0 (lawC e).pq = some ((TR [.i .u8] (numRow .u8 (zs.take len)), fun b : Bool => b = true), 1) := by
    show appVs [.row .ro e (numRow .u8 (zs.take len))] [.one (.r .ro e)] [.one (.sl (pk 0))] 0 _ = _
    simp [appVs, appS, lawC, pk]
    rfl
  obtain ⟨r, ⟨hl, Q, hq, hQ⟩, hc⟩ := h [.one (.sl (pk 0))] [.row .ro e (numRow .u8 (zs.take len))] _ (fun b : Bool => b = true) happ (by
    intro el hel
    simp only [numRow, List.mem_map] at hel
    obtain ⟨n, hn, rfl⟩ := hel
    exact ⟨rfl, hu n hn, trivial⟩)
  obtain ⟨nb, k1, k2⟩ := genVs_ok (xs := [.one .b]) (c := 0) (f := fun b : Bool => b = true) (K := fun vs _ _ b => .imp b (.fin (vs = [.one (.s (.bool true))]))) (by constructor <;> intro hb; rfl; cases hb) hq
  have hrs : r.1 = [.one (.s (.bool true))] := by
    have := k1 hQ
    cases hr1 : r.1 with
    | nil => rw [hr1] at hl; cases hl
    | cons v vs =>
      have e1 : r.1 ++ r.2.1 = [.one (.s (.bool true))] := this
      rw [hr1] at e1
      simp only [List.cons_append, List.cons.injEq, List.append_eq_nil_iff] at e1
      rw [e1.1, e1.2.1]
  have hbs : ∀ {k b}, bsM [Blk.row .ro e (numRow .u8 (zs.take len))] k = some b → k = pk 0 ∧ b = .row .ro e (numRow .u8 (zs.take len)) := by
    intro k b hb
    obtain ⟨j, hj, rfl, hb'⟩ := bsM_spec hb
    have : j = 0 := by simpa using hj
    subst this
    exact ⟨rfl, by simpa using hb'.symm⟩
  have hM : Mem P W (Xof (bsM [Blk.row .ro e (numRow .u8 (zs.take len))]) fun _ x => 0 < len ∧ ∃ ad, a = some ad ∧ x = ad.block) (Zof (bsM [Blk.row .ro e (numRow .u8 (zs.take len))]) fun _ x => 0 < len ∧ ∃ ad, a = some ad ∧ x = ad.block) (Uk [Blk.row .ro e (numRow .u8 (zs.take len))].length) W
      (bsM [Blk.row .ro e (numRow .u8 (zs.take len))]) ⟨fun _ => .slice a len cap, fun _ => 1⟩ (fun _ x => 0 < len ∧ ∃ ad, a = some ad ∧ x = ad.block) := by
    refine ⟨rfl, rfl, rfl, Nat.le_refl _, fun _ _ _ => rfl, fun k b hb => ?_, fun k b hb => ?_, fun k b hb x hx => ?_, fun k b hb x hx => ?_, fun k b hb hmine x hx => ?_, fun k k' b b' hne hb hb' hmine x hx => ?_⟩
    · obtain ⟨rfl, rfl⟩ := hbs hb
      exact ⟨⟨0, by simp, rfl⟩, trivial⟩
    · obtain ⟨rfl, rfl⟩ := hbs hb
      refine ⟨hsz, Nat.one_pos, fun el hel => ?_, a, cap, ?_, ?_, hlen.2.2, fun hp => ?_⟩
      · simp only [numRow, List.mem_map] at hel
        obtain ⟨n, hn, rfl⟩ := hel
        exact ⟨rfl, by simp [Value.oneCell']⟩
      · rw [hL]
      · rw [hL]; exact hlen.2.1
      · have hp' : 0 < len := by rw [hL] at hp; exact hp
        rcases hr with ⟨_, rfl, _, _⟩ | ⟨x, rfl, h1, h2, h3, hcell, _⟩
        · omega
        · refine ⟨x, rfl, ⟨hp', x, rfl, rfl⟩, fun n u hn => ?_⟩
          rw [numRow_vals, List.getElem?_map] at hn
          cases hz : (zs.take len)[n]? with
          | none => rw [hz] at hn; cases hn
          | some z =>
            rw [hz] at hn
            cases hn
            have hz' : zs[n]? = some z := by
              rw [List.getElem?_take] at hz
              split at hz
              · exact hz
              · cases hz
            obtain ⟨hlt, _⟩ := List.getElem?_eq_some_iff.1 hz'
            rw [hcell n hlt, List.getD_eq_getElem?_getD, hz']
            rfl
    · obtain ⟨hp, ad, rfl, rfl⟩ := hx
      rcases hr with ⟨h0, _⟩ | ⟨x, hx, h1, h2, h3, hcell, _⟩
      · cases h0
      · cases hx
        have := hcell 0 (by omega)
        have hb := World.block_lt_of_cell? _ _ this
        rwa [Addr.add_block] at hb
    · exact .inr ⟨k, b, hb, hx⟩
    · obtain ⟨rfl, rfl⟩ := hbs hb
      cases hmine
    · obtain ⟨rfl, rfl⟩ := hbs hb
      cases hmine
  refine calls_mono (hc W _ _ [.slice a len cap] hM ⟨⟨⟨rfl, rfl⟩, fun _ cs e => by cases e⟩, trivial⟩ ⟨⟨0, by simp, rfl⟩, trivial⟩) ?_
  rintro en W' ⟨v, ρ', Fk', rfl, hM', hv, _⟩
  rw [hrs] at hv
  have hv' : v = .bool true := hv.1
  subst hv'
  refine ⟨rfl, hM'.os, hM'.tape, hM'.output, hM'.size, fun k hk => hM'.keep k hk ?_⟩
  rintro ⟨k', b, hb, hmine, _⟩
  obtain ⟨rfl, rfl⟩ := hbs hb
  exact absurd hmine (by simp [Blk.mine])
end Go.Proofs.Ytefofjpjbogilaa.M
