/- Plain facts about what claims of code speak of. -/
import Derived.Test.YtefofjpjbogilaaW3
namespace Go.Proofs.Ytefofjpjbogilaa.M
set_option linter.unusedVariables false
set_option linter.unusedSimpArgs false

theorem inK_i64 {n : Int} : inK .i64 n ↔ -9223372036854775808 ≤ n ∧ n ≤ 9223372036854775807 := Iff.rfl
theorem inK_u8 {n : Int} : inK .u8 n ↔ 0 ≤ n ∧ n ≤ 255 := Iff.rfl
theorem wrap64 {n : Int} (h : -9223372036854775808 ≤ n ∧ n ≤ 9223372036854775807) : IntKind.i64.wrap n = n := inK_wrap (k := .i64) h
theorem andI_low (x : Int) (m : Nat) (hm : m < 2 ^ 62) : 0 ≤ andI .i64 x m ∧ andI .i64 x m ≤ m := by
  unfold andI
  have h1 : (BitVec.ofInt 64 x &&& BitVec.ofInt 64 m).toNat ≤ m := by
    rw [BitVec.toNat_and]
    refine Nat.le_trans Nat.and_le_right ?_
    simp
    exact Nat.mod_le _ _
  have hb : IntKind.i64.bits = 64 := rfl
  rw [hb]
  rw [wrap64 (by omega)]
  omega
theorem andI_lowI (x m : Int) (h0 : 0 ≤ m) (hm : m < 4611686018427387904) : 0 ≤ andI .i64 x m ∧ andI .i64 x m ≤ m := by
  obtain ⟨k, rfl⟩ := Int.eq_ofNat_of_zero_le h0
  exact andI_low x k (by omega)
theorem TR_nil {ks : List Kd} : TR ks [] := by intro el h; simp at h
theorem TR_append {ks : List Kd} {xs ys : List (List Value)} : TR ks (xs ++ ys) ↔ TR ks xs ∧ TR ks ys := by
  constructor
  · intro h; exact ⟨fun el he => h el (List.mem_append_left _ he), fun el he => h el (List.mem_append_right _ he)⟩
  · rintro ⟨h1, h2⟩ el he
    rw [List.mem_append] at he
    rcases he with he | he
    · exact h1 el he
    · exact h2 el he
theorem TR_cons {ks : List Kd} {el : List Value} {xs : List (List Value)} : TR ks (el :: xs) ↔ tyEl ks el ∧ TR ks xs := by
  constructor
  · intro h; exact ⟨h el List.mem_cons_self, fun e he => h e (List.mem_cons_of_mem _ he)⟩
  · rintro ⟨h1, h2⟩ e he
    rw [List.mem_cons] at he
    rcases he with rfl | he
    · exact h1
    · exact h2 e he
theorem TR_take {ks : List Kd} {xs : List (List Value)} (h : TR ks xs) (n : Nat) : TR ks (xs.take n) := fun el he => h el (List.mem_of_mem_take he)
theorem TR_drop {ks : List Kd} {xs : List (List Value)} (h : TR ks xs) (n : Nat) : TR ks (xs.drop n) := fun el he => h el (List.mem_of_mem_drop he)
theorem TR_rep {ks : List Kd} {el : List Value} (h : tyEl ks el) (n : Nat) : TR ks (List.replicate n el) := fun e he => by rw [List.eq_of_mem_replicate he]; exact h
theorem TR_get {ks : List Kd} {xs : List (List Value)} (h : TR ks xs) {i : Nat} {el : List Value} (he : xs[i]? = some el) : tyEl ks el := h el (List.mem_of_getElem? he)
theorem TR_set {ks : List Kd} {xs : List (List Value)} (h : TR ks xs) {el : List Value} (he : tyEl ks el) (i : Nat) : TR ks (xs.set i el) := by
  intro e hm
  rcases List.mem_or_eq_of_mem_set hm with h1 | rfl
  · exact h e h1
  · exact he
theorem tail_of {r : List (List Value)} {el : List Value} (h : r[0]? = some el) : r = el :: List.take ((r.length : Int).toNat - 1) (List.drop 1 r) := by
  cases r with
  | nil => simp at h
  | cons a r => simp at h; subst h; simp
theorem drop_at {xs : List (List Value)} {n : Nat} {x : List Value} {r : List (List Value)} (h : List.drop n xs = x :: r) : xs[n]? = some x ∧ r = List.drop (n + 1) xs := by
  have h1 : (List.drop n xs)[0]? = some x := by rw [h]; rfl
  rw [List.getElem?_drop] at h1
  refine ⟨by simpa using h1, ?_⟩
  have : List.drop 1 (List.drop n xs) = r := by rw [h]; rfl
  rw [List.drop_drop] at this
  exact this.symm
theorem take_at {pa : List (List Value)} {op x y : List Value} {r : List (List Value)} {i : Int} (h : List.drop i.toNat (pa ++ [op]) = x :: r) (h0 : 0 ≤ i) (hi : i < pa.length) (hy : pa[i.toNat]? = some y) : x = y ∧ r = List.drop (i + 1).toNat (pa ++ [op]) := by
  obtain ⟨h1, h2⟩ := drop_at h
  rw [List.getElem?_append_left (by omega), hy] at h1
  cases h1
  exact ⟨rfl, by rw [h2, show (i + 1).toNat = i.toNat + 1 by omega]⟩
theorem take_end {pa : List (List Value)} {op : List Value} {i : Int} (h0 : 0 ≤ i) (hi : i ≤ pa.length) (hn : ¬ i < pa.length) : List.drop i.toNat (pa ++ [op]) = [op] := by
  have : i.toNat = pa.length := by omega
  rw [this]
  simp
theorem drop_zero' {pa : List (List Value)} : List.drop (0 : Int).toNat pa = pa := by simp
/-- All elements in front of a place. -/
def AllLt (p : List Value → Prop) (xs : List (List Value)) (i : Int) : Prop := ∀ (j : Nat) (el : List Value), (j : Int) < i → xs[j]? = some el → p el
theorem allLt_zero {p : List Value → Prop} {xs : List (List Value)} : AllLt p xs 0 := fun j el h _ => by omega
theorem allLt_succ {p : List Value → Prop} {xs : List (List Value)} {i : Int} {el : List Value} (h : AllLt p xs i) (he : xs[i.toNat]? = some el) (hp : p el) : AllLt p xs (i + 1) := by
  intro j e hj hje
  by_cases hji : (j : Int) < i
  · exact h j e hji hje
  · have : j = i.toNat := by omega
    subst this
    rw [he] at hje
    cases hje
    exact hp
theorem allLt_end {p : List Value → Prop} {xs : List (List Value)} {i : Int} (h : AllLt p xs i) (hi : ¬ i < (xs.length : Int)) : ∀ el ∈ xs, p el := by
  intro el hel
  obtain ⟨j, hj⟩ := List.getElem?_of_mem hel
  exact h j el (by have := (List.getElem?_eq_some_iff.1 hj).1; omega) hj
theorem all_not {p : List Value → Prop} {xs : List (List Value)} {i : Nat} {el : List Value} (he : xs[i]? = some el) (hp : ¬ p el) : ¬ ∀ el ∈ xs, p el := fun h => hp (h _ (List.mem_of_getElem? he))
/-- Two rows are alike in front of a place. -/
def EqTo (a b : List (List Value)) (i : Int) : Prop := a.length = b.length ∧ ∀ j : Nat, (j : Int) < i → a[j]? = b[j]?
theorem eqTo_zero {a b : List (List Value)} (h : (a.length : Int) = b.length) : EqTo a b 0 := ⟨by omega, fun j hj => by omega⟩
theorem eqTo_succ {a b : List (List Value)} {i : Int} {x : List Value} (h : EqTo a b i) (ha : a[i.toNat]? = some x) (hb : b[i.toNat]? = some x) : EqTo a b (i + 1) := by
  refine ⟨h.1, fun j hj => ?_⟩
  by_cases hji : (j : Int) < i
  · exact h.2 j hji
  · have : j = i.toNat := by omega
    subst this
    rw [ha, hb]
theorem eqTo_end {a b : List (List Value)} {i : Int} (h : EqTo a b i) (hi : ¬ i < (a.length : Int)) : a = b := by
  apply List.ext_getElem?
  intro j
  by_cases hj : j < a.length
  · exact h.2 j (by omega)
  · rw [List.getElem?_eq_none (by omega), List.getElem?_eq_none (by have := h.1; omega)]
theorem ne_at {a b : List (List Value)} {i : Nat} {x y : List Value} (ha : a[i]? = some x) (hb : b[i]? = some y) (hne : x ≠ y) : a ≠ b := by
  rintro rfl
  rw [ha] at hb
  cases hb
  exact hne rfl
theorem ne_len {a b : List (List Value)} (h : ¬ (a.length : Int) = b.length) : a ≠ b := by
  rintro rfl
  exact h rfl
/-- A string of these bytes. -/
def bs (l : List Nat) : ByteArray := ⟨(l.map UInt8.ofNat).toArray⟩
theorem bs_size (l : List Nat) : (bs l).size = l.length := by simp [bs, ByteArray.size]
theorem tmod_of {a b : Int} (h : 0 ≤ a) : a.tmod b = a % b := Int.tmod_eq_emod_of_nonneg h
theorem tdiv_of {a b : Int} (h : 0 ≤ a) : a.tdiv b = a / b := Int.tdiv_eq_ediv_of_nonneg h
theorem tmod_lt {a b : Int} (h : 0 ≤ a) (hb : 0 < b) : 0 ≤ a.tmod b ∧ a.tmod b < b := by
  rw [tmod_of h]
  exact ⟨Int.emod_nonneg _ (by omega), Int.emod_lt_of_pos _ hb⟩
theorem getElem_mem' {xs : List (List Value)} {i : Nat} {el : List Value} (h : xs[i]? = some el) : el ∈ xs := List.mem_of_getElem? h
end Go.Proofs.Ytefofjpjbogilaa.M
