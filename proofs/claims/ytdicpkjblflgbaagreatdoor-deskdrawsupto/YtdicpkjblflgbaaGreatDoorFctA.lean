/-
  The reach of a function, reckoned over a table of what each function leads to. Conditions: those that each statement below names, and no other.
-/
import GoSem.ClaimGoes
import GoSem.ClaimDataLaid
set_option linter.all false

/-
  The reach of a function, reckoned over a table of what each function leads to.
-/
namespace Go.Proofs.YtdicpkjblflgbaaGreatDoor
open Go

/-- A table in rows of a hundred. -/
def atRow {α : Type} (d : α) (rows : List (List α)) (f : Nat) : α := ((rows[f / 100]?).getD [])[f % 100]?.getD d

theorem at_row {α β : Type} {d : α} {l : List β} {F : β → α} {rows : List (List α)} (h : ∀ k, k < rows.length → ((l.drop (100 * k)).take 100).map F = (rows[k]?).getD []) (hl : l.length ≤ 100 * rows.length) (f : Nat) : ((l[f]?).map F).getD d = atRow d rows f := by
  unfold atRow
  by_cases hf : f / 100 < rows.length
  · have hk := h (f / 100) hf
    have e : (((l.drop (100 * (f / 100))).take 100).map F)[f % 100]? = (l[f]?).map F := by
      rw [List.getElem?_map, List.getElem?_take_of_lt (Nat.mod_lt _ (by decide)), List.getElem?_drop, Nat.div_add_mod]
    rw [← hk, e]
  · have hr : rows[f / 100]? = none := List.getElem?_eq_none (by omega)
    have hn : l[f]? = none := List.getElem?_eq_none (by have := Nat.div_mul_le_self f 100; omega)
    rw [hr, hn]
    simp

/-- All of a list, out of its hundreds. -/
theorem all_rows {β : Type} {l : List β} {p : β → Bool} {n : Nat} (h : ∀ k, k < n → ((l.drop (100 * k)).take 100).all p = true) (hl : l.length ≤ 100 * n) : l.all p = true := by
  rw [List.all_eq_true]
  intro x hx
  obtain ⟨f, hf, rfl⟩ := List.getElem_of_mem hx
  have hk := h (f / 100) (by omega)
  rw [List.all_eq_true] at hk
  refine hk _ (List.mem_of_getElem? (i := f % 100) ?_)
  rw [List.getElem?_take_of_lt (Nat.mod_lt _ (by decide)), List.getElem?_drop, Nat.div_add_mod]
  exact List.getElem?_eq_getElem hf

theorem range_all {p : Nat → Bool} {n k : Nat} (hn : n = 100 * k) (h : ∀ j, j < k → (List.range' (100 * j) 100).all p = true) : ∀ i, i < n → p i = true := by
  intro i hi
  have hk := h (i / 100) (by omega)
  rw [List.all_eq_true] at hk
  exact hk i (by rw [List.mem_range'_1]; omega)

/-- The walk of the reach, what has been seen as the bits of one number. -/
def reachT (leads : Nat → List Nat) : Nat → List Nat → Nat → List Nat → List Nat
  | 0, _, _, seen => seen.reverse
  | _, [], _, seen => seen.reverse
  | n + 1, f :: todo, mask, seen => cond (mask.testBit f) (reachT leads n todo mask seen) (reachT leads n (leads f ++ todo) (mask ||| (1 <<< f)) (f :: seen))

theorem testBit_one_shiftLeft (f g : Nat) : (1 <<< f).testBit g = decide (f = g) := by
  rw [Nat.shiftLeft_eq, Nat.one_mul, Nat.testBit_two_pow]

theorem closureVia_eq {P : Program} {leads : Nat → List Nat} (h : ∀ f, (P.funcs[f]?).elim [] P.leadsTo = leads f) :
    ∀ (n : Nat) (todo : List Nat) (mask : Nat) (seen : List Nat), (∀ g, mask.testBit g = seen.contains g) → P.closureVia n todo seen = reachT leads n todo mask seen
  | 0, todo, mask, seen, _ => by cases todo <;> rfl
  | n + 1, [], mask, seen, _ => rfl
  | n + 1, f :: todo, mask, seen, hm => by
    unfold Program.closureVia reachT
    rw [hm f]
    cases hc : seen.contains f with
    | true => simp only [if_true, cond_true]; exact closureVia_eq h n todo mask seen hm
    | false =>
      simp only [Bool.false_eq_true, if_false, cond_false]
      rw [h f]
      refine closureVia_eq h n _ _ _ fun g => ?_
      rw [Nat.testBit_or, testBit_one_shiftLeft, hm g, List.contains_cons, Bool.or_comm]
      congr 1
      by_cases e : f = g
      · subst e; simp
      · have : (g == f) = false := by simpa using fun h' => e h'.symm
        simp [e]
        exact fun h' => e h'.symm

/-- A function's number out of its name, in hundreds. -/
def onlyName (P : Program) (name : String) (i0 : Nat) (i : Nat) : Bool := i == i0 || !(P.funcs[i]?).any (·.name == name)
theorem filter_range {p : Nat → Bool} {i0 : Nat} (h0 : p i0 = true) : ∀ {n : Nat}, i0 < n → (∀ i, i < n → i ≠ i0 → p i = false) → (List.range n).filter p = [i0]
  | 0, hi, _ => absurd hi (Nat.not_lt_zero _)
  | n + 1, hi, h => by
    rw [List.range_succ, List.filter_append]
    by_cases e : i0 = n
    · subst e
      have : (List.range i0).filter p = [] := List.filter_eq_nil_iff.2 fun i hi => by
        have := List.mem_range.1 hi
        simp [h i (by omega) (by omega)]
      rw [this]
      simp [h0]
    · rw [filter_range h0 (by omega) fun i hi he => h i (by omega) he]
      simp [h n (by omega) (Ne.symm e)]
theorem funcNamed_of {P : Program} {name : String} {i0 n : Nat} (hn : P.funcs.size = n) (hi : i0 < n) (h0 : (P.funcs[i0]?).any (·.name == name) = true) (h : ∀ i, i < n → onlyName P name i0 i = true) : P.funcNamed name = some i0 := by
  unfold Program.funcNamed
  rw [hn, filter_range (p := fun i => (P.funcs[i]?).any (·.name == name)) h0 hi fun i hi' he => by
    have := h i hi'
    unfold onlyName at this
    simpa [he] using this]
end Go.Proofs.YtdicpkjblflgbaaGreatDoor
