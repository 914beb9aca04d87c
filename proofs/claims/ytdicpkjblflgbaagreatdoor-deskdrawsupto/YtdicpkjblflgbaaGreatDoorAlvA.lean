/-
  The pieces of the closed run fit the program. Conditions: those that each statement below names, and no other.
-/
import Derived.Test.YtdicpkjblflgbaaGreatDoorTabD
import Derived.Test.YtdicpkjblflgbaaGreatDoorKrnA
set_option linter.all false

/-
  The call that was run apart.
-/
namespace Go.Proofs.YtdicpkjblflgbaaGreatDoor
open Go Go.Rv

theorem zs_get {e3 e6 n : Nat} {b : B} (h : (zs e3 e6).heap.get n = some b) : (n = 3 ∧ b = zb3 e3) ∨ (n = 6 ∧ b = zb6 e6) := by
  have hA : AllT (fun n b => (n = 3 ∧ b = zb3 e3) ∨ (n = 6 ∧ b = zb6 e6)) (zhn0 e3 e6) 1 0 :=
    ⟨fun x h => (by cases h), ⟨fun x h => (by cases h), ⟨fun x h => (by cases h; exact .inl ⟨rfl, rfl⟩), trivial, trivial⟩, trivial⟩, ⟨fun x h => (by cases h), trivial, ⟨fun x h => (by cases h; exact .inr ⟨rfl, rfl⟩), trivial, trivial⟩⟩⟩
  exact hA.root h

theorem zs_bnd (e3 e6 : Nat) : Bnd (zs e3 e6) := by
  intro n b h
  show n < 100
  rcases zs_get h with ⟨rfl, _⟩ | ⟨rfl, _⟩ <;> decide

/-- The names of the program's own variables alone. -/
def lowMu (μ : Mu) : Mu := fun n => if n < low0 then μ n else none
theorem lowMu_le (μ : Mu) : (lowMu μ).le μ := fun n l h => by
  unfold lowMu at h
  split at h
  · exact h
  · cases h
theorem lowMu_glob {μ : Mu} (h : Glob μ) : Glob (lowMu μ) := fun g hg => by
  obtain ⟨sz, h⟩ := h g hg
  exact ⟨sz, by unfold lowMu; rw [if_pos hg]; exact h⟩

/-- A row of numbers asks nothing of names. -/
def plainV : V → Bool
  | .int _ _ | .bool _ => true
  | _ => false
theorem plain_rel {v : V} (h : plainV v = true) {μ μ' : Mu} {X : Value} (hr : Rel μ v X) : Rel μ' v X := by
  cases v <;> first | (cases h; done) | (simpa only [Rel] using hr)

theorem plain_brel {e : Nat} {cs : List V} {ro : Bool} (hp : cs.all plainV = true) {μ μ' : Mu} {l : Rv.Loc} {w : World} (h : BRel μ l w (.cells e cs false ro)) : BRel μ' l w (.cells e cs false ro) := by
  obtain ⟨C, fz, h1, h2, h3, h4, h5, h6⟩ := h
  refine ⟨C, fz, h1, h2, h3, h4, fun i v hi => ?_, h6⟩
  obtain ⟨X, hX, hr⟩ := h5 i v hi
  exact ⟨X, hX, plain_rel (List.all_eq_true.1 hp v (List.mem_of_getElem? hi)) hr⟩

theorem zb3_plain (e3 : Nat) : ∃ cs, zb3 e3 = .cells e3 cs false true ∧ cs.all plainV = true := ⟨_, rfl, by decide⟩
theorem zb6_plain (e6 : Nat) : ∃ cs, zb6 e6 = .cells e6 cs false true ∧ cs.all plainV = true := ⟨_, rfl, by decide⟩

theorem zs_ok {e3 e6 : Nat} {μ : Mu} {w : World} (h : Ok (fun n => n < low0) μ (zs e3 e6).heap w) : Ok (fun n => n < low0) (lowMu μ) (zs e3 e6).heap w := by
  refine ⟨fun n b d g => ?_, fun n m b c l k d1 d2 hne g1 g2 q1 q2 => h.sep n m b c l k d1 d2 hne g1 g2 (lowMu_le μ _ _ q1) (lowMu_le μ _ _ q2)⟩
  obtain ⟨l, h1, h2⟩ := h.rel n b d g
  refine ⟨l, by unfold lowMu; rw [if_pos d]; exact h1, ?_⟩
  rcases zs_get g with ⟨_, rfl⟩ | ⟨_, rfl⟩
  · obtain ⟨cs, hb, hp⟩ := zb3_plain e3
    rw [hb] at h2 ⊢
    exact plain_brel hp h2
  · obtain ⟨cs, hb, hp⟩ := zb6_plain e6
    rw [hb] at h2 ⊢
    exact plain_brel hp h2

/-- No names in a value. -/
def bareV : V → Bool
  | .agg l => l.all plainV
  | v => plainV v
theorem bare_rel {v : V} (h : bareV v = true) {μ μ' : Mu} {X : Value} (hr : Rel μ v X) : Rel μ' v X := by
  have lst : ∀ {l : List V} {xs : List Value}, l.all plainV = true → RelL μ l xs → RelL μ' l xs := by
    intro l
    induction l with
    | nil => intro xs _ h; simpa only [RelL] using h
    | cons v l ih =>
      intro xs ha h
      simp only [List.all_cons, Bool.and_eq_true] at ha
      simp only [RelL] at h ⊢
      obtain ⟨y, ys, h1, h2, h3⟩ := h
      exact ⟨y, ys, h1, plain_rel ha.1 h2, ih ha.2 h3⟩
  cases v with
  | agg l =>
    simp only [Rel] at hr ⊢
    obtain ⟨xs, h1, h2⟩ := hr
    exact ⟨xs, h1, lst h h2⟩
  | int k n => exact plain_rel rfl hr
  | bool b => exact plain_rel rfl hr
  | _ => cases h

theorem ofA_bare : bareV rvOfA = true := by decide

theorem memo_of (e3 e6 : Nat) : MemoAt Tryz.prog (zs e3 e6).heap 156 [.int .i32 97] rvOfA := by
  intro μ w xs hX hg hok
  obtain ⟨r, hr, hv⟩ := om_eq (k_of e3 e6)
  have hX' : RelL (lowMu μ) [.int .i32 97] xs := by
    obtain ⟨X, rfl, h1⟩ := hX.one
    exact RelL.cons (plain_rel rfl h1) RelL.nil
  have hFr : ∀ n, low0 ≤ n → lowMu μ n = none := fun n hn => by unfold lowMu; rw [if_neg (by omega)]
  have key := evFn_ok (rv_tok0 e3 e6) rv_mix (loops := 100000) 60 (fun n => n < low0) (zs e3 e6) r.2 (lowMu μ) w 156 [.int .i32 97] xs r.1 hr hX' (lowMu_glob hg) (zs_bnd e3 e6) (zs_ok hok)
    ⟨Nat.le_refl _, fun n hn => hn, fun n _ => rfl⟩ (fun n _ hn => hn) (fun n hn _ => hFr n hn)
  refine key.mono fun en w' hh => ?_
  cases en with
  | returned X =>
    obtain ⟨μ', hs, hv'⟩ := hh
    refine ⟨⟨hs.ext.size, hs.ext.os, hs.ext.tape, hs.ext.output, fun q hq => hs.ext.block q hq fun n l h1 h2 => ?_⟩, ?_⟩
    · exfalso
      rcases hs.keep.low n h1 with h3 | h3
      · simp [zs] at h3
      · rw [hFr n h3] at h2; cases h2
    · rw [hv] at hv'
      exact bare_rel ofA_bare hv'
  | panicked ch => exact hh
  | outgrown => exact hh

theorem rv_tok (e3 e6 : Nat) : TOk Tryz.prog rvTab (zs e3 e6).heap := by
  have h := rv_tok0 e3 e6
  refine ⟨h.ty, h.eqs, h.lies, h.fn, h.ext, fun f args v hm => ?_⟩
  have hm' : rvMemo f args = some v := hm
  unfold rvMemo at hm'
  obtain ⟨hf, hm'⟩ := sel_some hm'
  have hf : f = 156 := Nat.eq_of_beq_eq_true hf
  cases hf
  by_cases hs : ∃ n, args = [.int .i32 (.ofNat n)]
  · obtain ⟨n, rfl⟩ := hs
    obtain ⟨hn, hm'⟩ := sel_some (show sel (Nat.beq n 97) (some rvOfA) none = some v from hm')
    have hn := Nat.eq_of_beq_eq_true hn
    cases hn
    cases hm'
    exact ⟨⟨_, rfl⟩, memo_of e3 e6⟩
  · exfalso
    split at hm'
    · exact hs ⟨_, rfl⟩
    · cases hm'

end Go.Proofs.YtdicpkjblflgbaaGreatDoor
