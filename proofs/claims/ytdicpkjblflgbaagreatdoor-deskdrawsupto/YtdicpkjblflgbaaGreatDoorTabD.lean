/-
  The tables fit the program. Conditions: those that each statement below names, and no other.
-/
import Derived.Test.YtdicpkjblflgbaaGreatDoorTabC
import Derived.Test.YtdicpkjblflgbaaGreatDoorRunJ
import Derived.Test.YtdicpkjblflgbaaGreatDoorTabB
set_option linter.all false

/-
  The tables fit the program.
-/
namespace Go.Proofs.YtdicpkjblflgbaaGreatDoor
open Go Go.Rv

theorem rv_ty {t : Nat} {ti : TI} (h : rtyn0.get t = some ti) : TyOk Tryz.prog t ti := tiOf_ok (rtyn0_ok.root h)

theorem us89 : Tryz.prog.underlying 89 = some (.struct (Tryz.prog.fieldsOf 89)) := by kernel_rfl
theorem us492 : Tryz.prog.underlying 492 = some (.struct (Tryz.prog.fieldsOf 492)) := by kernel_rfl
theorem fit89 : fitB Tryz.prog (Tryz.prog.fieldsOf 89).toList 0 [3, 3, 9, 3] = true := by kernel_rfl
theorem fit492 : fitB Tryz.prog (Tryz.prog.fieldsOf 492).toList 0 [3, 3, 3, 3, 3, 3] = true := by kernel_rfl
theorem si89 : Tryz.prog.stoodInHeld 89 = false := by kernel_rfl
theorem si492 : Tryz.prog.stoodInHeld 492 = false := by kernel_rfl
theorem gt89 : Tryz.prog.eqGuardType Tryz.prog.depth 89 = false := by kernel_rfl
theorem gt492 : Tryz.prog.eqGuardType Tryz.prog.depth 492 = false := by kernel_rfl

theorem rv_eqs : EqsOk Tryz.prog rvTab0 := by
  intro t l h
  have h' : sel (Nat.beq t 89) (codesV l [3, 3, 9, 3]) (sel (Nat.beq t 492) (codesV l [3, 3, 3, 3, 3, 3]) false) = true := h
  rw [sel_eq] at h'
  split at h'
  · rename_i ht
    rw [Nat.beq_eq] at ht
    subst ht
    exact ⟨gt89, fun μ m b xs ys w he hl hm => eqs_struct us89 si89 fit89 h' he hl hm⟩
  · rw [sel_eq] at h'
    split at h'
    · rename_i ht
      rw [Nat.beq_eq] at ht
      subst ht
      exact ⟨gt492, fun μ m b xs ys w he hl hm => eqs_struct us492 si492 fit492 h' he hl hm⟩
    · cases h'

theorem lies67 (e n o u : Nat) (h1 : e = 67) (h2 : n = 2) (h3 : o = 0) (h4 : u = 67) : liesAt Tryz.prog Tryz.prog.depth e (n / Tryz.prog.cellsOf e) o u 1 = true := by
  subst h1 h2 h3 h4
  kernel_rfl
theorem rv_lies : LiesOk Tryz.prog rvTab0 := by
  intro e n o u h
  have h' : (Nat.beq e 67 && Nat.beq n 2 && Nat.beq o 0 && Nat.beq u 67) = true := h
  simp only [Bool.and_eq_true, Nat.beq_eq] at h'
  obtain ⟨⟨⟨h1, h2⟩, h3⟩, h4⟩ := h'
  exact lies67 e n o u h1 h2 h3 h4

theorem rv_mix : Tryz.prog.follows .mixedOrders = true := by kernel_rfl

theorem x94 : XFn Tryz.prog 94 Extern.BytealgIndexByte.indexByte := ⟨Tryz.f94, Tryz.func94, by kernel_rfl, by kernel_rfl, by kernel_rfl, by kernel_rfl⟩
theorem x26 : XFn Tryz.prog 26 Extern.BytealgCount.count := ⟨Tryz.f26, Tryz.func26, by kernel_rfl, by kernel_rfl, by kernel_rfl, by kernel_rfl⟩
theorem x42 : XFn Tryz.prog 42 Extern.AbiNoEscape.same := ⟨Tryz.f42, Tryz.func42, by kernel_rfl, by kernel_rfl, by kernel_rfl, by kernel_rfl⟩
theorem x57 : ∃ ps t, XFn Tryz.prog 57 (Extern.BytealgMakeNoZero.makeNoZero ps #[t]) ∧ Tryz.prog.underlying t = some (.slice 5) :=
  ⟨Tryz.f57.params, Tryz.f57.resultTypes[0]!, ⟨Tryz.f57, Tryz.func57, by kernel_rfl, by kernel_rfl, by kernel_rfl, by kernel_rfl⟩, by kernel_rfl⟩
theorem x691 : ∃ m, XFn Tryz.prog 691 (fun _ => do mark m; pure Extern.Race.none_) := ⟨.disable, Tryz.f691, Tryz.func691, by kernel_rfl, by kernel_rfl, by kernel_rfl, by kernel_rfl⟩
theorem x693 : ∃ m, XFn Tryz.prog 693 (fun _ => do mark m; pure Extern.Race.none_) := ⟨.enable, Tryz.f693, Tryz.func693, by kernel_rfl, by kernel_rfl, by kernel_rfl, by kernel_rfl⟩
theorem x694 : ∃ m, XFn Tryz.prog 694 (Extern.Race.marked m) := ⟨.acquire, Tryz.f694, Tryz.func694, by kernel_rfl, by kernel_rfl, by kernel_rfl, by kernel_rfl⟩
theorem x696 : ∃ m, XFn Tryz.prog 696 (Extern.Race.marked m) := ⟨.releaseMerge, Tryz.f696, Tryz.func696, by kernel_rfl, by kernel_rfl, by kernel_rfl, by kernel_rfl⟩
theorem x692 : XFn Tryz.prog 692 (Extern.Atomic.casT (.int .i32)) := ⟨Tryz.f692, Tryz.func692, by kernel_rfl, by kernel_rfl, by kernel_rfl, by kernel_rfl⟩
theorem x697 : XFn Tryz.prog 697 (Extern.Atomic.update (Op.intArith .add) .i32 true) := ⟨Tryz.f697, Tryz.func697, by kernel_rfl, by kernel_rfl, by kernel_rfl, by kernel_rfl⟩
theorem rv_ext : ExtOk Tryz.prog rvExt := ⟨x94, x26, x42, x57, x691, x693, x694, x696, x692, x697⟩

theorem rv_fn {f : Nat} {fi : FI} (h : (rfnn0.get f).ob rvFi = some fi) :
    ∃ fn, Tryz.prog.funcs[f]? = some fn ∧ (fn.name == "runtime.NumGoroutine") = false ∧ fn.body = some fi.body ∧ fn.ntmps = fi.ntmps ∧ fn.results = fi.results := by
  obtain ⟨F, hF, h⟩ := ob_eq h
  obtain ⟨h1, h2⟩ := rfnn0_ok.root hF
  cases hb : F.body with
  | none =>
    have : rvFi F = none := by unfold rvFi; rw [hb]
    rw [this] at h; cases h
  | some b =>
    have : rvFi F = some ⟨F.ntmps, F.results, b⟩ := by unfold rvFi; rw [hb]
    rw [this] at h; cases h
    exact ⟨F, h1, h2, hb, rfl, rfl⟩

theorem rv_tok0 (e3 e6 : Nat) : TOk Tryz.prog rvTab0 (zs e3 e6).heap :=
  ⟨fun _ _ h => rv_ty h, rv_eqs, rv_lies, fun _ _ h => rv_fn h, ⟨rvExt, rv_ext, rfl⟩, fun _ _ _ h => by cases h⟩
end Go.Proofs.YtdicpkjblflgbaaGreatDoor
