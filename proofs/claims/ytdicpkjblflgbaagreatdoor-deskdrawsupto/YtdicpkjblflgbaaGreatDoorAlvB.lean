/-
  The closed run, whole: alive() returns true in every world that holds the two tables it reads. Conditions: those that each statement below names, and no other.
-/
import Derived.Test.YtdicpkjblflgbaaGreatDoorRunJ
import Derived.Test.YtdicpkjblflgbaaGreatDoorAlvA
import Derived.Test.YtdicpkjblflgbaaGreatDoorKrnE
import Derived.Test.YtdicpkjblflgbaaGreatDoorKrnF
import Derived.Test.YtdicpkjblflgbaaGreatDoorKrnG
import Derived.WalkKit
import Derived.ProofKit
set_option linter.all false

/-
  alive(): the pieces, one behind the other.
-/
namespace Go.Proofs.YtdicpkjblflgbaaGreatDoor
open Go Go.Rv Go.RowKit

def l3 : List Int := [1, 10, 100, 1000, 10000, 100000, 1000000, 10000000, 100000000, 1000000000, 10000000000, 100000000000, 1000000000000, 10000000000000, 100000000000000, 1000000000000000, 10000000000000000, 100000000000000000, 1000000000000000000, 10000000000000000000]
def l6 : List Int := [42, 96, 180, 1023, 1563, 1644, 1749, 3654, 8232, 8383, 12298, 64335, 917999]
def row (k : IntKind) (l : List Int) : Array Value := (l.map (Value.int k)).toArray
theorem zb3_eq (e3 : Nat) : zb3 e3 = .cells e3 (l3.map (V.int .u64)) false true := rfl
theorem zb6_eq (e6 : Nat) : zb6 e6 = .cells e6 (l6.map (V.int .i32)) false true := rfl

/-- The two tables that alive() reads. -/
structure Laid (e3 e6 : Nat) (w : World) : Prop where
  b3 : ∃ fz, w.heap[3]? = some (.cells (row .u64 l3) e3 fz)
  b6 : ∃ fz, w.heap[6]? = some (.cells (row .i32 l6) e6 fz)

theorem row_brel {μ : Mu} {w : World} {b e : Nat} {k : IntKind} {l : List Int} {fz : Nat × Nat} (h : w.heap[b]? = some (.cells (row k l) e fz)) : BRel μ ⟨b, 0, l.length⟩ w (.cells e (l.map (V.int k)) false true) := by
  refine ⟨row k l, fz, h, by simp [row], by simp, fun _ => ⟨by simp, rfl⟩, fun i v hi => ?_, fun h => by cases h⟩
  rw [List.getElem?_map] at hi
  cases hc : l[i]? with
  | none => rw [hc] at hi; cases hi
  | some n =>
    rw [hc] at hi
    cases hi
    refine ⟨.int k n, ?_, by simp [Rel]⟩
    simp [row, hc]

/-- The names at the beginning. -/
def mu0 : Mu := fun n => if n < low0 then some ⟨n, 0, if n = 3 then 20 else 13⟩ else none

theorem mid0 {e3 e6 : Nat} {w : World} (h : Laid e3 e6 w) : Mid (zs e3 e6).heap w (zs e3 e6) mu0 w := by
  obtain ⟨⟨f3, b3⟩, ⟨f6, b6⟩⟩ := h
  refine ⟨fun g hg => ⟨_, by unfold mu0; rw [if_pos hg]⟩, zs_bnd e3 e6, ⟨fun n b hn g => ?_, fun n m b c l k _ _ hne g1 g2 q1 q2 => ?_⟩, Nat.le_refl _, fun _ _ => rfl, fun n hn => ?_, rfl, ⟨Nat.le_refl _, rfl, rfl, rfl, fun _ _ => rfl⟩, fun n l hn hq => ?_⟩
  · rcases zs_get g with ⟨rfl, rfl⟩ | ⟨rfl, rfl⟩
    · exact ⟨⟨3, 0, 20⟩, rfl, by rw [zb3_eq]; exact row_brel b3⟩
    · exact ⟨⟨6, 0, 13⟩, rfl, by rw [zb6_eq]; exact row_brel b6⟩
  · unfold mu0 at q1 q2
    split at q1
    · split at q2
      · cases q1; cases q2; exact hne
      · cases q2
    · cases q1
  · have : (zs e3 e6).next = 100 := rfl
    unfold mu0
    rw [if_neg (by simp only [low0]; omega)]
  · unfold mu0 at hq
    rw [if_neg (by omega)] at hq
    cases hq

theorem keeps {e3 e6 : Nat} {K : List Nat} (h3 : (K.contains 3 && K.contains 6) = true) : ∀ n b, n < low0 → (zs e3 e6).heap.get n = some b → n ∈ K := by
  rw [Bool.and_eq_true] at h3
  intro n b _ g
  rcases zs_get g with ⟨rfl, _⟩ | ⟨rfl, _⟩
  · simpa using h3.1
  · simpa using h3.2

section
variable {e3 e6 : Nat} {wS w : World} {μ : Mu} {a : Act}

theorem rv_call : CallOk Tryz.prog (zs e3 e6).heap rvCall := evFn_ok (rv_tok e3 e6) rv_mix 59
theorem rv_keep (e3 e6 : Nat) : CallKeep rvCall := evFn_keep (rv_tok e3 e6).extKeep 59

theorem pc {c : Code} {x : Ex} {e e' : Env} {K : List Nat} {s s2 : St} (h : (evCode rvTab rvCall 37 100000 c e s).om (rvTrim K) = some (x, e', s2)) (m : Here (zs e3 e6).heap wS 37 e s μ a w)
    (hK : (K.contains 3 && K.contains 6) = true) {Q : Exit → Act → World → Prop} (hQ : ∀ μ' a' w', Here (zs e3 e6).heap wS 37 e' s2 μ' a' w' → Q x.out a' w') : c.wp Tryz.prog Q a w := by
  obtain ⟨⟨x1, e1, s1⟩, hr, hv⟩ := om_eq h
  have h1 : x1 = x := congrArg (·.1) hv
  have h2 : e1 = e' := congrArg (·.2.1) hv
  have h3 : s1.trim K = s2 := congrArg (·.2.2) hv
  refine Here.piece (rv_tok e3 e6) rv_call (rv_keep e3 e6) rv_mix hr m (keeps hK) fun μ' a' w' h => ?_
  rw [h3, h2] at h
  rw [h1]
  exact hQ μ' a' w' h

theorem run_shape : Tryz.f10.body = some (.seq (seqL runBody) (.seq (seqL (seqR runBody)) (.seq (seqL (seqR (seqR runBody))) (.seq (.block 1 (.loop runLoop)) runLast)))) := by kernel_rfl
theorem run_ntmps : Tryz.f10.ntmps = 37 := by kernel_rfl
theorem run_results : Tryz.f10.results.toList = [.tmp 4, .tmp 5] := by kernel_rfl

theorem run_loop {Q : Exit → Act → World → Prop} (m : Here (zs e3 e6).heap wS 37 p2e (p2s e3 e6) μ a w) (hQ : ∀ μ' a' w', Here (zs e3 e6).heap wS 37 r8e (r8s e3 e6) μ' a' w' → Q (.exit 1) a' w') :
    (Code.loop runLoop).wp Tryz.prog Q a w := by
  refine wp_loop_rounds 9 ?_
  refine pc (k_r0 e3 e6) m (by decide) fun μ a w m => ?_
  refine pc (k_r1 e3 e6) m (by decide) fun μ a w m => ?_
  refine pc (k_r2 e3 e6) m (by decide) fun μ a w m => ?_
  refine pc (k_r3 e3 e6) m (by decide) fun μ a w m => ?_
  refine pc (k_r4 e3 e6) m (by decide) fun μ a w m => ?_
  refine pc (k_r5 e3 e6) m (by decide) fun μ a w m => ?_
  refine pc (k_r6 e3 e6) m (by decide) fun μ a w m => ?_
  refine pc (k_r7 e3 e6) m (by decide) fun μ a w m => ?_
  exact pc (k_r8 e3 e6) m (by decide) fun μ a w m => hQ μ a w m

def script : List UInt8 := [99, 97, 114, 101, 116, 10, 102, 108, 121, 10, 102, 111, 110, 116, 32, 53, 48, 48, 32, 54, 49, 10, 115, 116, 121, 108, 101, 32, 48, 32, 50, 48, 32, 48, 32, 48, 10, 116, 101, 120, 116, 32, 54, 49, 54, 49, 10, 111, 112, 101, 110, 10, 115, 104, 111, 119, 32, 48, 10, 97, 117, 100, 105, 116, 32, 48]
theorem inie_eq : inie = bindArgs [iniV, .str script] 0 .nil := by kernel_rfl

/-- What Run hands back. -/
noncomputable def runV : V := .tup [Env.at q0e 4, Env.at q0e 5]
def RunPost (wS : World) (en : Ending) (w' : World) : Prop := match en with
  | .returned X => ∃ μ', Rel μ' runV X ∧ Grew wS w'
  | _ => False

theorem run_end (m' : Here (zs e3 e6).heap wS 37 q0e (q0s e3 e6) μ a w) : bodyPostD Tryz.prog Tryz.f10 (RunPost wS) .ret a w := by
  have hr : resultV rvTab q0e (q0s e3 e6) [.tmp 4, .tmp 5] = some ([Env.at q0e 4, Env.at q0e 5], q0s e3 e6) := rfl
  have cx : Cx Tryz.prog rvTab (fun n => n < (q0s e3 e6).next) (q0s e3 e6) μ q0e 37 a w := ⟨(rv_tok e3 e6).ty, m'.env, m'.mid.glob, m'.mid.bnd, m'.mid.ok⟩
  obtain ⟨_, _, X, q3, q4⟩ := results_ok run_results hr cx (fun n _ hn => hn)
  have hd : a.defers = [] := m'.dfr
  show Leaves Tryz.prog Tryz.f10 a.tmps _ a.defers .returning w
  rw [hd]
  exact ⟨X, q4, μ, q3, m'.mid.grew⟩

theorem run_calls {X Y : Value} (m : Mid (zs e3 e6).heap wS (inis e3 e6) μ w) (hX : Rel μ iniV X) (hY : Rel μ (.str script) Y) :
    Calls Tryz.prog 10 #[X, Y] w (RunPost wS) := by
  have hv := enter_env (RelL.cons hX (RelL.cons hY RelL.nil)) 37
  rw [← inie_eq] at hv
  have here : Here (zs e3 e6).heap wS 37 inie (inis e3 e6) μ { tmps := (⟨[X, Y]⟩ : Array Value) ++ Array.replicate (37 - (⟨[X, Y]⟩ : Array Value).size) undef, defers := [] } w := ⟨m, hv, rfl⟩
  refine calls_of_wp_defers (P := Tryz.prog) (f := 10) (fn := Tryz.f10) (args := #[X, Y]) Tryz.func10 run_shape ?_
  rw [run_ntmps]
  refine wp_seq (pc (k_p0 e3 e6) here (by decide) fun μ a w m => ?_)
  refine wp_seq (pc (k_p1 e3 e6) m (by decide) fun μ a w m => ?_)
  refine wp_seq (pc (k_p2 e3 e6) m (by decide) fun μ a w m => ?_)
  refine wp_seq (wp_block (run_loop m fun μ a w m => ?_))
  exact pc (k_q0 e3 e6) m (by decide) fun μ a w m => run_end m

end

/-! New. -/
def NewPost (e3 e6 : Nat) (wS : World) (en : Ending) (w' : World) : Prop := match en with
  | .returned X => ∃ μ', Rel μ' iniV X ∧ Mid (zs e3 e6).heap wS (inis e3 e6) μ' w'
  | _ => False
theorem new_calls {e3 e6 : Nat} {w : World} (h : Laid e3 e6 w) : Calls Tryz.prog 9 #[] w (NewPost e3 e6 w) := by
  obtain ⟨⟨v, s'⟩, hr, hv⟩ := om_eq (k_new e3 e6)
  have h1 : v = iniV := congrArg (·.1) hv
  have h2 : s'.trim iniK = inis e3 e6 := by
    have h3 := congrArg (·.2) hv
    have hd : s'.dfr = [] := ((evFn_keep (rv_tok e3 e6).extKeep 60) _ _ _ _ _ hr).dfr
    show (⟨onlyT s'.heap iniK .nil, s'.next, 0, 0, s'.dfr⟩ : St) = _
    rw [hd]
    exact h3
  have m := mid0 h
  refine (evFn_ok (rv_tok e3 e6) rv_mix 60 (fun n => n < low0) (zs e3 e6) s' mu0 w 9 [] [] v hr RelL.nil m.glob m.bnd m.ok ⟨Nat.le_refl _, fun n hn => hn, fun n _ => rfl⟩ (fun n _ hn => hn) (fun n hn _ => m.fresh n hn)).mono fun en w' hh => ?_
  cases en with
  | returned X =>
    obtain ⟨μ', hs, hx⟩ := hh
    refine ⟨μ', by rw [← h1]; exact hx, ?_⟩
    rw [← h2]
    exact m.step (D := fun n => n < low0) (s1 := zs e3 e6) (fun n hn => hn) rfl rfl rfl hs (keeps (by decide))
  | panicked ch => exact hh
  | outgrown => exact hh
end Go.Proofs.YtdicpkjblflgbaaGreatDoor

/-
  alive(): its own lines.
-/
namespace Go.Proofs.YtdicpkjblflgbaaGreatDoor
open Go Go.Rv Go.RowKit

def expect : List UInt8 := [101, 114, 114, 111, 114, 32, 49, 52, 10, 101, 114, 114, 111, 114, 32, 51, 10, 111, 107, 10, 111, 107, 10, 111, 107, 10, 111, 107, 10, 98, 97, 115, 101, 32, 48, 10, 48, 32, 50, 32, 48, 32, 50, 48, 32, 50, 32, 46, 32, 40, 48, 32, 49, 32, 48, 32, 48, 32, 49, 48, 32, 48, 47, 49, 47, 48, 47, 48, 41, 32, 40, 49, 32, 50, 32, 48, 32, 49, 48, 32, 49, 48, 32, 48, 47, 49, 47, 49, 48, 47, 48, 41, 10, 48, 10]
theorem run_4 : Env.at q0e 4 = .str expect := by kernel_rfl
theorem run_5 : Env.at q0e 5 = .int .i64 0 := by kernel_rfl

def NewIn (e3 e6 : Nat) (wS : World) (p : Addr) (w' : World) : Prop := ∃ μ', Rel μ' iniV (.pointer (some p)) ∧ Mid (zs e3 e6).heap wS (inis e3 e6) μ' w'
theorem new_calls' {e3 e6 : Nat} {w : World} (h : Laid e3 e6 w) : Calls Tryz.prog 9 #[] w fun e w' => ∃ p, e = .returned (.pointer (some p)) ∧ NewIn e3 e6 w p w' :=
  (new_calls h).mono fun en w' hh => by
    cases en with
    | returned X =>
      obtain ⟨μ', hr, hm⟩ := hh
      have hr' := hr
      simp only [iniV, Rel] at hr'
      obtain ⟨l, _, rfl⟩ := hr'
      exact ⟨_, rfl, μ', hr, hm⟩
    | panicked ch => exact hh.elim
    | outgrown => exact hh.elim
theorem run_calls' {e3 e6 : Nat} {wS w : World} {p : Addr} {Y : ByteArray} (h : NewIn e3 e6 wS p w) (hY : Y = ⟨script.toArray⟩) : Calls Tryz.prog 10 #[.pointer (some p), .string Y] w fun e w' => ∃ S, e = .returned (.tuple #[.string S, .int .i64 0]) ∧ S = ⟨expect.toArray⟩ ∧ Grew wS w' := by
  obtain ⟨μ, hr, hm⟩ := h
  refine (run_calls hm hr (Y := .string Y) (by simp only [Rel]; rw [hY])).mono fun en w' hh => ?_
  cases en with
  | returned X =>
    obtain ⟨μ', hx, hg⟩ := hh
    refine ⟨⟨expect.toArray⟩, ?_, rfl, hg⟩
    simp only [runV, run_4, run_5, Rel] at hx
    obtain ⟨xs, rfl, hl⟩ := hx
    obtain ⟨x, y, rfl, h1, h2⟩ := hl.two
    simp only [Rel] at h1 h2
    subst h1 h2
    rfl
  | panicked ch => exact hh.elim
  | outgrown => exact hh.elim

theorem alive_calls {e3 e6 : Nat} {w : World} (h : Laid e3 e6 w) : Calls Tryz.prog 4 #[] w fun e w' => e = .returned (.bool true) ∧ Grew w w' := by
  go_enter Tryz.func4, Tryz.ntmps4
  go_wp2_with (first | (go_at_call 9; refine (new_calls' h).mono ?_; rintro e w' ⟨p, rfl, hn⟩) | (go_at_call 10; refine (run_calls' hn (by kernel_rfl)).mono ?_; rintro e w2 ⟨S, rfl, hS, hg⟩))
  go_ret
  refine ⟨?_, hg⟩
  rw [show (expect == _) = true from of_decide_eq_true (by kernel_rfl)]
  rfl
end Go.Proofs.YtdicpkjblflgbaaGreatDoor
