/-
  Functions, deferred calls, ranges over maps: what the evaluator returns, the program's function returns. Conditions: those that each statement below names, and no other.
-/
import Derived.Test.YtdicpkjblflgbaaGreatDoorRunH
set_option linter.all false

/-
  Functions.
-/
namespace Go.Rv
open Go Go.RowKit

theorem bindArgs_at (t : Nat) : ∀ (l : List V) (i : Nat) (e : Env), Env.at (bindArgs l i e) t = if i ≤ t ∧ t < i + l.length then (l[t - i]?).getD undefV else e.at t
  | [], i, e => by
    unfold bindArgs
    rw [if_neg (by simp)]
  | v :: l, i, e => by
    unfold bindArgs
    rw [bindArgs_at t l (i + 1), env_put]
    simp only [List.length_cons]
    by_cases h1 : i + 1 ≤ t ∧ t < i + 1 + l.length
    · rw [if_pos h1, if_pos (by omega), show t - i = (t - (i + 1)) + 1 by omega]
      simp
    · rw [if_neg h1]
      by_cases h2 : t = i
      · subst h2
        rw [if_pos rfl, if_pos (by omega)]
        simp
      · rw [if_neg h2, if_neg (by omega)]

theorem nil_at (t : Nat) : Env.at (.nil : T V) t = undefV := rfl

section
variable {P : Program} {tab : Tab} {g0 : T B} {D : Nat → Prop} {s0 s s' s1 : St} {μ0 μ : Mu} {e e' : Env} {nt : Nat} {a : Act} {w0 w : World} {v : V} {o : Oper} {call : Call} {fi : FI}

theorem enter_env {args : List V} {xs : List Value} (h : RelL μ args xs) (n : Nat) : ERel μ (bindArgs args 0 .nil) n ((⟨xs⟩ : Array Value) ++ Array.replicate (n - (⟨xs⟩ : Array Value).size) undef) := by
  have hl := h.length
  refine ⟨by simp; omega, fun t => ?_⟩
  rw [bindArgs_at, nil_at]
  by_cases ht : t < args.length
  · rw [if_pos (by omega)]
    obtain ⟨v, hv⟩ : ∃ v, args[t]? = some v := ⟨args[t], List.getElem?_eq_getElem ht⟩
    obtain ⟨X, hX, hr⟩ := h.get hv
    have : (((⟨xs⟩ : Array Value) ++ Array.replicate (n - (⟨xs⟩ : Array Value).size) undef))[t]? = some X := by
      rw [Array.getElem?_append_left (by simp; omega)]
      simpa using hX
    simp only [Nat.sub_zero, hv, Option.getD_some, Array.getD_eq_getD_getElem?, this]
    exact hr
  · rw [if_neg (by omega)]
    have : (((⟨xs⟩ : Array Value) ++ Array.replicate (n - (⟨xs⟩ : Array Value).size) undef)).getD t undef = undef := by
      rw [Array.getD_eq_getD_getElem?, Array.getElem?_append_right (by simp; omega), Array.getElem?_replicate]
      split <;> rfl
    rw [this]
    exact rel_undef μ

/-! ### Results -/
theorem resultV_keep : ∀ {l : List ResultVar} {s s' : St} {vs : List V}, resultV tab e s l = some (vs, s') → Keep low0 s s'
  | [], s, s', vs, h => by unfold resultV at h; cases h; exact Keep.refl _ _
  | .tmp t :: l, s, s', vs, h => by
    unfold resultV at h
    obtain ⟨r, h1, h2⟩ := om_eq h
    cases h2
    exact resultV_keep (vs := r.1) h1
  | .cell b t :: l, s, s', vs, h => by
    unfold resultV at h
    split at h
    · obtain ⟨u, cs, ext, ro, hg, h⟩ := cells_eq h
      obtain ⟨ti, ht, h⟩ := ob_eq h
      obtain ⟨v, hv, h⟩ := ob_eq h
      obtain ⟨r, h1, h2⟩ := om_eq h
      cases h2
      exact (Keep.read s _).trans (resultV_keep (vs := r.1) h1)
    · cases h

def resRead (tmps : Array Value) : ResultVar → Sem Value
  | .tmp t => pure (tmps.getD t undef)
  | .cell b t => do loadVar t (← asAddr (tmps.getD b undef))

theorem results_eq (fn : Func) (tmps : Array Value) : results fn tmps = (do
    let vs ← fn.results.mapM (resRead tmps)
    pure (if h : vs.size = 1 then vs[0] else .tuple vs)) := by
  unfold results
  congr 1

theorem resultV_ok : ∀ {l : List ResultVar} {s s' : St} {vs : List V}, resultV tab e s l = some (vs, s') → Cx P tab D s μ e nt a w → (∀ n, s'.acc.testBit n = true → n < s.next → D n) →
    s'.next = s.next ∧ Step low0 D s s' μ μ w w ∧ ∃ xs : List Value, RelL μ vs xs ∧ (l.mapM (resRead a.tmps)).run P w = .ok xs w
  | [], s, s', vs, h, c, hA => by
    unfold resultV at h; cases h
    exact ⟨rfl, c.same, [], RelL.nil, rfl⟩
  | .tmp t :: l, s, s', vs, h, c, hA => by
    unfold resultV at h
    obtain ⟨r, h1, h2⟩ := om_eq h
    cases h2
    obtain ⟨q1, q2, xs, q3, q4⟩ := resultV_ok (vs := r.1) h1 c hA
    refine ⟨q1, q2, a.tmps.getD t undef :: xs, RelL.cons (c.env.at_ t) q3, ?_⟩
    rw [List.mapM_cons]
    simp only [resRead, Sem.run_bind, Sem.run_pure, Result.andThen]
    rw [q4]
  | .cell b t :: l, s, s', vs, h, c, hA => by
    unfold resultV at h
    split at h
    · rename_i n o hat
      obtain ⟨u, cs, ext, ro, hg, h⟩ := cells_eq h
      obtain ⟨ti, ht, h⟩ := ob_eq h
      obtain ⟨v, hv, h⟩ := ob_eq h
      obtain ⟨r, h1, h2⟩ := om_eq h
      cases h2
      have hk := resultV_keep (vs := r.1) h1
      have hA1 : ∀ i, ({ s with acc := s.acc ||| 2 ^ n } : St).acc.testBit i = true → i < s.next → D i := fun i hi hlt => hA i (hk.acc i hi) hlt
      obtain ⟨_, lc, hl, hb⟩ := c.at_ (s' := { s with acc := s.acc ||| 2 ^ n }) hg (acc_bit s n) hA1
      obtain ⟨X, hX, hr⟩ := part_load (c.ty t ti ht) hb hv
      obtain ⟨q1, q2, xs, q3, q4⟩ := resultV_ok (vs := r.1) h1 (c.acc _) hA
      have hp := c.env.at_ b
      rw [hat] at hp
      simp only [Rel] at hp
      obtain ⟨l', hl', hp⟩ := hp
      rw [hl] at hl'; cases hl'
      refine ⟨q1, ?_, X :: xs, RelL.cons hr q3, ?_⟩
      · have st := (c.read n).trans (s2 := r.2) (by rw [same_dom rfl]; exact q2)
        exact st
      · rw [List.mapM_cons]
        simp only [resRead, Sem.run_bind]
        rw [hp]
        simp only [asAddr, Sem.run_pure, Result.andThen, hX]
        rw [q4]
    · cases h

theorem results_ok {fn : Func} {l : List ResultVar} {vs : List V} (hf : fn.results.toList = l) (h : resultV tab e s l = some (vs, s')) (c : Cx P tab D s μ e nt a w)
    (hA : ∀ n, s'.acc.testBit n = true → n < s.next → D n) :
    s'.next = s.next ∧ Step low0 D s s' μ μ w w ∧ ∃ X, Rel μ (oneV vs) X ∧ (results fn a.tmps).run P w = .ok X w := by
  obtain ⟨q1, q2, xs, q3, q4⟩ := resultV_ok h c hA
  refine ⟨q1, q2, ?_⟩
  have hm : (fn.results.mapM (resRead a.tmps)).run P w = .ok ⟨xs⟩ w := by
    rw [Array.mapM_eq_mapM_toList, Sem.run_map, hf, q4]
    rfl
  rw [results_eq, Sem.run_bind, hm]
  simp only [Result.andThen, Sem.run_pure]
  cases vs with
  | nil =>
    have := q3.nil_inv
    subst this
    exact ⟨.tuple #[], by simp only [oneV, Rel]; exact ⟨[], rfl, RelL.nil⟩, rfl⟩
  | cons x l' =>
    cases l' with
    | nil =>
      obtain ⟨X, rfl, h1⟩ := q3.one
      exact ⟨X, h1, rfl⟩
    | cons y l'' =>
      have h2 : xs.length ≠ 1 := by have := q3.length; simp at this; omega
      refine ⟨.tuple ⟨xs⟩, by simp only [oneV, Rel]; exact ⟨xs, rfl, q3⟩, ?_⟩
      rw [dif_neg (by simpa using h2)]

/-! ### Bodies -/
theorem evBody_keep (hc : CallKeep call) (hx : ExtKeep tab) {loops : Nat} {args : List V} (h : evBody tab call loops fi args s = some (e, s')) : Keep low0 s.nd s'.nd := by
  unfold evBody at h
  split at h
  · rename_i h1; cases h; have k := evCode_keep hc hx _ h1; exact k
  · rename_i h1; cases h; have k := evCode_keep hc hx _ h1; exact k
  · cases h

structure Given (P : Program) (tab : Tab) (g0 : T B) (call : Call) : Prop where
  T : TOk P tab g0
  hc : CallOk P g0 call
  hk : CallKeep call
  mix : P.follows .mixedOrders = true

theorem evBody_wp (G : Given P tab g0 call) {loops : Nat} {args : List V} {xs : List Value} (h : evBody tab call loops fi args s = some (e, s')) (hX : RelL μ args xs) (hg : Glob μ) (hb : Bnd s) (hok : Ok D μ s.heap w) (hd : Gd g0 D s)
    (hA : ∀ n, s'.acc.testBit n = true → n < s.next → D n) (hF : ∀ n, s.next ≤ n → n < s'.next → μ n = none) {Q : Exit → Act → World → Prop}
    (hQ : ∀ μ' a' w', Step low0 D s.nd s'.nd μ μ' w w' → ERel μ' e fi.ntmps a'.tmps → RelDf μ' s'.dfr a'.defers → Q .normal a' w' ∧ Q .ret a' w') :
    fi.body.wp P Q { tmps := (⟨xs⟩ : Array Value) ++ Array.replicate (fi.ntmps - (⟨xs⟩ : Array Value).size) undef, defers := [] } w := by
  have b : Base P tab g0 D s.nd μ := ⟨G.T, hg, hb, ⟨hd.next, hd.dom, hd.heap⟩⟩
  have hat : At P D s.nd μ w fi.ntmps (bindArgs args 0 .nil) { s with dfr := [] } μ { tmps := (⟨xs⟩ : Array Value) ++ Array.replicate (fi.ntmps - (⟨xs⟩ : Array Value).size) undef, defers := [] } w :=
    ⟨Step.same hok rfl rfl (fun _ h => h) rfl, enter_env hX _, rfl⟩
  unfold evBody at h
  split at h
  · rename_i h1
    cases h
    exact (evCode_wp b G.hc G.hk G.mix _ h1 hat hA hF fun μ' a' w' h => (hQ μ' a' w' h.step h.env h.dfr).1).1
  · rename_i h1
    cases h
    exact (evCode_wp b G.hc G.hk G.mix _ h1 hat hA hF fun μ' a' w' h => (hQ μ' a' w' h.step h.env h.dfr).2).1
  · cases h

theorem runD_keep (hc : CallKeep call) (hx : ExtKeep tab) {loops f : Nat} {args : List V} (h : runD tab call loops f args s = some s') : Keep low0 s.nd s'.nd := by
  unfold runD at h
  split at h
  · cases h
  · split at h
    · rename_i h1
      split at h
      · cases hr : resultV tab _ _ _ with
        | none => rw [hr] at h; cases h
        | some r =>
          rw [hr] at h
          cases h
          exact (evBody_keep hc hx h1).trans (resultV_keep (vs := r.1) hr).nd
      · cases h
    · cases h

theorem runDs_keep (hc : CallKeep call) (hx : ExtKeep tab) {loops : Nat} : ∀ {l : List (Nat × List V)} {s s' : St}, runDs tab call loops l s = some s' → Keep low0 s.nd s'.nd
  | [], s, s', h => by unfold runDs at h; cases h; exact Keep.refl _ _
  | (f, args) :: l, s, s', h => by
    unfold runDs at h
    split at h
    · rename_i h1
      exact (runD_keep hc hx h1).trans (runDs_keep hc hx h)
    · cases h

theorem runD_wp (G : Given P tab g0 call) {loops f : Nat} {args : List V} {xs : List Value} (h : runD tab call loops f args s = some s') (hX : RelL μ args xs) (hg : Glob μ) (hb : Bnd s) (hok : Ok D μ s.heap w) (hd : Gd g0 D s)
    (hA : ∀ n, s'.acc.testBit n = true → n < s.next → D n) (hF : ∀ n, s.next ≤ n → n < s'.next → μ n = none) {R : Ending → FrameMode → World → Prop} {u : FrameMode}
    (hR : ∀ μ' w' X, Step low0 D s.nd s'.nd μ μ' w w' → R (.returned X) u w') :
    (∃ fi, tab.fn f = some fi) ∧ CallsD P f ⟨xs⟩ u w R := by
  unfold runD at h
  split at h
  · cases h
  · rename_i fi hfi
    refine ⟨⟨fi, hfi⟩, ?_⟩
    split at h
    · rename_i e1 s1 h1
      split at h
      · rename_i hemp
        cases hr : resultV tab e1 s1 fi.results.toList with
        | none => rw [hr] at h; cases h
        | some r =>
          rw [hr] at h
          cases h
          obtain ⟨fn, hf, _, hbd, hnt, hres⟩ := G.T.fn f fi hfi
          have hkr := resultV_keep (vs := r.1) hr
          have post : ∀ (μ' : Mu) (a' : Act) (w' : World), Step low0 D s.nd s1.nd μ μ' w w' → ERel μ' e1 fi.ntmps a'.tmps → RelDf μ' s1.dfr a'.defers →
              a'.defers = [] ∧ ∃ X, (results fn a'.tmps).run P w' = .ok X w' ∧ R (.returned X) u w' := fun μ' a' w' hs he hdf => by
            have hdfr : s1.dfr = [] := by cases hh : s1.dfr with | nil => rfl | cons x y => rw [hh] at hemp; cases hemp
            rw [hdfr] at hdf
            have cx : Cx P tab (fun n => D n ∨ (s.next ≤ n ∧ n < s1.next)) s1 μ' e1 fi.ntmps a' w' :=
              ⟨G.T.ty, he, hg.mono hs.ext.le, hs.keep.bnd hb, hs.ok⟩
            obtain ⟨q1, q2, X, q3, q4⟩ := results_ok (fn := fn) (by rw [hres]) hr cx (fun n hn hlt => by
              by_cases hn0 : n < s.next
              · exact .inl (hA n hn hn0)
              · exact .inr ⟨by omega, hlt⟩)
            exact ⟨hdf, X, q4, hR μ' w' X (hs.trans q2.nd)⟩
          have hwp := evBody_wp (Q := bodyPost P fn fun en w' => match en with | .returned X => R (.returned X) u w' | _ => False) G h1 hX hg hb hok hd (fun n hn hlt => hA n (hkr.acc n hn) hlt)
            (fun n h1 h2 => hF n h1 (Nat.lt_of_lt_of_le h2 hkr.next)) fun μ' a' w' hs he hdf => by
              obtain ⟨p1, X, p2, p3⟩ := post μ' a' w' hs he hdf
              exact ⟨⟨p1, X, p2, p3⟩, ⟨p1, X, p2, p3⟩⟩
          rw [← hnt] at hwp
          refine (callsD_of_wp (u := u) hf hbd hwp).mono fun en u' w' hh => ?_
          obtain ⟨rfl, hh⟩ := hh
          cases en with
          | returned X => exact hh
          | panicked ch => exact hh.elim
          | outgrown => exact hh.elim
      · cases h
    · cases h

theorem invoke_run {f : Nat} (T : TOk P tab g0) (h : tab.fn f = some fi) (cap args : Array Value) (w : World) : (invoke (.fn (.func f) cap) args).run P w = .ok (.enter f (args ++ cap)) w := by
  simp only [invoke]
  exact enter_run T h _ w

theorem leaves_wp (G : Given P tab g0 call) {loops : Nat} {fn : Func} {tmps : Array Value} {R : Ending → World → Prop} : ∀ {l : List (Nat × List V)} {ds : List Deferred} {s s' : St} {μ : Mu} {w : World} {D : Nat → Prop}, runDs tab call loops l s = some s' → RelDf μ l ds →
    Glob μ → Bnd s → Ok D μ s.heap w → Gd g0 D s → (∀ n, s'.acc.testBit n = true → n < s.next → D n) → (∀ n, s.next ≤ n → n < s'.next → μ n = none) →
    (∀ μ' w', Step low0 D s.nd s'.nd μ μ' w w' → ∃ X, (results fn tmps).run P w' = .ok X w' ∧ R (.returned X) w') → Leaves P fn tmps R ds .returning w
  | [], ds, s, s', μ, w, D, h, hr, hg, hb, hok, hd, hA, hF, hR => by
    unfold runDs at h
    cases h
    simp only [RelDf] at hr
    subst hr
    obtain ⟨X, h1, h2⟩ := hR μ w (Step.same (s := s.nd) hok rfl rfl (fun _ h => h) rfl)
    exact ⟨X, h1, h2⟩
  | (f, args) :: l, ds, s, s', μ, w, D, h, hr, hg, hb, hok, hd, hA, hF, hR => by
    unfold runDs at h
    split at h
    · rename_i s1 h1
      have hk1 := runD_keep G.hk G.T.extKeep h1
      have hk2 := runDs_keep G.hk G.T.extKeep h
      have hn1 : s.next ≤ s1.next := hk1.next
      have hn2 : s1.next ≤ s'.next := hk2.next
      simp only [RelDf] at hr
      obtain ⟨d, ds', rfl, ⟨cap, ht, hX⟩, hr'⟩ := hr
      obtain ⟨⟨fi, hfi⟩, hcd⟩ := runD_wp (u := .returning) (R := fun en u' w' => match en with
          | .returned _ => Leaves P fn tmps R ds' (settle u') w'
          | .panicked chain => Leaves P fn tmps R ds' (raised u' chain) w'
          | .outgrown => R .outgrown w') G h1 hX hg hb hok hd (fun n hn hlt => hA n (hk2.acc n hn) hlt) (fun n h1 h2 => hF n h1 (Nat.lt_of_lt_of_le h2 hn2)) fun μ1 w1 X hs => by
            show Leaves P fn tmps R ds' .returning w1
            refine leaves_wp (D := fun n => D n ∨ (s.next ≤ n ∧ n < s1.next)) G h (hr'.mono hs.ext.le) (hg.mono hs.ext.le) (hs.keep.bnd hb) hs.ok ?_ (fun n hn hlt => ?_) (fun n h1 h2 => ?_) fun μ2 w2 hs2 => hR μ2 w2 (hs.trans hs2)
            · have g := Gd.keep (s := s.nd) (s' := s1.nd) ⟨hd.next, hd.dom, hd.heap⟩ hs.keep
              exact ⟨g.next, g.dom, g.heap⟩
            · by_cases hn0 : n < s.next
              · exact .inl (hA n hn hn0)
              · exact .inr ⟨by omega, hlt⟩
            · exact hs.ext.free (m := s'.next) hF hn1 n h1 h2
      obtain ⟨target, dargs⟩ := d
      simp only at ht
      subst ht
      have harr : (⟨(dargs ++ cap).toList⟩ : Array Value) = dargs ++ cap := rfl
      rw [harr] at hcd
      exact leaves_cons (by simp) (invoke_run G.T hfi cap dargs w) (hcd.mono fun en u' w' h => by cases en <;> exact h)
    · cases h

theorem evPlain_keep (hc : CallKeep call) (hx : ExtKeep tab) {loops : Nat} {args : List V} (h : evPlain tab call loops fi args s = some (v, s')) : Keep low0 s s' := by
  unfold evPlain at h
  split at h
  · rename_i h1
    split at h
    · rename_i h2
      split at h
      · rename_i h3
        cases h
        have k := ((evBody_keep hc hx h1).trans (runDs_keep hc hx h2)).trans (resultV_keep h3).nd
        exact ⟨k.next, k.acc, k.wr, k.wracc, k.low, k.heap, k.had, rfl, k.glob, k.bnd⟩
      · cases h
    · cases h
  · cases h

theorem evPlain_ok (G : Given P tab g0 call) {loops f : Nat} {args : List V} {xs : List Value} (hfi : tab.fn f = some fi) (h : evPlain tab call loops fi args s = some (v, s')) (hX : RelL μ args xs) (hg : Glob μ) (hb : Bnd s) (hok : Ok D μ s.heap w) (hd : Gd g0 D s)
    (hA : ∀ n, s'.acc.testBit n = true → n < s.next → D n) (hF : ∀ n, s.next ≤ n → n < s'.next → μ n = none) :
    Calls P f ⟨xs⟩ w fun
      | .returned X, w' => ∃ μ', Step low0 D s s' μ μ' w w' ∧ Rel μ' v X
      | _, _ => False := by
  obtain ⟨fn, hf, _, hbd, hnt, hres⟩ := G.T.fn f fi hfi
  unfold evPlain at h
  split at h
  · rename_i e1 s1 h1
    split at h
    · rename_i s2 h2
      split at h
      · rename_i vs s3 h3
        cases h
        have hk2 := runDs_keep G.hk G.T.extKeep h2
        have hk3 := resultV_keep h3
        have hk1 := evBody_keep G.hk G.T.extKeep h1
        have n1 : s.next ≤ s1.next := hk1.next
        have n2 : s1.next ≤ s2.next := hk2.next
        have n3 : s2.next ≤ s3.next := hk3.next
        have hA3 : ∀ n, s3.acc.testBit n = true → n < s.next → D n := hA
        have hF3 : ∀ n, s.next ≤ n → n < s3.next → μ n = none := hF
        have lv : ∀ (μ1 : Mu) (a1 : Act) (w1 : World), Step low0 D s.nd s1.nd μ μ1 w w1 → ERel μ1 e1 fi.ntmps a1.tmps → RelDf μ1 s1.dfr a1.defers →
            Leaves P fn a1.tmps (fun en w' => match en with | .returned X => ∃ μ', Step low0 D s { s3 with dfr := s.dfr } μ μ' w w' ∧ Rel μ' (oneV vs) X | _ => False) a1.defers .returning w1 := fun μ1 a1 w1 hs1 he1 hdf1 => by
          refine leaves_wp (D := fun n => D n ∨ (s.next ≤ n ∧ n < s1.next)) G h2 hdf1 (hg.mono hs1.ext.le) (hs1.keep.bnd hb) hs1.ok ?_ (fun n hn hlt => ?_) (fun n h1 h2 => ?_) fun μ2 w2 hs2 => ?_
          · have g := Gd.keep (s := s.nd) (s' := s1.nd) ⟨hd.next, hd.dom, hd.heap⟩ hs1.keep
            exact ⟨g.next, g.dom, g.heap⟩
          · by_cases hn0 : n < s.next
            · exact .inl (hA3 n (hk3.acc n hn) hn0)
            · exact .inr ⟨by omega, hlt⟩
          · exact hs1.ext.free (m := s3.next) hF3 n1 n h1 (by omega)
          · have hs12 := hs1.trans hs2
            have cx : Cx P tab (fun n => D n ∨ (s.next ≤ n ∧ n < s2.next)) s2 μ2 e1 fi.ntmps a1 w2 :=
              ⟨G.T.ty, he1.mono hs2.ext.le, hg.mono hs12.ext.le, hs12.keep.bnd hb, hs12.ok⟩
            obtain ⟨q1, q2, X, q3, q4⟩ := results_ok (fn := fn) (by rw [hres]) h3 cx (fun n hn hlt => by
              by_cases hn0 : n < s.next
              · exact .inl (hA3 n hn hn0)
              · exact .inr ⟨by omega, hlt⟩)
            have st := hs12.trans q2.nd
            refine ⟨X, q4, μ2, ⟨⟨st.keep.next, st.keep.acc, st.keep.wr, st.keep.wracc, st.keep.low, st.keep.heap, st.keep.had, rfl, st.keep.glob, st.keep.bnd⟩,
              ⟨st.ext.le, st.ext.dom, st.ext.new, st.ext.size, st.ext.os, st.ext.tape, st.ext.output, st.ext.block⟩, st.ok⟩, q3⟩
        have hwp := evBody_wp (Q := bodyPostD P fn fun en w' => match en with | .returned X => ∃ μ', Step low0 D s { s3 with dfr := s.dfr } μ μ' w w' ∧ Rel μ' (oneV vs) X | _ => False)
          G h1 hX hg hb hok hd (fun n hn hlt => hA3 n (hk3.acc n (hk2.acc n hn)) hlt) (fun n h1 h2 => hF3 n h1 (by omega)) fun μ1 a1 w1 hs1 he1 hdf1 => ⟨lv μ1 a1 w1 hs1 he1 hdf1, lv μ1 a1 w1 hs1 he1 hdf1⟩
        rw [← hnt] at hwp
        refine (calls_of_wp_defers hf hbd hwp).mono fun en w' hh => ?_
        cases en with
        | returned X => exact hh
        | panicked ch => exact hh.elim
        | outgrown => exact hh.elim
      · cases h
    · cases h
  · cases h

end
end Go.Rv

/-
  Ranging over a map: every order of its entries.
-/
namespace Go.Rv
open Go Go.RowKit

theorem allWays_mem {α β : Type} {f : α → Option (List β)} : ∀ {l : List α} {outs : List β}, allWays f l = some outs → ∀ a ∈ l, ∃ r, f a = some r ∧ ∀ x ∈ r, x ∈ outs
  | [], outs, h, a, ha => by cases ha
  | b :: l, outs, h, a, ha => by
    unfold allWays at h
    split at h
    · rename_i r hr
      split at h
      · rename_i r' hr'
        cases h
        cases ha with
        | head => exact ⟨r, hr, fun x hx => List.mem_append_left _ hx⟩
        | tail _ ha =>
          obtain ⟨q, h1, h2⟩ := allWays_mem hr' a ha
          exact ⟨q, h1, fun x hx => List.mem_append_right _ (h2 x hx)⟩
      · cases h
    · cases h

theorem allWays_of {α β : Type} {f : α → Option (List β)} : ∀ {l : List α} {outs : List β}, allWays f l = some outs → ∀ x ∈ outs, ∃ a ∈ l, ∃ r, f a = some r ∧ x ∈ r
  | [], outs, h, x, hx => by unfold allWays at h; cases h; cases hx
  | b :: l, outs, h, x, hx => by
    unfold allWays at h
    split at h
    · rename_i r hr
      split at h
      · rename_i r' hr'
        cases h
        rcases List.mem_append.1 hx with hx | hx
        · exact ⟨b, List.mem_cons_self .., r, hr, hx⟩
        · obtain ⟨a, h1, h2⟩ := allWays_of hr' x hx
          exact ⟨a, List.mem_cons_of_mem _ h1, h2⟩
      · cases h
    · cases h

section
variable {P : Program} {tab : Tab} {g0 : T B} {D : Nat → Prop} {s0 s s' s1 : St} {μ0 μ : Mu} {e e' : Env} {nt : Nat} {a : Act} {w0 w : World} {v : V} {o : Oper} {call : Call} {fi : FI} {ops : Array Oper}

/-! ### The operations of a range -/
/-- What is asked of an operation with more than one way. -/
def OpWays (P : Program) (D : Nat → Prop) (s : St) (μ : Mu) (w : World) (a : Act) (o : Oper) (rs : List (V × St)) : Prop :=
  ∀ (a2 : Act) (K : Act → World → Prop) (Q : Exit → Act → World → Prop), (∀ r ∈ rs, ∀ μ' w' X, Step low0 D s r.2 μ μ' w w' → Rel μ' r.1 X → K (a2.put o.dst X) w') →
    o.upon P a2 K Q ((execOp a.eval o).run P w)

theorem oRange_keep {t : Nat} {x : Operand} {rs : List (V × St)} (h : oRange tab e t x s = some rs) : rs ≠ [] ∧ ∀ r ∈ rs, Keep low0 s r.2 := by
  unfold oRange at h
  split at h
  · split at h
    · rename_i hr
      obtain ⟨_, rfl⟩ := read_eq hr
      obtain ⟨_, h⟩ := sel_some h
      cases h
      exact ⟨by simp, fun r hr => by
        simp at hr; subst hr
        exact (Keep.read s _).trans (Keep.fresh _ _)⟩
    · cases h
  · cases h

theorem oNext_keep {x : Operand} {rs : List (V × St)} (h : oNext e x s = some rs) : rs ≠ [] ∧ ∀ r ∈ rs, Keep low0 s r.2 := by
  unfold oNext at h
  split at h
  · split at h
    · rename_i hr
      obtain ⟨hg, rfl⟩ := read_eq hr
      split at h
      · rename_i hr2
        obtain ⟨hg2, rfl⟩ := read_eq hr2
        obtain ⟨hc, h⟩ := sel_some h
        cases h
        simp only [Bool.and_eq_true, Nat.ble_eq] at hc
        unfold nextWays
        split
        · exact ⟨by simp, fun r hr => by
            simp at hr; subst hr
            exact (Keep.read s _).trans (Keep.read _ _)⟩
        · rename_i hne
          refine ⟨?_, fun r hr => ?_⟩
          · intro h0
            have := List.map_eq_nil_iff.1 h0
            exact hne this
          · obtain ⟨y, hy, rfl⟩ := List.mem_map.1 hr
            exact ((Keep.read s _).trans (Keep.read _ _)).trans (Keep.write (by exact hg) hc.1.1)
      · cases h
    · cases h
  · cases h

theorem oEntry_keep {x : Operand} {rs : List (V × St)} (h : oEntry e x s = some rs) : rs ≠ [] ∧ ∀ r ∈ rs, Keep low0 s r.2 := by
  unfold oEntry at h
  split at h
  · split at h
    · rename_i hr
      obtain ⟨hg, rfl⟩ := read_eq hr
      split at h
      · rename_i hr2
        obtain ⟨hg2, rfl⟩ := read_eq hr2
        obtain ⟨_, h⟩ := sel_some h
        obtain ⟨_, _, h⟩ := ob_eq h
        obtain ⟨_, _, h⟩ := om_eq h
        cases h
        exact ⟨by simp, fun r hr => by
          simp at hr; subst hr
          exact (Keep.read s _).trans (Keep.read _ _)⟩
      · cases h
    · cases h
  · cases h

theorem evOpM_keep (hc : CallKeep call) (hx : ExtKeep tab) {o : Op} {rs : List (V × St)} (h : evOpM tab call e o s = some rs) : rs ≠ [] ∧ ∀ r ∈ rs, Keep low0 s r.2 := by
  have plain : ∀ {o : Op}, ((evOp tab call e o s).om fun r => [r]) = some rs → rs ≠ [] ∧ ∀ r ∈ rs, Keep low0 s r.2 := by
    intro o h
    obtain ⟨r, h1, rfl⟩ := om_eq h
    exact ⟨by simp, fun q hq => by
      simp at hq; subst hq
      exact evOp_keep hc hx (v := q.1) h1⟩
  unfold evOpM at h
  split at h
  · exact oRange_keep h
  · rename_i x b
    unfold rangeM at h
    split at h
    · rename_i heq; cases heq
    · exact oNext_keep h
    · rename_i heq; cases heq
    · cases h
  · exact oEntry_keep h
  · exact plain h

theorem isMap_und (hty : ∀ t ti, tab.ty t = some ti → TyOk P t ti) {t : Nat} (h : isMapTy tab t = true) : ∃ k u, P.underlying t = some (.map k u) := by
  unfold isMapTy at h
  split at h
  · rename_i ti ht
    exact und_map (hty _ _ ht) h
  · cases h

theorem oRange_ok (c : Cx P tab D s μ e nt a w) {t : Nat} {x : Operand} {rs : List (V × St)} (ho : o.op = .range t x) (h : oRange tab e t x s = some rs)
    (hA : ∀ r ∈ rs, ∀ n, r.2.acc.testBit n = true → n < s.next → D n) (hF : ∀ r ∈ rs, ∀ n, s.next ≤ n → n < r.2.next → μ n = none) : OpWays P D s μ w a o rs := by
  unfold oRange at h
  split at h
  · rename_i m hev
    split at h
    · rename_i es ck s2 hr
      obtain ⟨hg, rfl⟩ := read_eq hr
      obtain ⟨ht, h⟩ := sel_some h
      cases h
      have hA1 := hA _ (List.mem_singleton.2 rfl)
      have hF1 := hF _ (List.mem_singleton.2 rfl)
      obtain ⟨k, u, hu⟩ := isMap_und c.ty ht
      obtain ⟨_, l, hl, hb⟩ := c.at_ (s' := { s with acc := s.acc ||| 2 ^ m }) hg (acc_bit s m) hA1
      obtain ⟨ES, b1, b2⟩ := hb
      have hX := c.ev hev
      simp only [Rel] at hX
      obtain ⟨l', hl', hX⟩ := hX
      rw [hl] at hl'; cases hl'
      have hf : μ s.next = none := hF1 s.next (Nat.le_refl _) (Nat.lt_succ_self _)
      have hne : m ≠ s.next := fun e => by rw [e, hf] at hl; cases hl
      intro a2 K Q hK
      have hrun : (execOp a.eval o).run P w = .ok (.value (.pointer (some ⟨w.heap.size, 0, none⟩))) (w.alloc (.mapIter (some l.blk) ck #[] ck)) := by
        have hgm := getMap_run (P := P) b1
        simp [execOp, ho, hX, Instr.range, run_underlying hu, hgm, newObj, Sem.run]
      rw [hrun]
      refine hK _ (List.mem_singleton.2 rfl) (μ.add s.next ⟨w.heap.size, 0, 0⟩) _ _ ?_ (rel_new μ s.next w.heap.size 0)
      refine (c.read m).trans ?_
      rw [same_dom rfl]
      exact Step.alloc (s := { s with acc := s.acc ||| 2 ^ m }) (c.acc _).ok c.bnd hf ⟨rfl, l, by simp [Mu.add, hne, hl], heap_alloc_new w _⟩
    · cases h
  · cases h

theorem RelE.filter {p : V × V × Nat → Bool} {q : MapEntry → Bool} (hpq : ∀ x y, y.born = x.2.2 → p x = q y) : ∀ {es : List (V × V × Nat)} {ES : List MapEntry}, RelE μ es ES → RelE μ (es.filter p) (ES.filter q)
  | [], ES, h => by simp only [RelE] at h; subst h; simp [RelE]
  | (k, v, b) :: es, ES, h => by
    simp only [RelE] at h
    obtain ⟨y, ys, rfl, h1, h2, h3, h4⟩ := h
    have := hpq (k, v, b) y h3
    simp only [List.filter_cons, this]
    split
    · simp only [RelE]
      exact ⟨y, _, rfl, h1, h2, h3, RelE.filter hpq h4⟩
    · exact RelE.filter hpq h4

theorem RelE.all {p : V × V × Nat → Bool} {q : MapEntry → Bool} (hpq : ∀ x y, y.born = x.2.2 → p x = q y) : ∀ {es : List (V × V × Nat)} {ES : List MapEntry}, RelE μ es ES → es.all p = ES.all q
  | [], ES, h => by simp only [RelE] at h; subst h; rfl
  | (k, v, b) :: es, ES, h => by
    simp only [RelE] at h
    obtain ⟨y, ys, rfl, h1, h2, h3, h4⟩ := h
    have := hpq (k, v, b) y h3
    simp only [List.all_cons, this, RelE.all hpq h4]

theorem RelE.find {p : V × V × Nat → Bool} {q : MapEntry → Bool} (hpq : ∀ x y, y.born = x.2.2 → p x = q y) : ∀ {es : List (V × V × Nat)} {ES : List MapEntry} {x : V × V × Nat}, RelE μ es ES → es.find? p = some x →
    ∃ y, ES.find? q = some y ∧ Rel μ x.1 y.key ∧ Rel μ x.2.1 y.val
  | [], ES, x, h, hx => by simp at hx
  | (k, v, b) :: es, ES, x, h, hx => by
    simp only [RelE] at h
    obtain ⟨y, ys, rfl, h1, h2, h3, h4⟩ := h
    have := hpq (k, v, b) y h3
    simp only [List.find?_cons] at hx ⊢
    rw [← this]
    split at hx
    · cases hx
      exact ⟨y, rfl, h1, h2⟩
    · exact RelE.find hpq h4 hx

theorem RelE.mem {es : List (V × V × Nat)} {ES : List MapEntry} (h : RelE μ es ES) {i : Nat} {Y : MapEntry} (hY : ES[i]? = some Y) : ∃ y, y ∈ es ∧ Rel μ y.1 Y.key ∧ Rel μ y.2.1 Y.val ∧ Y.born = y.2.2 := by
  have hl := h.length
  have hlt : i < es.length := by
    rcases Nat.lt_or_ge i ES.length with h | h
    · omega
    · rw [List.getElem?_eq_none h] at hY; cases hY
  obtain ⟨Y', h1, h2⟩ := h.get (List.getElem?_eq_getElem hlt)
  rw [hY] at h1; cases h1
  exact ⟨_, List.getElem_mem hlt, h2⟩

theorem getIter_run {r since ck : Nat} {m : Option Nat} {seen : Array Nat} (h : w.heap[r]? = some (.mapIter m since seen ck)) : (getObj r).run P w = .ok (.mapIter m since seen ck) w := by
  simp [getObj, Sem.run, h]
theorem setIter_run {r since ck : Nat} {m : Option Nat} {seen : Array Nat} (ob : Obj) (h : w.heap[r]? = some (.mapIter m since seen ck)) : (setObj r ob).run P w = .ok () { w with heap := w.heap.setIfInBounds r ob } := by
  simp [setObj, Sem.run, h]

theorem iter_set {n m since clock st ck : Nat} {seen : List Nat} {sn : Array Nat} {mm : Option Nat} {l lm : Loc} (hm : μ m = some lm) (hoff : l.off = 0) (hlt : w.heap[l.blk]? = some (.mapIter mm since sn ck)) :
    BRel μ l { w with heap := w.heap.setIfInBounds l.blk (.mapIter (some lm.blk) since (seen.toArray.push st) clock) } (.iter m since (seen ++ [st]) clock) := by
  refine ⟨hoff, lm, hm, ?_⟩
  have : l.blk < w.heap.size := by
    rcases Nat.lt_or_ge l.blk w.heap.size with h | h
    · exact h
    · rw [Array.getElem?_eq_none h] at hlt; cases hlt
  rw [Array.getElem?_setIfInBounds_self_of_lt this]
  simp

theorem empty_false {α : Type} {A : Array α} (h : 0 < A.size) : A.isEmpty = false := by
  cases hh : A.isEmpty with
  | false => rfl
  | true =>
    rw [Array.isEmpty_iff] at hh
    subst hh
    simp at h

theorem seen_any (seen : List Nat) (b : Nat) : seen.toArray.contains b = seen.contains b := by simp

theorem oNext_ok (c : Cx P tab D s μ e nt a w) {x : Operand} {rs : List (V × St)} (ho : o.op = .next x false) (h : oNext e x s = some rs)
    (hA : ∀ r ∈ rs, ∀ n, r.2.acc.testBit n = true → n < s.next → D n) : OpWays P D s μ w a o rs := by
  have hkeep := oNext_keep h
  unfold oNext at h
  split at h
  · rename_i n hev
    split at h
    · rename_i m since seen last s2 hr
      obtain ⟨hg, rfl⟩ := read_eq hr
      split at h
      · rename_i es clock s3 hr2
        obtain ⟨hg2, rfl⟩ := read_eq hr2
        obtain ⟨hc, h⟩ := sel_some h
        cases h
        simp only [Bool.and_eq_true, Nat.ble_eq, Bool.not_eq_true'] at hc
        obtain ⟨⟨hlow, hgone⟩, hold⟩ := hc
        have hg2' : s.heap.get m = some (.map es clock) := hg2
        -- one way is there
        obtain ⟨r0, hr0⟩ : ∃ r, r ∈ nextWays n m since clock seen es { { s with acc := s.acc ||| 2 ^ n } with acc := (s.acc ||| 2 ^ n) ||| 2 ^ m } := List.exists_mem_of_ne_nil _ hkeep.1
        have hacc : ∀ i, ((s.acc ||| 2 ^ n) ||| 2 ^ m).testBit i = true → r0.2.acc.testBit i = true := by
          intro i hi
          unfold nextWays at hr0
          split at hr0
          · simp at hr0; subst hr0; exact hi
          · obtain ⟨y, _, rfl⟩ := List.mem_map.1 hr0
            exact testBit_lor_pow.2 (.inl hi)
        have hA1 : ∀ i, ({ s with acc := (s.acc ||| 2 ^ n) ||| 2 ^ m } : St).acc.testBit i = true → i < s.next → D i := fun i hi hlt => hA r0 hr0 i (hacc i hi) hlt
        obtain ⟨hD, l, hl, hb⟩ := c.at_ (s' := { s with acc := (s.acc ||| 2 ^ n) ||| 2 ^ m }) hg (testBit_lor_pow.2 (.inl (acc_bit s n))) hA1
        obtain ⟨_, lm, hlm, hbm⟩ := c.at_ (s' := { s with acc := (s.acc ||| 2 ^ n) ||| 2 ^ m }) hg2' (testBit_lor_pow.2 (.inr rfl)) hA1
        obtain ⟨hoff, lm', hlm', hit⟩ := hb
        rw [hlm] at hlm'; cases hlm'
        obtain ⟨ES, b1, b2⟩ := hbm
        have hX := c.ev hev
        simp only [Rel] at hX
        obtain ⟨l', hl', hX⟩ := hX
        rw [hl] at hl'; cases hl'
        rw [hoff] at hX
        have hgi := getIter_run (P := P) hit
        have hgm := getMap_run (P := P) b1
        have hemp : ES.isEmpty = es.isEmpty := by
          have := b2.length
          cases es with
          | nil => simp only [RelE] at b2; have h0 : ES = #[] := by apply Array.ext'; simpa using b2
                   subst h0; rfl
          | cons y ys =>
            have : 0 < ES.size := by simp at this; omega
            exact empty_false this
        have hall : ES.all (fun e => decide (e.born ≥ last)) = es.all fun y => Nat.ble last y.2.2 := by
          rw [← Array.all_toList]
          exact (b2.all (p := fun y => Nat.ble last y.2.2) fun x y h => by rw [h, Bool.eq_iff_iff, Nat.ble_eq]; simp).symm
        have hseen : seen.toArray.isEmpty = seen.isEmpty := by cases seen <;> rfl
        have hguard : (!seen.toArray.isEmpty && !ES.isEmpty && ES.all (fun e => decide (e.born ≥ last))) = false := by
          rw [hseen, hemp, hall]; exact hgone
        have hleft : RelE μ (leftV seen es) (ES.filter fun e => !seen.toArray.contains e.born).toList := by
          rw [Array.toList_filter]
          exact b2.filter fun x y h => by rw [h, seen_any]
        have holdf : (ES.filter fun e => !seen.toArray.contains e.born).filter (fun e => decide (e.born < since)) = (ES.filter fun e => !seen.toArray.contains e.born) := by
          apply Array.ext'
          rw [Array.toList_filter]
          refine List.filter_eq_self.2 fun y hy => ?_
          have := hleft.all (p := fun y => Nat.blt y.2.2 since) (q := fun e => decide (e.born < since)) fun x y h => by rw [h, Bool.eq_iff_iff, Nat.blt_eq]; simp
          rw [hold] at this
          exact List.all_eq_true.1 this.symm y hy
        have hnewf : (ES.filter fun e => !seen.toArray.contains e.born).filter (fun e => decide (e.born ≥ since)) = #[] := by
          apply Array.ext'
          rw [Array.toList_filter]
          refine List.filter_eq_nil_iff.2 fun y hy => ?_
          have h1 : y ∈ ((ES.filter fun e => !seen.toArray.contains e.born).filter (fun e => decide (e.born < since))).toList := by rw [holdf]; exact hy
          rw [Array.toList_filter] at h1
          have h2 := (List.mem_filter.1 h1).2
          simp at h2 ⊢
          exact h2
        intro a2 K Q hK
        generalize hLdef : (ES.filter fun e => !seen.toArray.contains e.born) = LF at hleft holdf hnewf
        have hdef : execOp a.eval o = (do pure (Next.value (← Instr.next (.pointer (some ⟨l.blk, 0, none⟩)) false o.type))) := by
          simp only [execOp, ho, hX]
        have hnx : (Instr.next (.pointer (some ⟨l.blk, 0, none⟩)) false o.type).run P w = (do
            match ((if LF.isEmpty then #[none] else #[]) ++ (LF ++ #[]).map some : Array (Option MapEntry))[← choose (.mapNext ((if LF.isEmpty then #[none] else #[]) ++ (LF ++ #[]).map some : Array (Option MapEntry)).size)]? with
            | some (some e) =>
              setObj l.blk (.mapIter (some lm.blk) since (seen.toArray.push e.born) clock)
              pure (.tuple #[.bool true, e.key, e.val])
            | some none => pure (.tuple #[.bool false])
            | none => stuck "Next: no such candidate" : Sem Value).run P w := by
          unfold Instr.next
          simp only [Sem.run_bind, hgi, Result.andThen_ok, hgm, hguard, Bool.false_eq_true, if_false, hLdef, holdf, hnewf]
          rfl
        cases hlist : leftV seen es with
        | nil =>
          have hLF : LF = #[] := by
            rw [hlist] at hleft
            simp only [RelE] at hleft
            apply Array.ext'
            simpa using hleft
          subst hLF
          have hrun : (execOp a.eval o).run P w = .ok (.value (.tuple #[.bool false])) w := by
            rw [hdef, Sem.run_bind, hnx]
            simp [Question.forced]
          rw [hrun]
          have hmem : ((V.tup [.bool false], ({ { s with acc := s.acc ||| 2 ^ n } with acc := (s.acc ||| 2 ^ n) ||| 2 ^ m } : St)) : V × St) ∈ nextWays n m since clock seen es { { s with acc := s.acc ||| 2 ^ n } with acc := (s.acc ||| 2 ^ n) ||| 2 ^ m } := by
            unfold nextWays
            rw [hlist]
            exact List.mem_singleton.2 rfl
          refine hK _ hmem μ w _ ?_ (by simp only [Rel]; exact ⟨[.bool false], rfl, RelL.cons (by simp [Rel]) RelL.nil⟩)
          exact Step.same c.ok rfl rfl (fun i hi => testBit_lor_pow.2 (.inl (testBit_lor_pow.2 (.inl hi)))) rfl
        | cons y0 ys =>
          have hLs : 0 < LF.size := by
            rw [hlist] at hleft
            have := hleft.length
            simp at this
            omega
          have hne : LF.isEmpty = false := empty_false hLs
          obtain ⟨k, hk, hch⟩ : ∃ k, k < LF.size ∧ ∃ w1 : World, w1.heap = w.heap ∧ w1.os = w.os ∧ w1.tape = w.tape ∧ w1.output = w.output ∧ (choose (.mapNext LF.size)).run P w = .ok k w1 := by
            by_cases hf : (Question.mapNext LF.size).forced = true
            · refine ⟨0, hLs, w, rfl, rfl, rfl, rfl, ?_⟩
              rw [run_choose_drew, if_pos hf]
            · refine ⟨(Question.mapNext LF.size).cut (w.tape w.drawn (.mapNext LF.size)), ?_, w.drew, rfl, rfl, rfl, rfl, ?_⟩
              · simp only [Question.cut]
                exact Nat.mod_lt _ hLs
              · rw [run_choose_drew, if_neg hf]
          obtain ⟨w1, g1, g2, g3, g4, hch⟩ := hch
          have hYk : LF.toList[k]? = some LF[k] := by simp [hk]
          obtain ⟨y, hy, hyk, hyv, hyb⟩ := hleft.mem hYk
          have hsi := setIter_run (P := P) (w := w1) (.mapIter (some lm.blk) since (seen.toArray.push LF[k].born) clock) (by rw [g1]; exact hit)
          have hrun : (execOp a.eval o).run P w = .ok (.value (.tuple #[.bool true, LF[k].key, LF[k].val])) { w1 with heap := w1.heap.setIfInBounds l.blk (.mapIter (some lm.blk) since (seen.toArray.push LF[k].born) clock) } := by
            rw [hdef, Sem.run_bind, hnx]
            simp only [hne, Bool.false_eq_true, if_false, Array.append_empty, Array.empty_append, Array.size_map, Sem.run_bind, hch, Result.andThen_ok]
            simp only [List.push_toArray] at hsi
            simp [hk, hsi]
          rw [hrun]
          have hmem : ((V.tup [.bool true, y.1, y.2.1], ({ { s with acc := s.acc ||| 2 ^ n } with acc := (s.acc ||| 2 ^ n) ||| 2 ^ m } : St).write n (.iter m since (seen ++ [y.2.2]) clock)) : V × St) ∈ nextWays n m since clock seen es { { s with acc := s.acc ||| 2 ^ n } with acc := (s.acc ||| 2 ^ n) ||| 2 ^ m } := by
            unfold nextWays
            rw [hlist]
            rw [hlist] at hy
            exact List.mem_map.2 ⟨y, hy, rfl⟩
          refine hK _ hmem μ _ _ ?_ (by simp only [Rel]; exact ⟨[.bool true, LF[k].key, LF[k].val], rfl, RelL.cons (by simp [Rel]) (RelL.cons hyk (RelL.cons hyv RelL.nil))⟩)
          have hrd : Step low0 D s { s with acc := (s.acc ||| 2 ^ n) ||| 2 ^ m } μ μ w w := Step.same c.ok rfl rfl (fun i hi => testBit_lor_pow.2 (.inl (testBit_lor_pow.2 (.inl hi)))) rfl
          refine hrd.trans ?_
          rw [same_dom rfl]
          have hb' : BRel μ l { w1 with heap := w1.heap.setIfInBounds l.blk (.mapIter (some lm.blk) since (seen.toArray.push LF[k].born) clock) } (.iter m since (seen ++ [y.2.2]) clock) := by
            rw [hyb]
            exact iter_set (n := n) hlm hoff (by rw [g1]; exact hit)
          refine Step.write (s := { s with acc := (s.acc ||| 2 ^ n) ||| 2 ^ m }) (b0 := .iter m since seen last) c.ok hD hlow hg c.bnd hl (fun r hr => ?_) ?_ g2 g3 g4 hb'
          · show (w1.heap.setIfInBounds l.blk _)[r]? = w.heap[r]?
            rw [Array.getElem?_setIfInBounds_ne (Ne.symm hr), g1]
          · show (w1.heap.setIfInBounds l.blk _).size = w.heap.size
            rw [Array.size_setIfInBounds, g1]
      · cases h
    · cases h
  · cases h

end
end Go.Rv

/-
  Functions that range over a map.
-/
namespace Go.Rv
open Go Go.RowKit
section
variable {P : Program} {tab : Tab} {g0 : T B} {D : Nat → Prop} {s0 s s' s1 : St} {μ0 μ : Mu} {e e' : Env} {nt : Nat} {a : Act} {w0 w : World} {v : V} {o : Oper} {call : Call} {fi : FI} {ops : Array Oper}

theorem oEntry_ok (c : Cx P tab D s μ e nt a w) {x : Operand} {rs : List (V × St)} (ho : o.op = .entry x) (h : oEntry e x s = some rs)
    (hA : ∀ r ∈ rs, ∀ n, r.2.acc.testBit n = true → n < s.next → D n) : OpWays P D s μ w a o rs := by
  unfold oEntry at h
  split at h
  · rename_i n hev
    split at h
    · rename_i m since seen last s2 hr
      obtain ⟨hg, rfl⟩ := read_eq hr
      split at h
      · rename_i es clock s3 hr2
        obtain ⟨hg2, rfl⟩ := read_eq hr2
        obtain ⟨hc, h⟩ := sel_some h
        obtain ⟨stamp, hst, h⟩ := ob_eq h
        obtain ⟨y, hy, h⟩ := om_eq h
        subst h
        simp only [Nat.beq_eq] at hc
        subst hc
        have hg2' : s.heap.get m = some (.map es clock) := hg2
        have hA1 : ∀ i, ({ s with acc := (s.acc ||| 2 ^ n) ||| 2 ^ m } : St).acc.testBit i = true → i < s.next → D i := fun i hi hlt => hA _ (List.mem_singleton.2 rfl) i hi hlt
        obtain ⟨hD, l, hl, hb⟩ := c.at_ (s' := { s with acc := (s.acc ||| 2 ^ n) ||| 2 ^ m }) hg (testBit_lor_pow.2 (.inl (acc_bit s n))) hA1
        obtain ⟨_, lm, hlm, hbm⟩ := c.at_ (s' := { s with acc := (s.acc ||| 2 ^ n) ||| 2 ^ m }) hg2' (testBit_lor_pow.2 (.inr rfl)) hA1
        obtain ⟨hoff, lm', hlm', hit⟩ := hb
        rw [hlm] at hlm'; cases hlm'
        obtain ⟨ES, b1, b2⟩ := hbm
        have hX := c.ev hev
        simp only [Rel] at hX
        obtain ⟨l', hl', hX⟩ := hX
        rw [hl] at hl'; cases hl'
        rw [hoff] at hX
        have hgi := getIter_run (P := P) hit
        have hgm := getMap_run (P := P) b1
        have hback : seen.toArray.back? = some stamp := by simpa using hst
        obtain ⟨Y, hY, hyk, hyv⟩ := b2.find (q := fun e => e.born == stamp) (fun x y h => by rw [h]) hy
        have hfind : ES.find? (fun e => e.born == stamp) = some Y := by simpa using hY
        intro a2 K Q hK
        have hrun : (execOp a.eval o).run P w = .ok (.value (.tuple #[Y.key, Y.val])) w := by
          simp [execOp, ho, hX, Instr.entry, hgi, hgm, hst, hfind]
        rw [hrun]
        refine hK _ (List.mem_singleton.2 rfl) μ w _ ?_ (by simp only [Rel]; exact ⟨[Y.key, Y.val], rfl, RelL.cons hyk (RelL.cons hyv RelL.nil)⟩)
        exact Step.same c.ok rfl rfl (fun i hi => testBit_lor_pow.2 (.inl (testBit_lor_pow.2 (.inl hi)))) rfl
      · cases h
    · cases h
  · cases h

theorem evOpM_good (T : TOk P tab g0) (hc : CallOk P g0 call) (c : Cx P tab D s μ e nt a w) (G : Gd g0 D s) {rs : List (V × St)}
    (h : evOpM tab call e o.op s = some rs) (hA : ∀ r ∈ rs, ∀ n, r.2.acc.testBit n = true → n < s.next → D n) (hF : ∀ r ∈ rs, ∀ n, s.next ≤ n → n < r.2.next → μ n = none) :
    OpWays P D s μ w a o rs := by
  unfold evOpM at h
  split at h
  · rename_i ho; rw [ho] at h; exact oRange_ok c ho h hA hF
  · rename_i x b ho
    rw [ho] at h
    cases b with
    | false => exact oNext_ok c ho h hA
    | true => cases h
  · rename_i ho; rw [ho] at h; exact oEntry_ok c ho h hA
  · obtain ⟨r, h1, rfl⟩ := om_eq h
    have := evOp_good (o := o) T hc c G (v := r.1) h1 (hA r (List.mem_singleton.2 rfl)) (hF r (List.mem_singleton.2 rfl))
    intro a2 K Q hK
    exact this a2 K Q fun μ' w' X hs hv => hK r (List.mem_singleton.2 rfl) μ' w' X hs hv

/-! ### Regions, code -/
theorem evOpsM_keep (hc : CallKeep call) (hx : ExtKeep tab) {all : List Oper} : ∀ {l : List Oper} {e : Env} {s : St} {outs : List (Env × St)}, evOpsM tab call nt all l (e, s) = some outs → outs ≠ [] ∧ ∀ r ∈ outs, Keep low0 s r.2
  | [], e, s, outs, h => by
    unfold evOpsM at h; cases h
    exact ⟨by simp, fun r hr => by simp at hr; subst hr; exact Keep.refl _ _⟩
  | o :: l, e, s, outs, h => by
    unfold evOpsM at h
    rw [sel_eq] at h
    split at h
    · split at h
      · rename_i rs h1
        obtain ⟨hne, hk⟩ := evOpM_keep hc hx h1
        refine ⟨?_, fun x hx' => ?_⟩
        · obtain ⟨r, hr⟩ := List.exists_mem_of_ne_nil _ hne
          obtain ⟨q, hq, hqm⟩ := allWays_mem h r hr
          split at hq
          · obtain ⟨hqne, _⟩ := evOpsM_keep hc hx hq
            obtain ⟨y, hy⟩ := List.exists_mem_of_ne_nil _ hqne
            exact List.ne_nil_of_mem (hqm y hy)
          · cases hq
        · obtain ⟨r, hr, q, hq, hxq⟩ := allWays_of h x hx'
          split at hq
          · exact (hk r hr).trans ((evOpsM_keep hc hx hq).2 x hxq)
          · cases hq
      · cases h
    · split at h
      · exact evOpsM_keep hc hx h
      · cases h

theorem seqWays {s : St} {f : Ex × Env × St → Option (List (Ex × Env × St))} {rs outs : List (Ex × Env × St)} (h : allWays f rs = some outs) (hne : rs ≠ []) (hk : ∀ r ∈ rs, Keep low0 s r.2.2)
    (hf : ∀ e1 s1 q, f (.normal, e1, s1) = some q → q ≠ [] ∧ ∀ x ∈ q, Keep low0 s1 x.2.2) (hr : ∀ e1 s1, f (.ret, e1, s1) = some [(.ret, e1, s1)])
    (hx : ∀ id e1 s1, f (.exit id, e1, s1) = some [(.exit id, e1, s1)]) : outs ≠ [] ∧ ∀ r ∈ outs, Keep low0 s r.2.2 := by
  have nxt : ∀ r ∈ rs, ∀ q, f r = some q → q ≠ [] ∧ ∀ x ∈ q, Keep low0 s x.2.2 := fun r hr' q hq => by
    obtain ⟨x, e1, s1⟩ := r
    have k := hk _ hr'
    cases x with
    | normal =>
      obtain ⟨h2, h3⟩ := hf e1 s1 q hq
      exact ⟨h2, fun x hx' => k.trans (h3 x hx')⟩
    | ret =>
      rw [hr] at hq; cases hq
      exact ⟨by simp, fun x hx' => by simp at hx'; subst hx'; exact k⟩
    | exit id =>
      rw [hx] at hq; cases hq
      exact ⟨by simp, fun x hx' => by simp at hx'; subst hx'; exact k⟩
  refine ⟨?_, fun x hx' => ?_⟩
  · obtain ⟨r, hr'⟩ := List.exists_mem_of_ne_nil _ hne
    obtain ⟨q, hq, hqm⟩ := allWays_mem h r hr'
    obtain ⟨y, hy⟩ := List.exists_mem_of_ne_nil _ (nxt r hr' q hq).1
    exact List.ne_nil_of_mem (hqm y hy)
  · obtain ⟨r, hr', q, hq, hxq⟩ := allWays_of h x hx'
    exact (nxt r hr' q hq).2 x hxq

theorem evCodeM_keep (hc : CallKeep call) (hx : ExtKeep tab) : ∀ (n : Nat) {c : Code} {e : Env} {s : St} {outs : List (Ex × Env × St)}, evCodeM tab call nt n c (e, s) = some outs → outs ≠ [] ∧ ∀ r ∈ outs, Keep low0 s r.2.2 := by
  intro n
  induction n with
  | zero => intro c e s outs h; unfold evCodeM at h; cases h
  | succ n ih =>
    intro c e s outs h
    unfold evCodeM at h
    have one : ∀ {x : Ex} {e' : Env}, [(x, e', s)] ≠ [] ∧ ∀ r ∈ [(x, e', s)], Keep low0 s r.2.2 := fun {x e'} => ⟨by simp, fun r hr => by simp at hr; subst hr; exact Keep.refl _ _⟩
    split at h
    · cases h; exact one
    · split at h
      · rename_i rs h1
        cases h
        obtain ⟨hne, hk⟩ := evOpsM_keep hc hx h1
        refine ⟨by simpa using hne, fun r hr => ?_⟩
        obtain ⟨q, hq, rfl⟩ := List.mem_map.1 hr
        exact hk q hq
      · cases h
    · split at h
      · rename_i h1
        cases h
        exact ⟨by simp, fun r hr => by simp at hr; subst hr; exact evDraw_keep hc hx h1⟩
      · cases h
    · split at h
      · rename_i rs h1
        obtain ⟨hne, hk⟩ := ih h1
        exact seqWays h hne hk (fun e1 s1 q hq => ih hq) (fun _ _ => rfl) (fun _ _ _ => rfl)
      · cases h
    · split at h
      · exact ih h
      · exact ih h
      · cases h
    · split at h
      · rename_i rs h1
        cases h
        obtain ⟨hne, hk⟩ := ih h1
        refine ⟨by simpa using hne, fun r hr => ?_⟩
        obtain ⟨q, hq, rfl⟩ := List.mem_map.1 hr
        obtain ⟨x, e1, s1⟩ := q
        have := hk _ hq
        cases x with
        | normal => exact this
        | ret => exact this
        | exit k =>
          simp only
          split <;> exact this
      · cases h
    · split at h
      · rename_i rs h1
        obtain ⟨hne, hk⟩ := ih h1
        exact seqWays h hne hk (fun e1 s1 q hq => ih hq) (fun _ _ => rfl) (fun _ _ _ => rfl)
      · cases h
    · cases h; exact one
    · exact ih h
    · cases h; exact one
    · cases h; exact one
    · cases h

/-- What every way must satisfy at its end. -/
def Fine (P : Program) (D : Nat → Prop) (s0 : St) (μ0 : Mu) (w0 : World) (nt : Nat) (Q : Act → World → Prop) (e : Env) (s : St) : Prop :=
  (∀ n, s.acc.testBit n = true → n < s0.next → D n) ∧ (∀ n, s0.next ≤ n → n < s.next → μ0 n = none) ∧ ∀ μ' a' w', At P D s0 μ0 w0 nt e s μ' a' w' → Q a' w'

theorem evOpsM_wp (b : Base P tab g0 D s0 μ0) (hc : CallOk P g0 call) (hk : CallKeep call) {Q : Exit → Act → World → Prop} :
    ∀ {l : List Oper} {i : Nat} {e : Env} {s : St} {μ : Mu} {a : Act} {w : World} {outs : List (Env × St)}, evOpsM tab call nt ops.toList l (e, s) = some outs → ops.toList.drop i = l → At P D s0 μ0 w0 nt e s μ a w →
      (∀ r ∈ outs, Fine P D s0 μ0 w0 nt (Q .normal) r.1 r.2) → wpOps P ops Q ((List.range ops.size).drop i) a w
  | [], i, e, s, μ, a, w, outs, h, hl, hat, hQ => by
    unfold evOpsM at h
    cases h
    have : ops.size ≤ i := by
      have := List.drop_eq_nil_iff.1 hl
      simpa using this
    rw [List.drop_eq_nil_iff.2 (by simpa using this)]
    exact (hQ _ (List.mem_singleton.2 rfl)).2.2 _ _ _ hat
  | o :: l, i, e, s, μ, a, w, outs, h, hl, hat, hQ => by
    have hlt : i < ops.size := by
      rcases Nat.lt_or_ge i ops.size with h | h
      · exact h
      · rw [List.drop_eq_nil_iff.2 (by simpa using h)] at hl; cases hl
    have hoi : ops[i]? = some o := by
      have h1 : ops.toList[i]? = some o := by
        rw [← List.head?_drop, hl]; rfl
      simpa using h1
    have hl' : ops.toList.drop (i + 1) = l := by
      rw [← List.tail_drop, hl]; rfl
    have hr : (List.range ops.size).drop i = i :: (List.range ops.size).drop (i + 1) := by
      rw [List.drop_eq_getElem_cons (by simpa using hlt)]
      simp
    rw [hr]
    simp only [wpOps, hoi]
    unfold evOpsM at h
    rw [sel_eq, wanted_eq hat.env] at h
    split at h
    · rename_i hw
      rw [if_pos hw]
      split at h
      · rename_i rs h1
        left
        have cx := hat.cx b
        have hkp := evOpM_keep hk b.T.extKeep h1
        have hnx := hat.step.keep.next
        have hn0 : s.nd.next = s.next := rfl
        rw [hn0] at hnx
        have fut : ∀ r ∈ rs, (∀ n, r.2.acc.testBit n = true → n < s0.next → D n) ∧ (∀ n, s0.next ≤ n → n < r.2.next → μ0 n = none) := fun r hr => by
          obtain ⟨q, hq, hqm⟩ := allWays_mem h r hr
          split at hq
          · obtain ⟨hne, hkk⟩ := evOpsM_keep hk b.T.extKeep hq
            obtain ⟨y, hy⟩ := List.exists_mem_of_ne_nil _ hne
            obtain ⟨f1, f2, _⟩ := hQ y (hqm y hy)
            have k := hkk y hy
            exact ⟨fun n hn hlt => f1 n (k.acc n hn) hlt, fun n h1 h2 => f2 n h1 (Nat.lt_of_lt_of_le h2 k.next)⟩
          · cases hq
        refine evOpM_good b.T hc cx (hat.gd b) h1 (fun r hr n hn hlt => ?_) (fun r hr n h1 h2 => ?_) a _ _ fun r hr μ' w' X hs hv => ?_
        · by_cases hn0 : n < s0.next
          · exact .inl ((fut r hr).1 n hn hn0)
          · exact .inr ⟨by omega, hlt⟩
        · exact hat.step.ext.free (m := r.2.next) (fut r hr).2 hnx n h1 h2
        · obtain ⟨q, hq, hqm⟩ := allWays_mem h r hr
          split at hq
          · rename_i e1 hp
            exact evOpsM_wp b hc hk hq hl' (hat.after (hkp.2 r hr) hs hv hp) fun y hy => hQ y (hqm y hy)
          · cases hq
      · cases h
    · rename_i hw
      rw [if_neg hw]
      split at h
      · rename_i e1 hp
        exact evOpsM_wp b hc hk h hl' (μ := μ) ⟨hat.step, hat.env.put (rel_undef μ) hp, by rw [put_defers]; exact hat.dfr⟩ hQ
      · cases h

theorem evCodeM_wp (b : Base P tab g0 D s0 μ0) (hc : CallOk P g0 call) (hk : CallKeep call) (hmix : P.follows .mixedOrders = true) :
    ∀ (n : Nat) {c : Code} {e : Env} {s : St} {μ : Mu} {a : Act} {w : World} {Q : Exit → Act → World → Prop} {outs : List (Ex × Env × St)}, evCodeM tab call nt n c (e, s) = some outs →
      At P D s0 μ0 w0 nt e s μ a w → (∀ r ∈ outs, Fine P D s0 μ0 w0 nt (Q r.1.out) r.2.1 r.2.2) → c.wp P Q a w ∧ ∀ d, c = .loop d → Code.rounds P d Q n a w := by
  intro n
  induction n with
  | zero => intro c e s μ a w Q outs h; unfold evCodeM at h; cases h
  | succ n ih =>
    intro c e s μ a w Q outs h hat hQ
    -- what is true of an end is true of what stands before it
    have back : ∀ {s1 : St} {q : List (Ex × Env × St)}, q ≠ [] → (∀ x ∈ q, Keep low0 s1 x.2.2) → (∀ x ∈ q, x ∈ outs) →
        (∀ n, s1.acc.testBit n = true → n < s0.next → D n) ∧ (∀ n, s0.next ≤ n → n < s1.next → μ0 n = none) := fun {s1 q} hne hkk hm => by
      obtain ⟨y, hy⟩ := List.exists_mem_of_ne_nil _ hne
      obtain ⟨f1, f2, _⟩ := hQ y (hm y hy)
      have k := hkk y hy
      exact ⟨fun n hn hlt => f1 n (k.acc n hn) hlt, fun n h1 h2 => f2 n h1 (Nat.lt_of_lt_of_le h2 k.next)⟩
    unfold evCodeM at h
    split at h
    · cases h
      exact ⟨wp_skip ((hQ _ (List.mem_singleton.2 rfl)).2.2 _ _ _ hat), fun d hd => by cases hd⟩
    · rename_i id ops
      split at h
      · rename_i rs h1
        cases h
        refine ⟨wp_region ?_, fun d hd => by cases hd⟩
        have := evOpsM_wp b hc hk (Q := Q) h1 (i := 0) rfl hat fun r hr => hQ (.normal, r) (List.mem_map.2 ⟨r, hr, rfl⟩)
        simpa using this
      · cases h
    · rename_i id ops
      split at h
      · rename_i e1 s1 h1
        cases h
        refine ⟨?_, fun d hd => by cases hd⟩
        obtain ⟨hA, hF, hq⟩ := hQ _ (List.mem_singleton.2 rfl)
        have hkd := evDraw_keep hk b.T.extKeep h1
        have hnx := hat.step.keep.next
        have hn0 : s.nd.next = s.next := rfl
        rw [hn0] at hnx
        refine evDraw_wp b.T hc hk hmix (hat.cx b) (hat.gd b) h1 (fun n hn hlt => ?_) (fun n h1 h2 => ?_) fun μ' a' w' hs he hd => hq μ' a' w' ⟨hat.step.trans hs.nd, he, ?_⟩
        · by_cases hn0 : n < s0.next
          · exact .inl (hA n hn hn0)
          · exact .inr ⟨by omega, hlt⟩
        · exact hat.step.ext.free (m := s1.next) hF hnx n h1 h2
        · rw [hd]
          show RelDf μ' s1.dfr a.defers
          rw [hkd.dfr]; exact hat.dfr.mono hs.ext.le
      · cases h
    · rename_i c1 c2
      refine ⟨wp_seq ?_, fun d hd => by cases hd⟩
      split at h
      · rename_i rs h1
        refine (ih h1 hat fun r hr => ?_).1
        obtain ⟨q, hq, hqm⟩ := allWays_mem h r hr
        obtain ⟨x, e1, s1⟩ := r
        cases x with
        | normal =>
          obtain ⟨hne, hkk⟩ := evCodeM_keep hk b.T.extKeep n hq
          obtain ⟨f1, f2⟩ := back hne hkk hqm
          exact ⟨f1, f2, fun μ' a' w' hat' => (ih hq hat' fun y hy => hQ y (hqm y hy)).1⟩
        | ret =>
          cases hq
          exact hQ _ (hqm _ (List.mem_singleton.2 rfl))
        | exit id =>
          cases hq
          exact hQ _ (hqm _ (List.mem_singleton.2 rfl))
      · cases h
    · rename_i xo c1 c2
      refine ⟨?_, fun d hd => by cases hd⟩
      split at h
      · rename_i hev
        have := (hat.cx b).ev hev
        simp only [Rel] at this
        exact wp_cond_true this (ih h hat hQ).1
      · rename_i hev
        have := (hat.cx b).ev hev
        simp only [Rel] at this
        exact wp_cond_false this (ih h hat hQ).1
      · cases h
    · rename_i id c1
      refine ⟨wp_block ?_, fun d hd => by cases hd⟩
      split at h
      · rename_i rs h1
        cases h
        refine (ih h1 hat fun r hr => ?_).1
        obtain ⟨x, e1, s1⟩ := r
        have hm := hQ _ (List.mem_map.2 ⟨_, hr, rfl⟩)
        cases x with
        | normal => exact hm
        | ret => exact hm
        | exit k =>
          simp only at hm
          by_cases hid : k = id
          · rw [if_pos hid] at hm
            refine ⟨hm.1, hm.2.1, fun μ' a' w' hat' => ?_⟩
            simp only [Ex.out, Exit.inBlock, hid, if_true]
            exact hm.2.2 μ' a' w' hat'
          · rw [if_neg hid] at hm
            refine ⟨hm.1, hm.2.1, fun μ' a' w' hat' => ?_⟩
            simp only [Ex.out, Exit.inBlock, hid, if_false]
            exact hm.2.2 μ' a' w' hat'
      · cases h
    · rename_i c1
      have key : Code.rounds P c1 Q (n + 1) a w := by
        rw [rounds_succ]
        split at h
        · rename_i rs h1
          refine (ih h1 hat fun r hr => ?_).1
          obtain ⟨q, hq, hqm⟩ := allWays_mem h r hr
          obtain ⟨x, e1, s1⟩ := r
          cases x with
          | normal =>
            obtain ⟨hne, hkk⟩ := evCodeM_keep hk b.T.extKeep n hq
            obtain ⟨f1, f2⟩ := back hne hkk hqm
            exact ⟨f1, f2, fun μ' a' w' hat' => (ih hq hat' fun y hy => hQ y (hqm y hy)).2 c1 rfl⟩
          | ret =>
            cases hq
            exact hQ _ (hqm _ (List.mem_singleton.2 rfl))
          | exit id =>
            cases hq
            exact hQ _ (hqm _ (List.mem_singleton.2 rfl))
        · cases h
      exact ⟨wp_loop_rounds _ key, fun d hd => by cases hd; exact key⟩
    · cases h
      exact ⟨wp_exit ((hQ _ (List.mem_singleton.2 rfl)).2.2 _ _ _ hat), fun d hd => by cases hd⟩
    · rename_i c1
      refine ⟨wp_scope_straight (ih h hat fun r hr => ?_).1, fun d hd => by cases hd⟩
      have hm := hQ r hr
      refine ⟨hm.1, hm.2.1, fun μ' a' w' hat' => ?_⟩
      have := hm.2.2 μ' a' w' hat'
      obtain ⟨x, r2⟩ := r
      cases x <;> exact this
    · cases h
      exact ⟨wp_label ((hQ _ (List.mem_singleton.2 rfl)).2.2 _ _ _ hat), fun d hd => by cases hd⟩
    · cases h
      exact ⟨wp_ret ((hQ _ (List.mem_singleton.2 rfl)).2.2 _ _ _ hat), fun d hd => by cases hd⟩
    · cases h

end
end Go.Rv

/-
  Functions that range over a map: their ways, made one. All functions.
-/
namespace Go.Rv
open Go Go.RowKit

theorem sameV_eq {a b : V} (h : sameV a b = true) : a = b := by
  unfold sameV at h
  split at h
  · rw [beq_iff_eq] at h; rw [h]
  · rw [Bool.and_eq_true, beq_iff_eq, beq_iff_eq] at h; rw [h.1, h.2]
  · cases h
theorem sameL_eq : ∀ {l m : List V}, sameL l m = true → l = m
  | [], [], _ => rfl
  | [], b :: m, h => by simp [sameL] at h
  | a :: l, [], h => by simp [sameL] at h
  | a :: l, b :: m, h => by
    simp only [sameL, Bool.and_eq_true] at h
    rw [sameV_eq h.1, sameL_eq h.2]

theorem mod_bits {x j i : Nat} (h : x % 2 ^ j = 0) (hi : i < j) : x.testBit i = false := by
  have h1 := Nat.testBit_mod_two_pow x j i
  rw [h] at h1
  simp [hi] at h1
  exact h1

/-- One way of many. -/
structure Way (s : St) (n o len esz elem : Nat) (cs : List V) (r : V × St) (s' : St) : Prop where
  val : r.1 = .sl n o len esz none
  row : r.2.heap.get n = some (.cells elem cs true false)
  lo : s.next ≤ n
  hi : n < r.2.next
  old : ∀ i, i < s.next → r.2.wr.testBit i = false
  next : r.2.next ≤ s'.next
  acc : ∀ i, r.2.acc.testBit i = true → s'.acc.testBit i = true
  wr : ∀ i, r.2.wr.testBit i = true → s'.wr.testBit i = true

theorem mergeV_eq {s s' : St} {n o len esz elem : Nat} {cs : List V} : ∀ {rs : List (V × St)} {ac : St}, mergeV s n o len esz elem cs rs ac = some s' →
    (∀ r ∈ rs, Way s n o len esz elem cs r s') ∧ s'.heap = ac.heap ∧ s'.dfr = ac.dfr ∧ ac.next ≤ s'.next ∧ (∀ i, ac.acc.testBit i = true → s'.acc.testBit i = true) ∧ (∀ i, ac.wr.testBit i = true → s'.wr.testBit i = true) ∧
      (∀ i, s'.wr.testBit i = true → ac.wr.testBit i = true ∨ ∃ r ∈ rs, r.2.wr.testBit i = true)
  | [], ac, h => by
    unfold mergeV at h
    cases h
    exact ⟨fun r hr => (by cases hr), rfl, rfl, Nat.le_refl _, fun _ h => h, fun _ h => h, fun _ h => .inl h⟩
  | (v, s1) :: rs, ac, h => by
    unfold mergeV at h
    split at h
    · rename_i n' o' len' esz'
      split at h
      · rename_i elem' cs' hg
        split at h
        · rename_i hc
          obtain ⟨rfl, rfl, rfl, rfl, rfl, hlo, hhi, hold⟩ := hc
          obtain ⟨hsame, h⟩ := sel_some h
          have := sameL_eq hsame
          subst this
          obtain ⟨q1, q2, q3, q4, q5, q6, q7⟩ := mergeV_eq h
          have hn1 : ac.next ≤ s'.next := Nat.le_trans (Nat.le_max_left _ _) q4
          have hn2 : s1.next ≤ s'.next := Nat.le_trans (Nat.le_max_right _ _) q4
          refine ⟨fun r hr => ?_, q2, q3, hn1, fun i hi => q5 i (testBit_lor_iff.2 (.inl hi)), fun i hi => q6 i (testBit_lor_iff.2 (.inl hi)), fun i hi => ?_⟩
          · cases hr with
            | head => exact ⟨rfl, hg, hlo, hhi, fun i hi => mod_bits hold hi, hn2, fun i hi => q5 i (testBit_lor_iff.2 (.inr hi)), fun i hi => q6 i (testBit_lor_iff.2 (.inr hi))⟩
            | tail _ hr => exact q1 r hr
          · rcases q7 i hi with h1 | ⟨r, hr, h1⟩
            · rcases testBit_lor_iff.1 h1 with h1 | h1
              · exact .inl h1
              · exact .inr ⟨_, List.mem_cons_self .., h1⟩
            · exact .inr ⟨r, List.mem_cons_of_mem _ hr, h1⟩
        · cases h
      · cases h
    · cases h

def resM (tab : Tab) (fi : FI) (x : Ex × Env × St) (r : V × St) : Prop :=
  (x.1.out = .normal ∨ x.1.out = .ret) ∧ x.2.2.dfr = [] ∧ ∃ vs, resultV tab x.2.1 x.2.2 fi.results.toList = some (vs, r.2) ∧ r.1 = oneV vs

theorem resultsM_eq {tab : Tab} {fi : FI} : ∀ {outs : List (Ex × Env × St)} {rs : List (V × St)}, resultsM tab fi outs = some rs → (∀ x ∈ outs, ∃ r ∈ rs, resM tab fi x r) ∧ ∀ r ∈ rs, ∃ x ∈ outs, resM tab fi x r
  | [], rs, h => by
    unfold resultsM at h; cases h
    exact ⟨fun x hx => (by cases hx), fun r hr => (by cases hr)⟩
  | (x, e, s) :: outs, rs, h => by
    have key : ∀ (hx : x.out = .normal ∨ x.out = .ret), (if s.dfr.isEmpty then
        match resultV tab e s fi.results.toList with
        | some (vs, s) => match resultsM tab fi outs with
          | some r => some ((oneV vs, s) :: r)
          | none => none
        | none => none
      else none) = some rs → (∀ y ∈ (x, e, s) :: outs, ∃ r ∈ rs, resM tab fi y r) ∧ ∀ r ∈ rs, ∃ y ∈ (x, e, s) :: outs, resM tab fi y r := by
      intro hx h
      split at h
      · rename_i hemp
        have hd : s.dfr = [] := by cases hh : s.dfr with | nil => rfl | cons a b => rw [hh] at hemp; cases hemp
        split at h
        · rename_i vs s2 hr
          split at h
          · rename_i q hq
            cases h
            obtain ⟨h1, h2⟩ := resultsM_eq hq
            refine ⟨fun y hy => ?_, fun r hr' => ?_⟩
            · cases hy with
              | head => exact ⟨_, List.mem_cons_self .., hx, hd, vs, hr, rfl⟩
              | tail _ hy =>
                obtain ⟨r, h3, h4⟩ := h1 y hy
                exact ⟨r, List.mem_cons_of_mem _ h3, h4⟩
            · cases hr' with
              | head => exact ⟨_, List.mem_cons_self .., hx, hd, vs, hr, rfl⟩
              | tail _ hr' =>
                obtain ⟨y, h3, h4⟩ := h2 r hr'
                exact ⟨y, List.mem_cons_of_mem _ h3, h4⟩
          · cases h
        · cases h
      · cases h
    unfold resultsM at h
    cases x with
    | normal => exact key (.inl rfl) h
    | ret => exact key (.inr rfl) h
    | exit id => cases h

section
variable {P : Program} {tab : Tab} {g0 : T B} {D : Nat → Prop} {s0 s s' s1 : St} {μ0 μ μ' : Mu} {e e' : Env} {nt : Nat} {a : Act} {w0 w w' : World} {v : V} {o : Oper} {call : Call} {fi : FI} {ops : Array Oper}

structure ManyOk (tab : Tab) (call : Call) (loops : Nat) (fi : FI) (args : List V) (s : St) (v : V) (s' : St) (n o len esz elem : Nat) (cs : List V) (outs : List (Ex × Env × St)) (rs : List (V × St)) : Prop where
  run : evCodeM tab call fi.ntmps loops fi.body (bindArgs args 0 .nil, { s with dfr := [], acc := 0, wr := 0 }) = some outs
  res : resultsM tab fi outs = some rs
  val : v = .sl n o len esz none
  merge : mergeV s n o len esz elem cs rs { s with heap := s.heap.put n (some (.cells elem cs true false)) } = some s'

theorem evMany_eq {loops : Nat} {args : List V} (h : evMany tab call loops fi args s = some (v, s')) : ∃ n o len esz elem cs outs rs, ManyOk tab call loops fi args s v s' n o len esz elem cs outs rs := by
  unfold evMany at h
  split at h
  · cases h
  · rename_i outs h1
    split at h
    · cases h
    · rename_i rs h2
      split at h
      · rename_i n o len esz s1 tl
        split at h
        · rename_i elem cs hg
          split at h
          · rename_i s2 hm
            cases h
            exact ⟨_, _, _, _, _, _, _, _, h1, h2, rfl, hm⟩
          · cases h
        · cases h
      · cases h

theorem many_keep (hc : CallKeep call) (hx : ExtKeep tab) {loops : Nat} {args : List V} {n o len esz elem : Nat} {cs : List V} {outs : List (Ex × Env × St)} {rs : List (V × St)} (M : ManyOk tab call loops fi args s v s' n o len esz elem cs outs rs) :
    Keep low0 s s' ∧ ∀ r ∈ rs, Keep low0 ({ s with dfr := [], acc := 0, wr := 0 } : St) r.2 ∧ Way s n o len esz elem cs r s' := by
  obtain ⟨hne, hk⟩ := evCodeM_keep hc hx _ M.run
  obtain ⟨r1, r2⟩ := resultsM_eq M.res
  obtain ⟨q1, q2, q3, q4, q5, q6, q7⟩ := mergeV_eq M.merge
  have kr : ∀ r ∈ rs, Keep low0 ({ s with dfr := [], acc := 0, wr := 0 } : St) r.2 := fun r hr => by
    obtain ⟨x, hx', _, _, vs, h1, _⟩ := r2 r hr
    exact (hk x hx').trans (resultV_keep (vs := vs) (s' := r.2) h1)
  obtain ⟨y, hy⟩ := List.exists_mem_of_ne_nil _ hne
  obtain ⟨r0, hr0, _⟩ := r1 y hy
  have W := q1 r0 hr0
  have hn : n < s'.next := Nat.lt_of_lt_of_le W.hi W.next
  refine ⟨⟨q4, q5, q6, fun i hi => ?_, fun i hi => ?_, fun m b hm hn' g => ?_, fun i hi => ?_, q3, fun m hm hms => ?_, fun hb m b g => ?_⟩, fun r hr => ⟨kr r hr, q1 r hr⟩⟩
  · rcases q7 i hi with h | ⟨r, hr, h⟩
    · exact .inl h
    · rcases (kr r hr).wracc i h with h' | h'
      · simp at h'
      · exact .inr ((q1 r hr).acc i h')
  · rcases q7 i hi with h | ⟨r, hr, h⟩
    · exact .inl h
    · rcases (kr r hr).low i h with h' | h'
      · simp at h'
      · exact .inr h'
  · rw [q2] at g
    have g' : (s.heap.put n (some (.cells elem cs true false))).get m = some b := g
    have hmn : m ≠ n := by
      rintro rfl
      rcases hn' with h | h
      · have := W.lo; omega
      · omega
    rw [T.get_put_ne _ _ hmn] at g'
    exact g'
  · rcases q7 i hi with h | ⟨r, hr, h⟩
    · exact .inl h
    · rcases (kr r hr).had i h with h' | h' | h'
      · simp at h'
      · exact .inr (.inl ⟨h'.1, Nat.lt_of_lt_of_le h'.2 (q1 r hr).next⟩)
      · exact .inr (.inr h')
  · rw [q2]
    exact T.get_put_ne _ _ (by have := W.lo; omega)
  · rw [q2] at g
    by_cases hmn : m = n
    · subst hmn; exact hn
    · have g' : (s.heap.put n (some (.cells elem cs true false))).get m = some b := g
      rw [T.get_put_ne _ _ hmn] at g'
      have h1 : m < s.next := hb m b g'
      exact Nat.lt_of_lt_of_le h1 q4

/-- The step of one way is the step of all. -/
theorem merge_step {n o len esz elem : Nat} {cs : List V} {r : V × St} (hks : Keep low0 s s') (W : Way s n o len esz elem cs r s') (hh : s'.heap = s.heap.put n (some (.cells elem cs true false)))
    (hb : Bnd s) (hok : Ok D μ s.heap w) (hF : ∀ n, s.next ≤ n → n < s'.next → μ n = none) (hs : Step low0 D ({ s with dfr := [], acc := 0, wr := 0 } : St) r.2 μ μ' w w') : Step low0 D s s' μ μ' w w' where
  keep := hks
  ext := ⟨hs.ext.le, fun m l h => (hs.ext.dom m l h).imp id fun h => ⟨h.1, Nat.lt_of_lt_of_le h.2 W.next⟩,
    fun m l h1 h2 => (hs.ext.new m l h1 h2).imp id fun ⟨m', k, h3, h4, h5⟩ => ⟨m', k, h3, W.wr m' h4, h5⟩,
    hs.ext.size, hs.ext.os, hs.ext.tape, hs.ext.output, fun q hq hno => hs.ext.block q hq fun m l h1 h2 => hno m l (W.wr m h1) h2⟩
  ok := by
    have none_wr : ∀ m l, r.2.wr.testBit m = true → μ m = some l → False := fun m l h1 h2 => by
      rcases hs.keep.had m h1 with h | h | ⟨b, h⟩
      · simp at h
      · have h1' : s.next ≤ m := h.1
        rw [hF m h1' (Nat.lt_of_lt_of_le h.2 W.next)] at h2; cases h2
      · have := hb m b h
        rw [W.old m this] at h1; cases h1
    have old : ∀ m b, m ≠ n → s'.heap.get m = some b → s.heap.get m = some b := fun m b hm g => by
      rw [hh] at g
      rwa [T.get_put_ne _ _ hm] at g
    have gn : ∀ b, s'.heap.get n = some b → b = .cells elem cs true false := fun b g => by
      rw [hh, T.get_put_same] at g
      exact (Option.some.inj g).symm
    have dn : D n ∨ (({ s with dfr := [], acc := 0, wr := 0 } : St).next ≤ n ∧ n < r.2.next) := .inr ⟨W.lo, W.hi⟩
    have dm : ∀ m b, s.heap.get m = some b → (D m ∨ (s.next ≤ m ∧ m < s'.next)) → D m := fun m b g h => h.resolve_right fun h => by have := hb m b g; omega
    have hμn : μ n = none := hF n W.lo (Nat.lt_of_lt_of_le W.hi W.next)
    have far : ∀ m b l k, m ≠ n → s.heap.get m = some b → D m → μ' n = some l → μ' m = some k → l.blk ≠ k.blk := fun m b l k hm g d h1 h2 => by
      obtain ⟨k0, hk0, hkb⟩ := hok.rel m b d g
      have : k0 = k := by have := hs.ext.le m k0 hk0; rw [h2] at this; exact (Option.some.inj this).symm
      subst this
      rcases hs.ext.new n l h1 hμn with h3 | ⟨m', q, h3, h4, _⟩
      · have := hkb.lt; omega
      · exact (none_wr m' q h4 h3).elim
    refine ⟨fun m b d g => ?_, fun m1 m2 b1 b2 l1 l2 d1 d2 hne g1 g2 e1 e2 => ?_⟩
    · by_cases hm : m = n
      · subst hm
        rw [gn b g]
        exact hs.ok.rel m _ dn W.row
      · have g' := old m b hm g
        obtain ⟨l, h1, h2⟩ := hok.rel m b (dm m b g' d) g'
        exact ⟨l, hs.ext.le m l h1, h2.congr hs.ext.le (hs.ext.block l.blk h2.lt fun m' l' h3 h4 => (none_wr m' l' h3 h4).elim)⟩
    · by_cases hm1 : m1 = n
      · subst hm1
        have g2' := old m2 b2 (Ne.symm hne) g2
        exact far m2 b2 l1 l2 (Ne.symm hne) g2' (dm m2 b2 g2' d2) e1 e2
      · have g1' := old m1 b1 hm1 g1
        by_cases hm2 : m2 = n
        · subst hm2
          exact (far m1 b1 l2 l1 hm1 g1' (dm m1 b1 g1' d1) e2 e1).symm
        · have g2' := old m2 b2 hm2 g2
          obtain ⟨k1, hk1, _⟩ := hok.rel m1 b1 (dm m1 b1 g1' d1) g1'
          obtain ⟨k2, hk2, _⟩ := hok.rel m2 b2 (dm m2 b2 g2' d2) g2'
          have f1 : k1 = l1 := by have := hs.ext.le m1 k1 hk1; rw [e1] at this; exact (Option.some.inj this).symm
          have f2 : k2 = l2 := by have := hs.ext.le m2 k2 hk2; rw [e2] at this; exact (Option.some.inj this).symm
          subst f1 f2
          exact hok.sep m1 m2 b1 b2 _ _ (dm m1 b1 g1' d1) (dm m2 b2 g2' d2) hne g1' g2' hk1 hk2

theorem evMany_ok (G : Given P tab g0 call) {loops f : Nat} {args : List V} {xs : List Value} (hfi : tab.fn f = some fi) (h : evMany tab call loops fi args s = some (v, s')) (hX : RelL μ args xs) (hg : Glob μ) (hb : Bnd s) (hok : Ok D μ s.heap w) (hd : Gd g0 D s)
    (hA : ∀ n, s'.acc.testBit n = true → n < s.next → D n) (hF : ∀ n, s.next ≤ n → n < s'.next → μ n = none) :
    Calls P f ⟨xs⟩ w fun
      | .returned X, w' => ∃ μ', Step low0 D s s' μ μ' w w' ∧ Rel μ' v X
      | _, _ => False := by
  obtain ⟨fn, hf, _, hbd, hnt, hres⟩ := G.T.fn f fi hfi
  obtain ⟨n, o, len, esz, elem, cs, outs, rs, M⟩ := evMany_eq h
  obtain ⟨hks, hways⟩ := many_keep G.hk G.T.extKeep M
  obtain ⟨r1, r2⟩ := resultsM_eq M.res
  obtain ⟨_, hh, _⟩ := mergeV_eq M.merge
  have b : Base P tab g0 D ({ s with dfr := [], acc := 0, wr := 0 } : St) μ := ⟨G.T, hg, hb, ⟨hd.next, hd.dom, hd.heap⟩⟩
  have hat : At P D ({ s with dfr := [], acc := 0, wr := 0 } : St) μ w fi.ntmps (bindArgs args 0 .nil) { s with dfr := [], acc := 0, wr := 0 } μ { tmps := (⟨xs⟩ : Array Value) ++ Array.replicate (fi.ntmps - (⟨xs⟩ : Array Value).size) undef, defers := [] } w :=
    ⟨Step.same hok rfl rfl (fun _ h => h) rfl, enter_env hX _, rfl⟩
  have hwp := (evCodeM_wp (Q := bodyPost P fn fun en w' => match en with | .returned X => ∃ μ', Step low0 D s s' μ μ' w w' ∧ Rel μ' v X | _ => False) b G.hc G.hk G.mix _ M.run hat fun x hx => ?_).1
  · rw [← hnt] at hwp
    refine (calls_of_wp hf hbd hwp).mono fun en w' hh => ?_
    cases en with
    | returned X => exact hh
    | panicked ch => exact hh.elim
    | outgrown => exact hh.elim
  · obtain ⟨r, hr, hxo, hdf, vs, hrv, hrval⟩ := r1 x hx
    obtain ⟨kr, W⟩ := hways r hr
    have hkv := resultV_keep (vs := vs) (s' := r.2) hrv
    refine ⟨fun i hi hlt => hA i (W.acc i (hkv.acc i hi)) hlt, fun i h1 h2 => hF i h1 (Nat.lt_of_lt_of_le h2 (Nat.le_trans hkv.next W.next)), fun μ' a' w' hat' => ?_⟩
    have cx := hat'.cx b
    obtain ⟨q1, q2, X, q3, q4⟩ := results_ok (fn := fn) (by rw [hres]) hrv cx (fun i hi hlt => by
      by_cases hn0 : i < s.next
      · exact .inl (hA i (W.acc i hi) hn0)
      · exact .inr ⟨Nat.le_of_not_lt hn0, hlt⟩)
    have st : Step low0 D ({ s with dfr := [], acc := 0, wr := 0 } : St) r.2.nd μ μ' w w' := hat'.step.trans q2.nd
    have st' : Step low0 D ({ s with dfr := [], acc := 0, wr := 0 } : St) r.2 μ μ' w w' :=
      ⟨kr, ⟨st.ext.le, st.ext.dom, st.ext.new, st.ext.size, st.ext.os, st.ext.tape, st.ext.output, st.ext.block⟩, st.ok⟩
    have fin : a'.defers = [] ∧ ∃ X, (results fn a'.tmps).run P w' = .ok X w' ∧ ∃ μ', Step low0 D s s' μ μ' w w' ∧ Rel μ' v X := by
      have hdr := hat'.dfr
      rw [hdf] at hdr
      refine ⟨hdr, X, q4, μ', merge_step hks W hh hb hok hF st', ?_⟩
      rw [M.val, ← W.val, hrval]
      exact q3
    rcases hxo with hxo | hxo
    · rw [hxo]; exact fin
    · rw [hxo]; exact fin

/-! ### All functions -/
theorem evFn_keep (hx : ExtKeep tab) {loops : Nat} : ∀ d : Nat, CallKeep (evFn tab loops d)
  | 0 => fun f args s s' v h => by unfold evFn at h; cases h
  | d + 1 => fun f args s s' v h => by
    have ih := evFn_keep hx (loops := loops) d
    unfold evFn at h
    split at h
    · cases h
    · rename_i fi hfi
      split at h
      · rename_i v1 s1 h1
        cases h
        rw [sel_eq] at h1
        split at h1
        · obtain ⟨n, o, len, esz, elem, cs, outs, rs, M⟩ := evMany_eq h1
          exact (many_keep ih hx M).1
        · exact evPlain_keep ih hx h1
      · cases h

theorem evFn_ok (T : TOk P tab g0) (hmix : P.follows .mixedOrders = true) {loops : Nat} : ∀ d : Nat, CallOk P g0 (evFn tab loops d)
  | 0 => fun D s s' μ w f args xs v h => by
    unfold evFn at h; cases h
  | d + 1 => fun D s s' μ w f args xs v h hX hg hb hok hd hA hF => by
    have G : Given P tab g0 (evFn tab loops d) := ⟨T, evFn_ok T hmix d, evFn_keep T.extKeep d, hmix⟩
    unfold evFn at h
    split at h
    · cases h
    · rename_i fi hfi
      split at h
      · rename_i v1 s1 h1
        cases h
        rw [sel_eq] at h1
        split at h1
        · exact evMany_ok G hfi h1 hX hg hb hok hd hA hF
        · exact evPlain_ok G hfi h1 hX hg hb hok hd hA hF
      · cases h

end
end Go.Rv
