/-
  Single operations of the evaluator are those of the model: maps, builtins, functions without a body; all together. Conditions: those that each statement below names, and no other.
-/
import Derived.Test.YtdicpkjblflgbaaGreatDoorRunE
import Derived.Test.YtdicpkjblflgbaaGreatDoorRunA
import Derived.Lib.MakeNoZero
import Derived.Lib.Bytealg
import Derived.Laws.LoneSync
set_option linter.all false

/-
  Builtins together; maps.
-/
namespace Go.Rv
open Go Go.RowKit
section
variable {P : Program} {tab : Tab} {D : Nat → Prop} {s s' : St} {μ : Mu} {e : Env} {nt : Nat} {a : Act} {w : World} {v : V} {o : Oper}

theorem Good.done {x : Sem Value} (h : Good D s s' μ w (x.run P w) v) : Done D s s' μ w ((do pure (Next.value (← x)) : Sem Next).run P w) v := by
  obtain ⟨μ', w', X, hr, hs, hv⟩ := h
  exact ⟨μ', w', .value X, X, by simp [hr], .inl rfl, hs, hv⟩

theorem RelL.one {x : V} {xs : List Value} (h : RelL μ [x] xs) : ∃ X, xs = [X] ∧ Rel μ x X := by
  simp only [RelL] at h
  obtain ⟨X, ys, rfl, h1, rfl⟩ := h
  exact ⟨X, rfl, h1⟩
theorem RelL.two {x y : V} {xs : List Value} (h : RelL μ [x, y] xs) : ∃ X Y, xs = [X, Y] ∧ Rel μ x X ∧ Rel μ y Y := by
  simp only [RelL] at h
  obtain ⟨X, ys, rfl, h1, Y, zs, rfl, h2, rfl⟩ := h
  exact ⟨X, Y, rfl, h1, h2⟩

theorem builtinV_ok (c : Cx P tab D s μ e nt a w) {b : Builtin} {ats : Array Nat} {ty : Nat} {cs : Array Bool} {args : List V} {xs : List Value} (hX : RelL μ args xs)
    (h : builtinV tab b ats args s = some (v, s')) (hA : ∀ n, s'.acc.testBit n = true → n < s.next → D n) (hF : ∀ n, s.next ≤ n → n < s'.next → μ n = none) :
    Done D s s' μ w ((builtin b ats ty cs ⟨xs⟩).run P w) v := by
  unfold builtinV at h
  split at h
  · obtain ⟨X, Y, rfl, h1, h2⟩ := hX.two
    obtain ⟨t, ht, h⟩ := ob_eq h
    obtain ⟨u, hu, h⟩ := ob_eq h
    obtain ⟨hs, h⟩ := sel_some h
    exact (appendV_ok c (ty := ty) ht hu hs h1 h2 h hA hF).done
  · obtain ⟨X, rfl, h1⟩ := hX.one
    obtain ⟨t, ht, h⟩ := ob_eq h
    exact (lenV_ok c (ty := ty) ht h1 h hA).done
  · obtain ⟨X, rfl, h1⟩ := hX.one
    obtain ⟨t, ht, h⟩ := ob_eq h
    exact (capV_ok c (ty := ty) ht h1 h).done
  · obtain ⟨X, Y, rfl, h1, h2⟩ := hX.two
    obtain ⟨t, ht, h⟩ := ob_eq h
    exact (copyV_ok c (ty := ty) ht h1 h2 h hA).done
  · rename_i x l
    simp only [RelL] at hX
    obtain ⟨X, ys, rfl, h1, h2⟩ := hX
    cases hm : maxV x l with
    | none => rw [hm] at h; cases h
    | some r =>
      rw [hm] at h; cases h
      obtain ⟨Y, hy, hr⟩ := maxL_ok (P := P) (w := w) h1 h2 hm
      refine Good.done (x := Builtin.max_ ats ty ⟨X :: ys⟩) (c.good (X := Y) ?_ hr)
      exact hy
  · rename_i x l
    simp only [RelL] at hX
    obtain ⟨X, ys, rfl, h1, h2⟩ := hX
    cases hm : minV x l with
    | none => rw [hm] at h; cases h
    | some r =>
      rw [hm] at h; cases h
      obtain ⟨Y, hy, hr⟩ := minL_ok (P := P) (w := w) h1 h2 hm
      refine Good.done (x := Builtin.min_ ats ty ⟨X :: ys⟩) (c.good (X := Y) ?_ hr)
      exact hy
  · obtain ⟨X, rfl, h1⟩ := hX.one
    exact (dataV_ok c (ty := ty) (ats := ats) h1 h).done
  · obtain ⟨X, Y, rfl, h1, h2⟩ := hX.two
    obtain ⟨t, ht, h⟩ := ob_eq h
    exact (ustrV_ok c (ty := ty) ht h1 h2 h hA).done
  · cases h

/-! ### Maps -/
theorem plainKey_und (hty : ∀ t ti, tab.ty t = some ti → TyOk P t ti) {t : Nat} {d : Rv.D} (h : plainKey tab t = some d) : ∃ dd, P.underlying t = some dd ∧ DRel d dd ∧ d.plainKey = true := by
  unfold plainKey at h
  obtain ⟨ti, ht, h⟩ := ob_eq h
  obtain ⟨hp, h⟩ := sel_some h
  cases h
  obtain ⟨dd, h1, h2⟩ := (hty _ _ ht).und
  exact ⟨dd, h1, h2, hp⟩

theorem checkKey_run {t : Nat} {d : Rv.D} {dd : TypeDesc} (hu : P.underlying t = some dd) (hd : DRel d dd) (hp : d.plainKey = true) (b : Bool) (n : Nat) (K : Value) :
    (Instr.checkKey b (n + 1) t K).run P w = .ok () w := by
  cases d <;> first
    | (cases hp; done)
    | (simp only [DRel] at hd
       subst hd
       simp [Instr.checkKey, run_underlying hu])

theorem keyV_now {d : Rv.D} {dd : TypeDesc} {x y : V} {X Y : Value} {b : Bool} (hd : DRel d dd) (h : keyV d x y = some b) (hx : Rel μ x X) (hy : Rel μ y Y) : Instr.sameNow dd X Y = some b := by
  unfold keyV at h
  split at h
  · simp only [DRel] at hd
    subst hd
    split at h
    · cases h
      simp only [Rel] at hx hy
      subst hx hy
      rfl
    · cases h
  · simp only [DRel] at hd
    subst hd
    split at h
    · obtain ⟨hk, h⟩ := sel_some h
      cases h
      simp only [Rel] at hx hy
      subst hx hy
      simp [Instr.sameNow, kind_eq hk]
    · cases h
  · simp only [DRel] at hd
    subst hd
    split at h
    · rename_i p q
      cases h
      simp only [Rel] at hx hy
      subst hx hy
      simp only [Instr.sameNow]
      congr 1
      show (p.toArray == q.toArray) = (p == q)
      simp
    · cases h
  · cases h

theorem findV_ok {d : Rv.D} {dd : TypeDesc} {k : V} {K : Value} (hd : DRel d dd) (hk : Rel μ k K) :
    ∀ {es : List (V × V × Nat)} {ES : List MapEntry} {i : Nat} {r : Option (Nat × V)}, RelE μ es ES → findV d k es i = some r →
      ∃ R, Instr.findNow dd K ES i = some R ∧ (match r with
        | none => R = none
        | some (j, v) => ∃ X, R = some (j, X) ∧ Rel μ v X ∧ i ≤ j ∧ ∃ y, es[j - i]? = some y ∧ keyV d k y.1 = some true)
  | [], ES, i, r, he, h => by
    simp only [RelE] at he
    subst he
    unfold findV at h
    cases h
    exact ⟨none, rfl, rfl⟩
  | (k', v, b) :: es, ES, i, r, he, h => by
    simp only [RelE] at he
    obtain ⟨x, ys, rfl, h1, h2, h3, h4⟩ := he
    unfold findV at h
    split at h
    · rename_i hkk
      cases h
      have := keyV_now hd hkk hk h1
      exact ⟨some (i, x.val), by simp [Instr.findNow, this], x.val, rfl, h2, Nat.le_refl _, (k', v, b), by simp, hkk⟩
    · rename_i hkk
      have := keyV_now hd hkk hk h1
      obtain ⟨R, hR, hm⟩ := findV_ok hd hk h4 h
      refine ⟨R, by simp [Instr.findNow, this, hR], ?_⟩
      cases r with
      | none => exact hm
      | some p =>
        obtain ⟨j, v'⟩ := p
        obtain ⟨X, hX, hv, hj, y, hy, hyk⟩ := hm
        refine ⟨X, hX, hv, by omega, y, ?_, hyk⟩
        rw [show j - i = (j - (i + 1)) + 1 by omega]
        simpa using hy
    · cases h

theorem map_und {t : Nat} {ti : TI} (h : TyOk P t ti) {k u : Nat} (hd : ti.d = .map k u) : P.underlying t = some (.map k u) := by
  obtain ⟨d, h1, h2⟩ := h.und
  rw [hd] at h2
  simp only [DRel] at h2
  rw [h1, h2]

theorem zero_val {t : Nat} {ti : TI} (h : TyOk P t ti) (μ : Mu) (w : World) : ∃ z, (zeroValue t).run P w = .ok z w ∧ Rel μ (zeroV ti) z := by
  obtain ⟨i, z, hi, _, _, hz, _⟩ := h.info
  exact ⟨z, by simp [zeroValue, typeInfo, hi, hz], (h.zval i z hi hz).mono (Mu.none_le μ)⟩

theorem getMap_run {r ck : Nat} {ES : Array MapEntry} (h : w.heap[r]? = some (.map ES ck)) : (getObj r).run P w = .ok (.map ES ck) w := by
  simp [getObj, Sem.run, h]
theorem setMap_run {r ck : Nat} {ES : Array MapEntry} (o : Obj) (h : w.heap[r]? = some (.map ES ck)) : (setObj r o).run P w = .ok () { w with heap := w.heap.setIfInBounds r o } := by
  simp [setObj, Sem.run, h]

theorem beq_list {α : Type} [BEq α] (p q : List α) : (p.toArray == q.toArray) = (p == q) := by simp

theorem findKey_run {t : Nat} {dd : TypeDesc} {K : Value} {ES : List MapEntry} {R : Option (Nat × Value)} (hu : P.underlying t = some dd) (h : Instr.findNow dd K ES 0 = some R) :
    (Instr.findKey t K ES).run P w = .ok R w := by
  simp [Instr.findKey, run_underlying hu, h]

theorem oLookup_ok (c : Cx P tab D s μ e nt a w) {t : Nat} {x i : Operand} {ok : Bool} (ho : o.op = .lookup t x i ok) (h : oLookup tab e t x i ok s = some (v, s'))
    (hA : ∀ n, s'.acc.testBit n = true → n < s.next → D n) : Done D s s' μ w ((execOp a.eval o).run P w) v := by
  unfold oLookup at h
  split at h
  · rename_i kt u q1 q2 q3 ht
    have hu := map_und (c.ty _ _ ht) rfl
    obtain ⟨tu, htu, h⟩ := ob_eq h
    obtain ⟨k, hk, h⟩ := ob_eq h
    obtain ⟨d, hd, h⟩ := ob_eq h
    obtain ⟨dd, hkt, hdr, hpk⟩ := plainKey_und c.ty hd
    have hK := c.ev hk
    obtain ⟨z, hz, hzr⟩ := zero_val (c.ty _ _ htu) μ w
    obtain ⟨dep, hdep⟩ : ∃ d, 10000 = d + 1 := ⟨9999, rfl⟩
    split at h
    · rename_i hx
      have hX := c.ev hx
      simp only [Rel] at hX
      have hck := checkKey_run (P := P) (w := w) hkt hdr hpk true dep (a.eval i)
      rw [← hdep] at hck
      have hfk := findKey_run (P := P) (w := w) (K := a.eval i) (ES := []) (R := none) hkt rfl
      cases ok
      · simp only [found, sel_false] at h
        cases h
        exact c.val (X := z) (by simp [execOp, ho, hX, Instr.lookup, run_underlying hu, hck, hfk, hz]) hzr
      · simp only [found, sel_true] at h
        cases h
        exact c.val (X := .tuple #[z, .bool false]) (by simp [execOp, ho, hX, Instr.lookup, run_underlying hu, hck, hfk, hz]) (by simp only [Rel]; exact ⟨[z, .bool false], rfl, RelL.cons hzr (RelL.cons (by simp [Rel]) RelL.nil)⟩)
    · rename_i n hx
      have hX := c.ev hx
      simp only [Rel] at hX
      obtain ⟨l, hl, hX⟩ := hX
      split at h
      · rename_i es ck s2 hr
        obtain ⟨r, hfv, h⟩ := om_eq h
        obtain ⟨hg, rfl⟩ := read_eq hr
        have hAn : ({ s with acc := s.acc ||| 2 ^ n } : St) = s' := by
          unfold found at h
          split at h <;> (cases h; rfl)
        subst hAn
        obtain ⟨_, l', hl', hb⟩ := c.at_ hg (acc_bit s n) hA
        rw [hl] at hl'; cases hl'
        obtain ⟨ES, b1, b2⟩ := hb
        obtain ⟨R, hR, hm⟩ := findV_ok hdr hK b2 hfv
        have hck := checkKey_run (P := P) (w := w) hkt hdr hpk (ES.isEmpty) dep (a.eval i)
        rw [← hdep] at hck
        have hfk := findKey_run (P := P) (w := w) hkt hR
        have hgm := getMap_run (P := P) b1
        cases r with
        | none =>
          simp only at hm
          subst hm
          cases ok
          · simp only [found, sel_false] at h
            cases h
            exact ⟨μ, w, .value z, z, by simp [execOp, ho, hX, Instr.lookup, run_underlying hu, hck, hfk, hz, hgm], .inl rfl, c.read n, hzr⟩
          · simp only [found, sel_true] at h
            cases h
            exact ⟨μ, w, .value (.tuple #[z, .bool false]), _, by simp [execOp, ho, hX, Instr.lookup, run_underlying hu, hck, hfk, hz, hgm], .inl rfl, c.read n, (by simp only [Rel]; exact ⟨[z, .bool false], rfl, RelL.cons hzr (RelL.cons (by simp [Rel]) RelL.nil)⟩)⟩
        | some p =>
          obtain ⟨j, v'⟩ := p
          obtain ⟨X, rfl, hvX, _⟩ := hm
          cases ok
          · simp only [found, sel_false] at h
            cases h
            exact ⟨μ, w, .value X, X, by simp [execOp, ho, hX, Instr.lookup, run_underlying hu, hck, hfk, hgm], .inl rfl, c.read n, hvX⟩
          · simp only [found, sel_true] at h
            cases h
            exact ⟨μ, w, .value (.tuple #[X, .bool true]), _, by simp [execOp, ho, hX, Instr.lookup, run_underlying hu, hck, hfk, hgm], .inl rfl, c.read n, (by simp only [Rel]; exact ⟨[X, .bool true], rfl, RelL.cons hvX (RelL.cons (by simp [Rel]) RelL.nil)⟩)⟩
      · cases h
    · cases h
  · cases h

end
end Go.Rv

/-
  A map's entry, set.
-/
namespace Go.Rv
open Go Go.RowKit
section
variable {P : Program} {tab : Tab} {D : Nat → Prop} {s s' : St} {μ : Mu} {e : Env} {nt : Nat} {a : Act} {w : World} {v : V} {o : Oper}

theorem RelE.snoc : ∀ {es : List (V × V × Nat)} {ES : List MapEntry} {k x : V} {K X : Value} {n : Nat}, RelE μ es ES → Rel μ k K → Rel μ x X →
    RelE μ (es ++ [(k, x, n)]) (ES ++ [{ key := K, val := X, born := n }])
  | [], ES, k, x, K, X, n, h, hk, hx => by
    simp only [RelE] at h
    subst h
    simp only [List.nil_append, RelE]
    exact ⟨_, [], rfl, hk, hx, rfl, rfl⟩
  | (a, b, m) :: es, ES, k, x, K, X, n, h, hk, hx => by
    simp only [RelE] at h
    obtain ⟨y, ys, rfl, h1, h2, h3, h4⟩ := h
    simp only [List.cons_append, RelE]
    exact ⟨y, _, rfl, h1, h2, h3, RelE.snoc h4 hk hx⟩

theorem RelE.modify : ∀ {es : List (V × V × Nat)} {ES : List MapEntry} {k x : V} {K X : Value} (i : Nat), RelE μ es ES → Rel μ k K → Rel μ x X →
    RelE μ (es.modify i fun y => (k, x, y.2.2)) (ES.modify i fun y => { y with key := K, val := X })
  | [], ES, k, x, K, X, i, h, hk, hx => by
    simp only [RelE] at h
    subst h
    simp [RelE]
  | (a, b, m) :: es, ES, k, x, K, X, 0, h, hk, hx => by
    simp only [RelE] at h
    obtain ⟨y, ys, rfl, h1, h2, h3, h4⟩ := h
    simp only [List.modify_zero_cons, RelE]
    exact ⟨_, ys, rfl, hk, hx, h3, h4⟩
  | (a, b, m) :: es, ES, k, x, K, X, i + 1, h, hk, hx => by
    simp only [RelE] at h
    obtain ⟨y, ys, rfl, h1, h2, h3, h4⟩ := h
    simp only [List.modify_succ_cons, RelE]
    exact ⟨y, _, rfl, h1, h2, h3, RelE.modify i h4 hk hx⟩

theorem RelE.get : ∀ {es : List (V × V × Nat)} {ES : List MapEntry} {i : Nat} {y : V × V × Nat}, RelE μ es ES → es[i]? = some y → ∃ Y, ES[i]? = some Y ∧ Rel μ y.1 Y.key ∧ Rel μ y.2.1 Y.val ∧ Y.born = y.2.2
  | [], ES, i, y, h, hy => by simp at hy
  | (a, b, m) :: es, ES, 0, y, h, hy => by
    simp only [RelE] at h
    obtain ⟨Y, ys, rfl, h1, h2, h3, h4⟩ := h
    simp at hy
    subst hy
    exact ⟨Y, by simp, h1, h2, h3⟩
  | (a, b, m) :: es, ES, i + 1, y, h, hy => by
    simp only [RelE] at h
    obtain ⟨Y, ys, rfl, h1, h2, h3, h4⟩ := h
    simpa using RelE.get h4 (by simpa using hy)

theorem key_stays {d : Rv.D} {x y : V} {X Y : Value} (h : keyV d x y = some true) (hx : Rel μ x X) (hy : Rel μ y Y) : (Instr.keyThatStays Y X).run P w = .ok X w := by
  have key : ∀ n, Instr.sameBits (n + 1) Y X = true := by
    intro n
    unfold keyV at h
    split at h
    · split at h
      · simp only [Rel] at hx hy
        subst hx hy
        simp only [Option.some.injEq, beq_iff_eq] at h
        simp [Instr.sameBits, h]
      · cases h
    · split at h
      · obtain ⟨hk, h⟩ := sel_some h
        simp only [Rel] at hx hy
        subst hx hy
        simp only [Option.some.injEq, beq_iff_eq] at h
        simp [Instr.sameBits, h, kind_eq hk]
      · cases h
    · split at h
      · simp only [Rel] at hx hy
        subst hx hy
        simp only [Option.some.injEq, beq_iff_eq] at h
        subst h
        simp only [Instr.sameBits]
        rename_i p
        show (p.toArray == p.toArray) = true
        simp
      · cases h
    · cases h
  obtain ⟨dep, hdep⟩ : ∃ d, 10000 = d + 1 := ⟨9999, rfl⟩
  unfold Instr.keyThatStays
  rw [hdep, key dep]
  simp

theorem map_brel {l : Loc} {es : List (V × V × Nat)} {ES : List MapEntry} {ck : Nat} {w' : World} (h : w'.heap[l.blk]? = some (.map ES.toArray ck)) (hr : RelE μ es ES) : BRel μ l w' (.map es ck) :=
  ⟨ES.toArray, h, by simpa using hr⟩

theorem set_same {b : Nat} {ob : Obj} : SameBut b w { w with heap := w.heap.setIfInBounds b ob } :=
  ⟨by simp, rfl, rfl, rfl, fun r hr => by simp [Array.getElem?_setIfInBounds_ne (Ne.symm hr)]⟩

theorem oMapUpdate_ok (c : Cx P tab D s μ e nt a w) {t : Nat} {m k x : Operand} (ho : o.op = .mapUpdate t m k x ∨ o.op = .insert t m k x) (h : oMapUpdate tab e t m k x s = some (v, s'))
    (hA : ∀ n, s'.acc.testBit n = true → n < s.next → D n) : Done D s s' μ w ((execOp a.eval o).run P w) v := by
  have hex : execOp a.eval o = (do Instr.mapUpdate t (a.eval m) (a.eval k) (a.eval x); pure .skip) := by
    rcases ho with ho | ho <;> simp [execOp, ho]
  rw [hex]
  unfold oMapUpdate at h
  split at h
  · rename_i kt u q1 q2 q3 n ht hm
    have hu := map_und (c.ty _ _ ht) rfl
    obtain ⟨k', hk, h⟩ := ob_eq h
    obtain ⟨x', hx, h⟩ := ob_eq h
    obtain ⟨d, hd, h⟩ := ob_eq h
    obtain ⟨hlow, h⟩ := sel_some h
    rw [Nat.ble_eq] at hlow
    obtain ⟨dd, hkt, hdr, hpk⟩ := plainKey_und c.ty hd
    have hK := c.ev hk
    have hX := c.ev hx
    have hM := c.ev hm
    simp only [Rel] at hM
    obtain ⟨l, hl, hM⟩ := hM
    obtain ⟨dep, hdep⟩ : ∃ d, 10000 = d + 1 := ⟨9999, rfl⟩
    split at h
    · rename_i es ck s2 hr
      obtain ⟨hg, rfl⟩ := read_eq hr
      unfold mapPut at h
      have hlt : ∀ b : B, (({ s with acc := s.acc ||| 2 ^ n } : St).write n b).acc.testBit n = true := fun b => testBit_lor_pow.2 (.inr rfl)
      split at h
      · rename_i i v' hfv
        cases h
        obtain ⟨hD, l', hl', hb⟩ := c.at_ hg (hlt _) hA
        rw [hl] at hl'; cases hl'
        obtain ⟨ES, b1, b2⟩ := hb
        obtain ⟨R, hR, X0, rfl, hvX, _, y, hy, hyk⟩ := findV_ok hdr hK b2 hfv
        have hck := checkKey_run (P := P) (w := w) hkt hdr hpk false dep (a.eval k)
        rw [← hdep] at hck
        have hfk := findKey_run (P := P) (w := w) hkt hR
        have hgm := getMap_run (P := P) b1
        obtain ⟨Y, hY, hYk, _⟩ := b2.get (by simpa using hy)
        have hY' : ES[i]? = some Y := by simpa using hY
        have hst := key_stays (P := P) (w := w) hyk hK hYk
        have hsm := setMap_run (P := P) (.map (ES.modify i fun e => { e with key := a.eval k, val := a.eval x }) ck) b1
        refine ⟨μ, { w with heap := w.heap.setIfInBounds l.blk (.map (ES.modify i fun e => { e with key := a.eval k, val := a.eval x }) ck) }, .skip, undef, ?_, .inr ⟨rfl, rfl⟩, c.write hD hlow hg hl set_same (map_brel (ES := ES.toList.modify i fun e => { e with key := a.eval k, val := a.eval x }) (ck := ck) ?_ (RelE.modify i b2 hK hX)), by simp [Rel, undefV, undef, RelL]⟩
        · simp [Instr.mapUpdate, run_underlying hu, hM, hgm, hck, hfk, hY', hst, hsm]
        · have hlt : l.blk < w.heap.size := by
            rcases Nat.lt_or_ge l.blk w.heap.size with h' | h'
            · exact h'
            · rw [Array.getElem?_eq_none h'] at b1; cases b1
          rw [Array.getElem?_setIfInBounds_self_of_lt hlt]
          congr 2
          apply Array.ext'
          simp
      · rename_i hfv
        cases h
        obtain ⟨hD, l', hl', hb⟩ := c.at_ hg (hlt _) hA
        rw [hl] at hl'; cases hl'
        obtain ⟨ES, b1, b2⟩ := hb
        obtain ⟨R, hR, hRn⟩ := findV_ok hdr hK b2 hfv
        simp only at hRn
        subst hRn
        have hck := checkKey_run (P := P) (w := w) hkt hdr hpk false dep (a.eval k)
        rw [← hdep] at hck
        have hfk := findKey_run (P := P) (w := w) hkt hR
        have hgm := getMap_run (P := P) b1
        have hsm := setMap_run (P := P) (.map (ES.push { key := a.eval k, val := a.eval x, born := ck }) (ck + 1)) b1
        refine ⟨μ, { w with heap := w.heap.setIfInBounds l.blk (.map (ES.push { key := a.eval k, val := a.eval x, born := ck }) (ck + 1)) }, .skip, undef, ?_, .inr ⟨rfl, rfl⟩, c.write hD hlow hg hl set_same (map_brel (ES := ES.toList ++ [{ key := a.eval k, val := a.eval x, born := ck }]) (ck := ck + 1) ?_ (RelE.snoc b2 hK hX)), by simp [Rel, undefV, undef, RelL]⟩
        · simp [Instr.mapUpdate, run_underlying hu, hM, hgm, hck, hfk, hsm]
        · have hlt : l.blk < w.heap.size := by
            rcases Nat.lt_or_ge l.blk w.heap.size with h' | h'
            · exact h'
            · rw [Array.getElem?_eq_none h'] at b1; cases b1
          rw [Array.getElem?_setIfInBounds_self_of_lt hlt]
          congr 2
          apply Array.ext'
          simp
      · cases h
    · cases h
  · cases h

end
end Go.Rv

/-
  Functions without a body.
-/
namespace Go.Rv
open Go Go.RowKit

def XFn (P : Program) (f : Nat) (x : Array Value → Sem Value) : Prop :=
  ∃ fn, P.funcs[f]? = some fn ∧ (fn.name == "runtime.NumGoroutine") = false ∧ fn.body.isNone = true ∧ Extern.findNext fn = none ∧ Extern.find fn = some x

structure ExtOk (P : Program) (x : ExtNo) : Prop where
  indexByteString : XFn P x.indexByteString Extern.BytealgIndexByte.indexByte
  countString : XFn P x.countString Extern.BytealgCount.count
  noEscape : XFn P x.noEscape Extern.AbiNoEscape.same
  makeNoZero : ∃ ps t, XFn P x.makeNoZero (Extern.BytealgMakeNoZero.makeNoZero ps #[t]) ∧ P.underlying t = some (.slice x.byte)
  raceDisable : ∃ m, XFn P x.raceDisable (fun _ => do mark m; pure Extern.Race.none_)
  raceEnable : ∃ m, XFn P x.raceEnable (fun _ => do mark m; pure Extern.Race.none_)
  raceAcquire : ∃ m, XFn P x.raceAcquire (Extern.Race.marked m)
  raceRelease : ∃ m, XFn P x.raceRelease (Extern.Race.marked m)
  cas : XFn P x.cas (Extern.Atomic.casT (.int .i32))
  add : XFn P x.add (Extern.Atomic.update (Op.intArith .add) .i32 true)

theorem u8_eq {x : UInt8} {c : Nat} (hc : c < 256) : (x == ((Int.ofNat c).toNat.toUInt8)) = Nat.beq x.toNat c := by
  rw [Bool.eq_iff_iff, beq_iff_eq, Nat.beq_eq, ← UInt8.toNat_inj]
  have : ((Int.ofNat c).toNat.toUInt8).toNat = c := by
    show c.toUInt8.toNat = c
    simp [Nat.toUInt8, UInt8.toNat_ofNat', Nat.mod_eq_of_lt hc]
  rw [this]

theorem idxB_eq {c : Nat} (hc : c < 256) : ∀ (l : List UInt8) (i : Nat),
    idxB c l i = if Lib.indexByte l ((Int.ofNat c).toNat.toUInt8) == -1 then -1 else Lib.indexByte l ((Int.ofNat c).toNat.toUInt8) + i
  | [], i => by simp [idxB, Lib.indexByte]
  | x :: l, i => by
    unfold idxB Lib.indexByte
    rw [← u8_eq hc, sel_eq]
    by_cases h : (x == ((Int.ofNat c).toNat.toUInt8)) = true
    · rw [if_pos h, if_pos h]
      simp
    · rw [if_neg h, if_neg h, idxB_eq hc l (i + 1)]
      have hge := Lib.indexByte_ge l ((Int.ofNat c).toNat.toUInt8)
      by_cases h2 : Lib.indexByte l ((Int.ofNat c).toNat.toUInt8) = -1
      · simp only [beq_iff_eq, h2, if_true]
      · have h3 : ¬ (Lib.indexByte l ((Int.ofNat c).toNat.toUInt8) + 1 = -1) := by omega
        simp only [beq_iff_eq, h2, h3, if_false]
        push_cast
        omega

theorem cntB_eq {c : Nat} (hc : c < 256) : ∀ (l : List UInt8), cntB c l = Lib.countByte l ((Int.ofNat c).toNat.toUInt8)
  | [] => by simp [cntB, Lib.countByte]
  | x :: l => by
    unfold cntB Lib.countByte
    rw [List.count_cons, ← u8_eq hc, sel_eq, cntB_eq hc l]
    by_cases h : (x == ((Int.ofNat c).toNat.toUInt8)) = true
    · rw [if_pos h, if_pos h]; rfl
    · rw [if_neg h, if_neg h]; rfl

section
variable {P : Program} {tab : Tab} {D : Nat → Prop} {s s' : St} {μ : Mu} {e : Env} {nt : Nat} {a : Act} {w : World} {v : V} {o : Oper}

theorem XFn.run {f : Nat} {x : Array Value → Sem Value} (h : XFn P f x) (args : Array Value) (w : World) :
    (callFunc f args).run P w = ((x args).run P w).andThen fun v w' => .ok (.value v) w' := by
  obtain ⟨fn, h1, h2, h3, h4, h5⟩ := h
  exact run_callFunc_extern h1 h2 h3 h4 h5 args w

theorem XFn.done {f : Nat} {x : Array Value → Sem Value} {xs : List Value} (h : XFn P f x) (hg : Good D s s' μ w ((x ⟨xs⟩).run P w) v) :
    Done D s s' μ w ((callFunc f ⟨xs⟩).run P w) v := by
  obtain ⟨μ', w', X, hr, hs, hv⟩ := hg
  exact ⟨μ', w', .value X, X, by rw [h.run, hr]; rfl, .inl rfl, hs, hv⟩

theorem RelL.nil_inv {xs : List Value} (h : RelL μ [] xs) : xs = [] := by simpa only [RelL] using h
theorem RelL.three {x y z : V} {xs : List Value} (h : RelL μ [x, y, z] xs) : ∃ X Y Z, xs = [X, Y, Z] ∧ Rel μ x X ∧ Rel μ y Y ∧ Rel μ z Z := by
  simp only [RelL] at h
  obtain ⟨X, ys, rfl, h1, Y, zs, rfl, h2, Z, us, rfl, h3, rfl⟩ := h
  exact ⟨X, Y, Z, rfl, h1, h2, h3⟩

/-- One cell of a block, set. -/
theorem brel_set {l : Loc} {u o : Nat} {cs cs' : List V} {ext : Bool} {x : V} {X : Value} (hb : BRel μ l w (.cells u cs ext false)) (hp : putAt cs o [x] = some cs') (hr : Rel μ x X) :
    w.frozen? ⟨l.blk, l.off + o, none⟩ = false ∧ BRel μ l (w.setCell ⟨l.blk, l.off + o, none⟩ X) (.cells u cs' ext false) := by
  obtain ⟨C, fz, h1, h2, h3, h4, h5, h6⟩ := hb
  obtain ⟨p1, p2, p3⟩ := putAt_eq hp
  have hin := p1 (by simp)
  simp only [List.length_singleton] at hin p3
  have hlt : l.off + o < C.size := by omega
  refine ⟨?_, C.setIfInBounds (l.off + o) X, fz, setCell_at h1 X, by simpa using h2, by omega, fun he => by have := h4 he; omega, fun i v hi => ?_, fun _ j hj hj' => h6 rfl j hj (by simpa using hj')⟩
  · have := h6 rfl (l.off + o) (by omega) hlt
    simp only [World.frozen?, h1]
    by_cases h1 : fz.1 ≤ l.off + o
    · have h2 : ¬ l.off + o < fz.2 := fun h => this ⟨h1, h⟩
      simp [h2]
    · simp [h1]
  · rw [p3 i] at hi
    by_cases hio : i = o
    · subst hio
      rw [if_pos (by omega)] at hi
      simp at hi
      subst hi
      exact ⟨X, by simp [hlt], hr⟩
    · rw [if_neg (by omega)] at hi
      obtain ⟨Y, hY, hy⟩ := h5 i v hi
      exact ⟨Y, by rw [Array.getElem?_setIfInBounds_ne (by omega)]; exact hY, hy⟩

theorem extV_ok {x : ExtNo} (hx : ExtOk P x) (c : Cx P tab D s μ e nt a w) {f : Nat} {args : List V} {xs : List Value} (hX : RelL μ args xs)
    (h : extV x f args s = some (v, s')) (hA : ∀ n, s'.acc.testBit n = true → n < s.next → D n) (hF : ∀ n, s.next ≤ n → n < s'.next → μ n = none) :
    Done D s s' μ w ((callFunc f ⟨xs⟩).run P w) v := by
  unfold extV at h
  split at h
  · rename_i hf
    subst hf
    split at h
    · rename_i b n
      obtain ⟨hn, h⟩ := sel_some h
      cases h
      rw [Nat.blt_eq] at hn
      obtain ⟨X, Y, rfl, h1, h2⟩ := hX.two
      simp only [Rel] at h1 h2
      subst h1 h2
      refine hx.indexByteString.done (c.good (X := .int .i64 (idxB n b 0)) ?_ (by simp [Rel]))
      have := Lib.run_indexByteString (P := P) ⟨b.toArray⟩ (Int.ofNat n) w
      refine this.trans ?_
      congr 2
      rw [idxB_eq hn]
      by_cases h2 : Lib.indexByte b ((Int.ofNat n).toNat.toUInt8) = -1
      · simp [h2]
      · rw [if_neg (by simpa using h2)]
        simp
    · cases h
  · split at h
    · rename_i hf
      subst hf
      split at h
      · rename_i b n
        obtain ⟨hn, h⟩ := sel_some h
        cases h
        rw [Nat.blt_eq] at hn
        obtain ⟨X, Y, rfl, h1, h2⟩ := hX.two
        simp only [Rel] at h1 h2
        subst h1 h2
        refine hx.countString.done (c.good (X := .int .i64 (Int.ofNat (cntB n b))) ?_ (by simp [Rel]))
        have := Lib.run_countString (P := P) ⟨b.toArray⟩ (Int.ofNat n) w
        refine this.trans ?_
        rw [cntB_eq hn]
        rfl
      · cases h
    · split at h
      · rename_i hf
        subst hf
        split at h
        · cases h
          obtain ⟨X, rfl, h1⟩ := hX.one
          exact hx.noEscape.done (c.good (X := X) rfl h1)
        · cases h
      · split at h
        · rename_i hf
          subst hf
          split at h
          · rename_i n
            split at h
            · rename_i hn
              cases h
              obtain ⟨X, rfl, h1⟩ := hX.one
              simp only [Rel] at h1
              subst h1
              obtain ⟨ps, t, hxf, ht⟩ := hx.makeNoZero
              obtain ⟨m, rfl⟩ := Int.eq_ofNat_of_zero_le (a := n) (by omega)
              obtain ⟨cs, hr, hle, _⟩ := Lib.run_makeNoZero (P := P) w ps t x.byte ht m (by have h1 := hn.2; have h2 : (2 : Int) ^ 20 = 1048576 := rfl; rw [h2] at h1; omega)
              have hmn : ((m : Int)).toNat = m := by simp
              rw [hmn]
              refine hxf.done ⟨_, _, _, hr, (c.allocE (u := x.byte) (cs := []) (C := cs) (ext := true) (hF s.next (Nat.le_refl _) (Nat.lt_succ_self _)) (Nat.zero_le _) (fun h => by cases h) (fun i v hi => by simp at hi)).world rfl rfl rfl rfl, ?_⟩
              exact sl_rel (o := 0) (cap := none) (l := ⟨w.heap.size, 0, cs.size⟩) (Mu.add_same _ _ _) hle ⟨by simp, Nat.one_pos⟩
            · cases h
          · cases h
        · split at h
          · rename_i hf
            split at h
            · cases h
              have := hX.nil_inv
              subst this
              have hnone : Rel μ undefV (Extern.Race.none_) := by simp [Rel, undefV, Extern.Race.none_]; exact RelL.nil
              rcases hf with rfl | rfl
              · obtain ⟨m, hm⟩ := hx.raceDisable
                exact hm.done (c.good (X := Extern.Race.none_) rfl hnone)
              · obtain ⟨m, hm⟩ := hx.raceEnable
                exact hm.done (c.good (X := Extern.Race.none_) rfl hnone)
            · cases h
          · split at h
            · rename_i hf
              split at h
              · cases h
                obtain ⟨X, rfl, h1⟩ := hX.one
                simp only [Rel] at h1
                obtain ⟨l, _, rfl⟩ := h1
                have hnone : Rel μ undefV (Extern.Race.none_) := by simp [Rel, undefV, Extern.Race.none_]; exact RelL.nil
                rcases hf with rfl | rfl
                · obtain ⟨m, hm⟩ := hx.raceAcquire
                  exact hm.done (c.good (X := Extern.Race.none_) rfl hnone)
                · obtain ⟨m, hm⟩ := hx.raceRelease
                  exact hm.done (c.good (X := Extern.Race.none_) rfl hnone)
              · cases h
            · split at h
              · rename_i hf
                subst hf
                split at h
                · rename_i n k p q
                  obtain ⟨X, Y, Z, rfl, h1, h2, h3⟩ := hX.three
                  simp only [Rel] at h1 h2 h3
                  obtain ⟨l, hl, rfl⟩ := h1
                  subst h2 h3
                  split at h
                  · rename_i u cs ext s2 hr
                    obtain ⟨hg, rfl⟩ := read_eq hr
                    split at h
                    · rename_i r hcell
                      split at h
                      · cases h
                      · rename_i hlow
                        split at h
                        · rename_i hrp
                          subst hrp
                          split at h
                          · rename_i cs' hput
                            cases h
                            obtain ⟨hD, l', hl', hb⟩ := c.at_ hg (s' := _) (testBit_lor_pow.2 (.inl (acc_bit s n))) hA
                            rw [hl] at hl'; cases hl'
                            obtain ⟨Y, hY, hyr⟩ := cell_of hb hcell
                            simp only [Rel] at hyr
                            subst hyr
                            obtain ⟨hz, hbn⟩ := brel_set (X := .int .i32 q) hb hput (by simp [Rel])
                            obtain ⟨fn, g1, g2, g3, g4, g5⟩ := hx.cas
                            exact ⟨μ, w.setCell ⟨l.blk, l.off + k, none⟩ (.int .i32 q), .value (.bool true), .bool true, run_call_cas_hit g1 g2 g3 g4 .i32 g5 hY hz, .inl rfl,
                              c.write hD (Nat.le_of_not_lt hlow) hg hl (SameBut.setCell _ _ _ _) hbn, by simp [Rel]⟩
                          · cases h
                        · cases h
                    · cases h
                  · cases h
                · cases h
              · split at h
                · rename_i hf
                  subst hf
                  split at h
                  · rename_i n k p
                    obtain ⟨X, Y, rfl, h1, h2⟩ := hX.two
                    simp only [Rel] at h1 h2
                    obtain ⟨l, hl, rfl⟩ := h1
                    subst h2
                    split at h
                    · rename_i u cs ext s2 hr
                      obtain ⟨hg, rfl⟩ := read_eq hr
                      split at h
                      · rename_i r hcell
                        split at h
                        · cases h
                        · rename_i hlow
                          split at h
                          · rename_i cs' hput
                            cases h
                            obtain ⟨hD, l', hl', hb⟩ := c.at_ hg (s' := _) (testBit_lor_pow.2 (.inl (acc_bit s n))) hA
                            rw [hl] at hl'; cases hl'
                            obtain ⟨Y, hY, hyr⟩ := cell_of hb hcell
                            simp only [Rel] at hyr
                            subst hyr
                            obtain ⟨hz, hbn⟩ := brel_set (X := .int .i32 (IntKind.i32.wrap (r + p))) hb hput (by simp [Rel])
                            obtain ⟨fn, g1, g2, g3, g4, g5⟩ := hx.add
                            exact ⟨μ, w.setCell ⟨l.blk, l.off + k, none⟩ (.int .i32 (IntKind.i32.wrap (r + p))), .value (.int .i32 (IntKind.i32.wrap (r + p))), _, run_call_add g1 g2 g3 g4 .i32 g5 hY hz (by simp [Op.intArith]), .inl rfl,
                              c.write hD (Nat.le_of_not_lt hlow) hg hl (SameBut.setCell _ _ _ _) hbn, by simp [Rel]⟩
                          · cases h
                      · cases h
                    · cases h
                  · cases h
                · cases h

end
end Go.Rv

/-
  One operation of any kind.
-/
namespace Go.Rv
open Go Go.RowKit

structure Gd (g0 : T B) (D : Nat → Prop) (s : St) : Prop where
  next : low0 ≤ s.next
  dom : ∀ n, n < low0 → D n
  heap : ∀ n, n < low0 → s.heap.get n = g0.get n

theorem Gd.keep {g0 : T B} {D : Nat → Prop} {s s' : St} (h : Gd g0 D s) (k : Keep low0 s s') : Gd g0 (fun n => D n ∨ (s.next ≤ n ∧ n < s'.next)) s' :=
  ⟨Nat.le_trans h.next k.next, fun n hn => .inl (h.dom n hn), fun n hn => by rw [k.glob n hn (by have := h.next; omega)]; exact h.heap n hn⟩

/-- The world has grown; what was there is there. -/
structure Grew (w w' : World) : Prop where
  size : w.heap.size ≤ w'.heap.size
  os : w'.os = w.os
  tape : w'.tape = w.tape
  output : w'.output = w.output
  block : ∀ r, r < w.heap.size → w'.heap[r]? = w.heap[r]?

def CallOk (P : Program) (g0 : T B) (call : Call) : Prop :=
  ∀ (D : Nat → Prop) (s s' : St) (μ : Mu) (w : World) (f : Nat) (args : List V) (xs : List Value) (v : V), call f args s = some (v, s') → RelL μ args xs → Glob μ → Bnd s → Ok D μ s.heap w → Gd g0 D s →
    (∀ n, s'.acc.testBit n = true → n < s.next → D n) → (∀ n, s.next ≤ n → n < s'.next → μ n = none) →
    Calls P f ⟨xs⟩ w fun
      | .returned X, w' => ∃ μ', Step low0 D s s' μ μ' w w' ∧ Rel μ' v X
      | _, _ => False

def MemoAt (P : Program) (g0 : T B) (f : Nat) (args : List V) (v : V) : Prop :=
  ∀ {μ : Mu} {w : World} {xs : List Value}, RelL μ args xs → Glob μ → Ok (fun n => n < low0) μ g0 w →
    Calls P f ⟨xs⟩ w fun
      | .returned X, w' => Grew w w' ∧ Rel μ v X
      | _, _ => False

structure TOk (P : Program) (tab : Tab) (g0 : T B) : Prop where
  ty : ∀ t ti, tab.ty t = some ti → TyOk P t ti
  eqs : EqsOk P tab
  lies : LiesOk P tab
  fn : ∀ f fi, tab.fn f = some fi → ∃ fn, P.funcs[f]? = some fn ∧ (fn.name == "runtime.NumGoroutine") = false ∧ fn.body = some fi.body ∧ fn.ntmps = fi.ntmps ∧ fn.results = fi.results
  ext : ∃ x, ExtOk P x ∧ tab.ext = extV x
  memo : ∀ f args v, tab.memo f args = some v → (∃ fi, tab.fn f = some fi) ∧ MemoAt P g0 f args v

section
variable {P : Program} {tab : Tab} {g0 : T B} {D : Nat → Prop} {s s' : St} {μ : Mu} {e : Env} {nt : Nat} {a : Act} {w : World} {v : V} {o : Oper} {call : Call}

theorem Step.grow {low : Nat} {w' : World} (ok : Ok D μ s.heap w) (g : Grew w w') : Step low D s s μ μ w w' where
  keep := Keep.refl low s
  ext := ⟨Mu.le_refl μ, fun n l h => .inl h, fun n l h h' => (by rw [h] at h'; cases h'), g.size, g.os, g.tape, g.output, fun r hr _ => g.block r hr⟩
  ok := by
    refine ⟨fun n b d gg => ?_, fun n m b c l k d1 d2 => ?_⟩
    · obtain ⟨l, h1, h2⟩ := ok.rel n b (d.resolve_right (by omega)) gg
      exact ⟨l, h1, h2.congr (Mu.le_refl μ) (g.block _ h2.lt)⟩
    · exact ok.sep n m b c l k (d1.resolve_right (by omega)) (d2.resolve_right (by omega))

/-- What is asked of an operation. -/
def OpGood (P : Program) (D : Nat → Prop) (s s' : St) (μ : Mu) (w : World) (a : Act) (o : Oper) (v : V) : Prop :=
  ∀ (a2 : Act) (K : Act → World → Prop) (Q : Exit → Act → World → Prop), (∀ μ' w' X, Step low0 D s s' μ μ' w w' → Rel μ' v X → K (a2.put o.dst X) w') →
    o.upon P a2 K Q ((execOp a.eval o).run P w)

theorem Done.good (h : Done D s s' μ w ((execOp a.eval o).run P w) v) : OpGood P D s s' μ w a o v := by
  intro a2 K Q hK
  obtain ⟨μ', w', n, X, hr, hn, hs, hv⟩ := h
  rw [hr]
  rcases hn with rfl | ⟨rfl, rfl⟩
  · exact hK μ' w' X hs hv
  · exact hK μ' w' undef hs hv

theorem calls_good {f : Nat} {xs : List Value} (hr : (execOp a.eval o).run P w = .ok (.enter f ⟨xs⟩) w)
    (h : Calls P f ⟨xs⟩ w fun
      | .returned X, w' => ∃ μ', Step low0 D s s' μ μ' w w' ∧ Rel μ' v X
      | _, _ => False) : OpGood P D s s' μ w a o v := by
  intro a2 K Q hK
  rw [hr, Oper.upon_enter]
  refine h.mono fun en w' hR => ?_
  cases en with
  | returned X =>
    obtain ⟨μ', hs, hv⟩ := hR
    exact hK μ' w' X hs hv
  | panicked ch => exact hR.elim
  | outgrown => exact hR.elim

theorem enter_run {f : Nat} {fi : FI} (T : TOk P tab g0) (h : tab.fn f = some fi) (args : Array Value) (w : World) : (callFunc f args).run P w = .ok (.enter f args) w := by
  obtain ⟨fn, h1, h2, h3, _⟩ := T.fn f fi h
  have h2' : fn.name ≠ "runtime.NumGoroutine" := by simpa using h2
  simp [callFunc, h1, h2', h3]

theorem callV_good (T : TOk P tab g0) (hc : CallOk P g0 call) (c : Cx P tab D s μ e nt a w) (G : Gd g0 D s) {f : Nat} {args : List V} {xs : List Value} (hX : RelL μ args xs)
    (hex : ∀ w', (execOp a.eval o).run P w' = (callFunc f ⟨xs⟩).run P w')
    (h : callV tab call f args s = some (v, s')) (hA : ∀ n, s'.acc.testBit n = true → n < s.next → D n) (hF : ∀ n, s.next ≤ n → n < s'.next → μ n = none) :
    OpGood P D s s' μ w a o v := by
  unfold callV at h
  split at h
  · rename_i v' hm
    cases h
    obtain ⟨⟨fi, hfi⟩, hmm⟩ := T.memo f args _ hm
    have hok : Ok (fun n => n < low0) μ g0 w :=
      ⟨fun n b hn g => c.ok.rel n b (G.dom n hn) (by rw [G.heap n hn]; exact g),
        fun n m b b' l k hn hm hne g1 g2 => c.ok.sep n m b b' l k (G.dom n hn) (G.dom m hm) hne (by rw [G.heap n hn]; exact g1) (by rw [G.heap m hm]; exact g2)⟩
    refine calls_good ((hex w).trans (enter_run T hfi _ _)) ((hmm hX c.glob hok).mono fun en w' hR => ?_)
    cases en with
    | returned X => exact ⟨μ, Step.grow c.ok hR.1, hR.2⟩
    | panicked ch => exact hR
    | outgrown => exact hR
  · split at h
    · rename_i fi hfi
      exact calls_good ((hex w).trans (enter_run T hfi _ _)) (hc _ _ _ _ _ _ _ _ _ h hX c.glob c.bnd c.ok G hA hF)
    · obtain ⟨x, hx, he⟩ := T.ext
      rw [he] at h
      have := extV_ok hx c hX h hA hF
      exact Done.good (by rw [hex]; exact this)

theorem oCall_good (T : TOk P tab g0) (hc : CallOk P g0 call) (c : Cx P tab D s μ e nt a w) (G : Gd g0 D s) {cl : Go.Call} (ho : o.op = .call cl)
    (h : oCall tab call e cl s = some (v, s')) (hA : ∀ n, s'.acc.testBit n = true → n < s.next → D n) (hF : ∀ n, s.next ≤ n → n < s'.next → μ n = none) :
    OpGood P D s s' μ w a o v := by
  unfold oCall at h
  obtain ⟨args, hargs, h⟩ := ob_eq h
  have hX := c.evs hargs
  have harr : cl.args.map a.eval = ⟨cl.args.toList.map a.eval⟩ := by apply Array.ext'; simp
  split at h
  · rename_i b hb
    refine Done.good ?_
    have := builtinV_ok c (b := b) (ats := cl.argTypes) (ty := o.type) (cs := cl.args.map fun | .const _ => true | _ => false) hX h hA hF
    have e1 : (execOp a.eval o).run P w = (builtin b cl.argTypes o.type (cl.args.map fun | .const _ => true | _ => false) ⟨cl.args.toList.map a.eval⟩).run P w := by
      rw [← harr]
      simp only [execOp, ho, resolve, hb]
      rfl
    rw [e1]
    exact this
  · rename_i fo hfo
    split at h
    · rename_i f first captured hev
      have hf := c.ev hev
      simp only [Rel] at hf
      obtain ⟨A, B, hfe, hA', hB'⟩ := hf
      have hX' : RelL μ (first ++ args ++ captured) (A ++ cl.args.toList.map a.eval ++ B) := RelL.append (RelL.append hA' hX) hB'
      refine callV_good T hc c G hX' (fun w' => ?_) h hA hF
      have e2 : (⟨A⟩ ++ cl.args.map a.eval ++ ⟨B⟩ : Array Value) = ⟨A ++ cl.args.toList.map a.eval ++ B⟩ := by
        apply Array.ext'; simp
      rw [← e2]
      simp only [execOp, ho, resolve, hfo, hfe]
      rfl
    · cases h
  · cases h

theorem convV_ok (T : TOk P tab g0) (c : Cx P tab D s μ e nt a w) {src dst : Nat} {x : V} {X : Value} (hX : Rel μ x X)
    (h : convV tab src dst x s = some (v, s')) (hA : ∀ n, s'.acc.testBit n = true → n < s.next → D n) (hF : ∀ n, s.next ≤ n → n < s'.next → μ n = none) :
    Good D s s' μ w ((convert src dst X).run P w) v := by
  unfold convV at h
  split at h
  · rename_i ht; exact convInt_ok c (int_und (c.ty _ _ ht) rfl) hX h
  · rename_i ht; exact convStr_ok c (str_und (c.ty _ _ ht) rfl) hX h hA
  · rename_i ht; exact convSlice_ok c (slice_und (c.ty _ _ ht) rfl) hX h hA hF
  · rename_i ht; exact convUptr_ok c (uptr_und (c.ty _ _ ht) rfl) hX h hA
  · rename_i ht; exact convPtr_ok c T.lies (ptr_und (c.ty _ _ ht) rfl) hX h hA
  · cases h

theorem evOp_good (T : TOk P tab g0) (hc : CallOk P g0 call) (c : Cx P tab D s μ e nt a w) (G : Gd g0 D s)
    (h : evOp tab call e o.op s = some (v, s')) (hA : ∀ n, s'.acc.testBit n = true → n < s.next → D n) (hF : ∀ n, s.next ≤ n → n < s'.next → μ n = none) :
    OpGood P D s s' μ w a o v := by
  unfold evOp at h
  split at h
  · rename_i ho; exact (oMove_ok c (.inl ho) h).good
  · rename_i ho; exact (oMove_ok c (.inr ho) h).good
  · rename_i ho; exact (oPick_ok c ho h).good
  · rename_i ho; exact (oAlloc_ok c ho h hF).good
  · rename_i ho; exact (oBox_ok c ho h hF).good
  · rename_i ho; exact (oBuild_ok c ho h).good
  · rename_i ho; exact (oBuildSlice_ok c ho h hF).good
  · rename_i ho; exact (oMapUpdate_ok c (.inr ho) h hA).good
  · rename_i ho; exact (oMapUpdate_ok c (.inl ho) h hA).good
  · rename_i ho; exact (oLoad_ok c ho h hA).good
  · rename_i ho; exact (oStore_ok c ho h hA).good
  · rename_i ho; exact (oNilCheck_ok c ho h).good
  · rename_i ho; exact (oBin_ok c T.eqs ho h).good
  · rename_i ho; exact (oUn_ok c ho h).good
  · rename_i src dst x ho
    obtain ⟨x', hx, h⟩ := ob_eq h
    have := (convV_ok T c (c.ev hx) h hA hF).done
    refine Done.good ?_
    have e1 : (execOp a.eval o) = (do pure (Next.value (← convert src dst (a.eval x)))) := by simp only [execOp, ho]
    rw [e1]
    exact this
  · rename_i ho; exact (oMakeInterface_ok c ho h).good
  · rename_i ho; exact (oMakeFunc_ok c ho h).good
  · rename_i ho; exact (oMakeMap_ok c ho h hF).good
  · rename_i ho; exact (oMakeSlice_ok c ho h hF).good
  · rename_i ho; exact (oSlice_ok c ho h).good
  · rename_i ho; exact (oFieldAddr_ok c ho h).good
  · rename_i ho; exact (oField_ok c ho h).good
  · rename_i ho; exact (oIndexAddr_ok c ho h).good
  · rename_i ho; exact (oIndex_ok c ho h).good
  · rename_i ho; exact (oLookup_ok c ho h hA).good
  · rename_i ho; exact (oExtract_ok c ho h).good
  · rename_i ho; exact oCall_good T hc c G ho h hA hF
  · cases h

end
end Go.Rv

/-
  What an operation keeps, whatever the world.
-/
namespace Go.Rv
open Go

theorem Keep.read (s : St) (n : Nat) : Keep low0 s { s with acc := s.acc ||| 2 ^ n } :=
  ⟨Nat.le_refl _, fun _ h => testBit_lor_pow.2 (.inl h), fun _ h => h, fun _ h => .inl h, fun _ h => .inl h, fun _ _ _ _ h => h, fun _ h => .inl h, rfl, fun _ _ _ => rfl, id⟩

theorem Keep.write {s : St} {n : Nat} {b0 b : B} (hg : s.heap.get n = some b0) (hlow : low0 ≤ n) : Keep low0 s (s.write n b) :=
  ⟨Nat.le_refl _, fun k h => testBit_lor_pow.2 (.inl h), fun k h => testBit_lor_pow.2 (.inl h),
    fun k h => (testBit_lor_pow.1 h).imp id fun e => testBit_lor_pow.2 (.inr e),
    fun k h => (testBit_lor_pow.1 h).imp id fun e => by rw [e]; exact hlow,
    fun k c h _ g => by
      have g' : (s.heap.put n (some b)).get k = some c := g
      rw [T.get_put_ne _ _ (fun e => by
        have : (s.write n b).wr.testBit k = true := testBit_lor_pow.2 (.inr e)
        rw [h] at this; cases this)] at g'
      exact g',
    fun k h => (testBit_lor_pow.1 h).imp id fun e => .inr ⟨b0, by rw [e]; exact hg⟩, rfl, fun k hk _ => T.get_put_ne _ _ (by omega),
    fun hb k c g => by
      by_cases e : k = n
      · subst e; exact hb k b0 hg
      · exact hb k c (by rw [← T.get_put_ne s.heap (some b) e]; exact g)⟩

theorem Keep.fresh (s : St) (b : B) : Keep low0 s (s.fresh b) :=
  ⟨Nat.le_succ _, fun _ h => h, fun _ h => h, fun _ h => .inl h, fun _ h => .inl h,
    fun n c _ hn g => by
      have hn' : n < s.next ∨ s.next + 1 ≤ n := hn
      have g' : (s.heap.put s.next (some b)).get n = some c := g
      rw [T.get_put_ne _ _ (by omega)] at g'
      exact g',
    fun _ h => .inl h, rfl, fun n _ hn => T.get_put_ne _ _ (by omega),
    fun hb n c g => by
      by_cases e : n = s.next
      · subst e; exact Nat.lt_succ_self _
      · exact Nat.lt_succ_of_lt (hb n c (by rw [← T.get_put_ne s.heap (some b) e]; exact g))⟩

theorem Keep.kill {s : St} {n : Nat} {b0 : B} (hg : s.heap.get n = some b0) (hlow : low0 ≤ n) : Keep low0 s (s.kill n) :=
  ⟨Nat.le_refl _, fun k h => testBit_lor_pow.2 (.inl h), fun k h => testBit_lor_pow.2 (.inl h),
    fun k h => (testBit_lor_pow.1 h).imp id fun e => testBit_lor_pow.2 (.inr e),
    fun k h => (testBit_lor_pow.1 h).imp id fun e => by rw [e]; exact hlow,
    fun k c _ _ g => (kill_get s n k g).2,
    fun k h => (testBit_lor_pow.1 h).imp id fun e => .inr ⟨b0, by rw [e]; exact hg⟩, rfl, fun k hk _ => T.get_put_ne _ _ (by omega),
    fun hb k c g => hb k c (kill_get s n k g).2⟩

section
variable {tab : Tab} {e : Env} {s s' : St} {v : V} {call : Call}

theorem Keep.rw {s : St} {n : Nat} {b0 b : B} (hg : s.heap.get n = some b0) (hlow : low0 ≤ n) : Keep low0 s (({ s with acc := s.acc ||| 2 ^ n } : St).write n b) :=
  (Keep.read s n).trans (Keep.write (s := { s with acc := s.acc ||| 2 ^ n }) hg hlow)

theorem src_keep {α : Type} {esz : Nat} {x : V} {k : Nat → List V → St → Option α} {r : α} (h : srcCells esz s x k = some r) :
    ∃ n new s1, k n new s1 = some r ∧ Keep low0 s s1 := by
  unfold srcCells at h
  revert h
  split
  · intro h; exact ⟨0, [], s, h, Keep.refl _ _⟩
  · intro h
    obtain ⟨_, h2⟩ := sel_some h
    exact ⟨_, _, s, h2, Keep.refl _ _⟩
  · intro h
    obtain ⟨u, cs, ext, ro, hg, h1⟩ := cells_eq h
    obtain ⟨l0, hl0, h2⟩ := ob_eq h1
    exact ⟨_, l0, _, h2, Keep.read s _⟩
  · intro h; cases h

theorem may_low {n : Nat} {ro : Bool} {vs : List V} (h : may tab n ro vs = true) : low0 ≤ n := (may_eq h).2.1

theorem appendTo_keep {el : Nat} {ti : TI} {n o len k : Nat} {cap : Option Nat} {new : List V} (h : appendTo tab el ti n o len cap k new s = some (v, s')) : Keep low0 s s' := by
  unfold appendTo at h
  obtain ⟨u, cs, ext, ro, hg, h⟩ := cells_eq h
  split at h
  · cases h; exact Keep.read s n
  · obtain ⟨_, h⟩ := sel_some h
    have inpl : ∀ {c2 : Option Nat}, (sel (may tab n ro new) ((putAt cs (o + len * ti.size) new).om fun cs' => (V.sl n o (len + k) ti.size c2, ({ s with acc := s.acc ||| 2 ^ n } : St).write n (.cells u cs' ext ro))) none) = some (v, s') → Keep low0 s s' := by
      intro c2 h
      obtain ⟨hm, h⟩ := sel_some h
      obtain ⟨cs', _, h⟩ := om_eq h
      cases h
      exact Keep.rw hg (may_low hm)
    split at h
    · rw [sel_eq] at h
      split at h
      · exact inpl h
      · obtain ⟨old, _, h⟩ := om_eq h
        cases h
        exact (Keep.read s n).trans (Keep.fresh _ _)
    · rw [sel_eq] at h
      split at h
      · exact inpl h
      · obtain ⟨hc, h⟩ := sel_some h
        obtain ⟨old, _, h⟩ := om_eq h
        cases h
        simp only [Bool.and_eq_true] at hc
        exact ((Keep.read s n).trans (Keep.kill (s := { s with acc := s.acc ||| 2 ^ n }) hg (may_low hc.1.1.1))).trans (Keep.fresh _ _)

theorem appendV_keep {st : Nat} {a x : V} (h : appendV tab st a x s = some (v, s')) : Keep low0 s s' := by
  unfold appendV at h
  obtain ⟨p, _, h⟩ := ob_eq h
  obtain ⟨_, h⟩ := sel_none h
  obtain ⟨n, new, s1, h, hk⟩ := src_keep h
  split at h
  · split at h
    · cases h; exact hk
    · obtain ⟨_, h⟩ := sel_some h
      cases h
      exact hk.trans (Keep.fresh _ _)
  · obtain ⟨_, h⟩ := sel_some h
    exact hk.trans (appendTo_keep h)
  · cases h

theorem lenV_keep {t : Nat} {x : V} (h : lenV tab t x s = some (v, s')) : Keep low0 s s' := by
  unfold lenV at h
  obtain ⟨ti, _, h⟩ := ob_eq h
  split at h
  · obtain ⟨_, h⟩ := sel_some h; cases h; exact Keep.refl _ _
  · obtain ⟨_, h⟩ := sel_some h; cases h; exact Keep.refl _ _
  · obtain ⟨_, h⟩ := sel_some h; cases h; exact Keep.refl _ _
  · obtain ⟨_, h⟩ := sel_some h; cases h; exact Keep.refl _ _
  · split at h
    · rename_i hr
      obtain ⟨_, rfl⟩ := read_eq hr
      obtain ⟨_, h⟩ := sel_some h; cases h; exact Keep.read _ _
    · cases h
  · cases h

theorem capV_keep {t : Nat} {x : V} (h : capV tab t x s = some (v, s')) : Keep low0 s s' := by
  unfold capV at h
  obtain ⟨ti, _, h⟩ := ob_eq h
  split at h
  · obtain ⟨_, h⟩ := sel_some h; cases h; exact Keep.refl _ _
  · obtain ⟨_, h⟩ := sel_some h; cases h; exact Keep.refl _ _
  · cases h

theorem copyV_keep {t : Nat} {d x : V} (h : copyV tab t d x s = some (v, s')) : Keep low0 s s' := by
  unfold copyV at h
  obtain ⟨p, _, h⟩ := ob_eq h
  obtain ⟨n, new, s1, h, hk⟩ := src_keep h
  split at h
  · cases h; exact hk
  · obtain ⟨u, cs, ext, ro, hg, h⟩ := cells_eq h
    obtain ⟨hm, h⟩ := sel_some h
    obtain ⟨cs', _, h⟩ := om_eq h
    cases h
    exact hk.trans (Keep.rw hg (may_low hm))
  · cases h

theorem dataV_keep {x : V} (h : dataV x s = some (v, s')) : Keep low0 s s' := by
  unfold dataV at h
  split at h <;> (cases h; try exact Keep.refl _ _)

theorem ustrV_keep {t : Nat} {p m : V} (h : ustrV tab t p m s = some (v, s')) : Keep low0 s s' := by
  unfold ustrV at h
  obtain ⟨k, _, h⟩ := ob_eq h
  split at h
  · split at h <;> (cases h; try exact Keep.refl _ _)
  · split at h
    · split at h
      · obtain ⟨u, cs, ext, ro, hg, h⟩ := cells_eq h
        obtain ⟨hc, h⟩ := sel_some h
        simp only [Bool.and_eq_true, Nat.ble_eq] at hc
        obtain ⟨tu, _, h⟩ := ob_eq h
        split at h
        · obtain ⟨vs, _, h⟩ := ob_eq h
          obtain ⟨b, _, h⟩ := ob_eq h
          obtain ⟨_, h⟩ := sel_some h
          cases h
          exact Keep.rw hg hc.1.1
        · cases h
      · cases h
    · cases h

theorem builtinV_keep {b : Builtin} {ats : Array Nat} {args : List V} (h : builtinV tab b ats args s = some (v, s')) : Keep low0 s s' := by
  unfold builtinV at h
  split at h
  · obtain ⟨t, _, h⟩ := ob_eq h
    obtain ⟨u, _, h⟩ := ob_eq h
    obtain ⟨_, h⟩ := sel_some h
    exact appendV_keep h
  · obtain ⟨t, _, h⟩ := ob_eq h; exact lenV_keep h
  · obtain ⟨t, _, h⟩ := ob_eq h; exact capV_keep h
  · obtain ⟨t, _, h⟩ := ob_eq h; exact copyV_keep h
  · rename_i x l
    cases hm : maxV x l with
    | none => rw [hm] at h; cases h
    | some r => rw [hm] at h; cases h; exact Keep.refl _ _
  · rename_i x l
    cases hm : minV x l with
    | none => rw [hm] at h; cases h
    | some r => rw [hm] at h; cases h; exact Keep.refl _ _
  · exact dataV_keep h
  · obtain ⟨t, _, h⟩ := ob_eq h; exact ustrV_keep h
  · cases h

theorem convV_keep {src dst : Nat} {x : V} (h : convV tab src dst x s = some (v, s')) : Keep low0 s s' := by
  unfold convV at h
  split at h
  · unfold convInt at h
    split at h <;> (cases h; try exact Keep.refl _ _)
  · unfold convStr at h
    split at h
    · obtain ⟨_, _, h⟩ := om_eq h; cases h; exact Keep.refl _ _
    · obtain ⟨_, _, h⟩ := ob_eq h
      obtain ⟨_, _, h⟩ := om_eq h; cases h; exact Keep.refl _ _
    · obtain ⟨_, _, h⟩ := ob_eq h
      obtain ⟨u, cs, ext, ro, hg, h⟩ := cells_eq h
      obtain ⟨_, _, h⟩ := ob_eq h
      obtain ⟨_, _, h⟩ := om_eq h
      cases h
      exact Keep.read _ _
    · cases h
  · unfold convSlice at h
    obtain ⟨_, _, h⟩ := ob_eq h
    split at h
    · obtain ⟨hc, h⟩ := sel_some h
      simp only [Bool.and_eq_true, Nat.ble_eq] at hc
      obtain ⟨u, cs, ext, ro, hg, h⟩ := cells_eq h
      cases h
      exact Keep.rw hg hc.2
    · obtain ⟨_, h⟩ := sel_some h
      obtain ⟨_, _, h⟩ := om_eq h
      cases h
      exact Keep.fresh _ _
    · cases h
  · unfold convUptr at h
    split at h
    · split at h
      · cases h; exact Keep.refl _ _
      · obtain ⟨_, _, h⟩ := ob_eq h
        obtain ⟨u, cs, ext, ro, hg, h⟩ := cells_eq h
        obtain ⟨_, h⟩ := sel_some h
        cases h
        exact Keep.read _ _
      · cases h
    · cases h
  · unfold convPtr at h
    split at h
    · split at h
      · obtain ⟨u, cs, ext, ro, hg, h⟩ := cells_eq h
        obtain ⟨_, _, h⟩ := ob_eq h
        obtain ⟨_, h⟩ := sel_some h
        cases h
        exact Keep.read _ _
      · cases h
    · cases h
  · cases h

theorem extV_keep {x : ExtNo} {f : Nat} {args : List V} (h : extV x f args s = some (v, s')) : Keep low0 s s' := by
  unfold extV at h
  split at h
  · split at h
    · obtain ⟨_, h⟩ := sel_some h; cases h; exact Keep.refl _ _
    · cases h
  · split at h
    · split at h
      · obtain ⟨_, h⟩ := sel_some h; cases h; exact Keep.refl _ _
      · cases h
    · split at h
      · split at h <;> (cases h; try exact Keep.refl _ _)
      · split at h
        · split at h
          · split at h <;> (cases h; try exact Keep.fresh _ _)
          · cases h
        · split at h
          · split at h <;> (cases h; try exact Keep.refl _ _)
          · split at h
            · split at h <;> (cases h; try exact Keep.refl _ _)
            · split at h
              · split at h
                · split at h
                  · rename_i hr
                    obtain ⟨hg, rfl⟩ := read_eq hr
                    split at h
                    · split at h
                      · cases h
                      · rename_i hlow
                        split at h
                        · split at h <;> (cases h; try exact Keep.rw hg (Nat.le_of_not_lt hlow))
                        · cases h
                    · cases h
                  · cases h
                · cases h
              · split at h
                · split at h
                  · split at h
                    · rename_i hr
                      obtain ⟨hg, rfl⟩ := read_eq hr
                      split at h
                      · split at h
                        · cases h
                        · rename_i hlow
                          split at h <;> (cases h; try exact Keep.rw hg (Nat.le_of_not_lt hlow))
                      · cases h
                    · cases h
                  · cases h
                · cases h

def CallKeep (call : Call) : Prop := ∀ (f : Nat) (args : List V) (s s' : St) (v : V), call f args s = some (v, s') → Keep low0 s s'
def ExtKeep (tab : Tab) : Prop := ∀ (f : Nat) (args : List V) (s s' : St) (v : V), tab.ext f args s = some (v, s') → Keep low0 s s'

theorem TOk.extKeep {P : Program} {g0 : T B} (T : TOk P tab g0) : ExtKeep tab := by
  obtain ⟨x, _, hx⟩ := T.ext
  intro f args s s' v h
  rw [hx] at h
  exact extV_keep h

theorem slice_keep {t : Nat} {x : V} {lo hi mx : Option Nat} (h : sliceV tab t x lo hi mx s = some (v, s')) : Keep low0 s s' := by
  have kn : ∀ {n o len esz c : Nat} {lo hi mx : Option Nat}, slKnown n o len esz c lo hi mx s = some (v, s') → Keep low0 s s' := by
    intro n o len esz c lo hi mx h
    rw [(known_ok h).1]
    exact Keep.refl _ _
  unfold sliceV at h
  obtain ⟨ti, _, h⟩ := ob_eq h
  split at h
  · obtain ⟨_, h⟩ := sel_some h
    unfold slStr at h
    obtain ⟨_, h⟩ := sel_some h
    cases h; exact Keep.refl _ _
  · obtain ⟨_, h⟩ := sel_some h
    cases h; exact Keep.refl _ _
  · obtain ⟨_, h⟩ := sel_some h
    exact kn h
  · obtain ⟨_, h⟩ := sel_some h
    unfold slOpen at h
    simp only at h
    split at h
    · obtain ⟨_, h⟩ := sel_some h
      cases h; exact Keep.refl _ _
    · obtain ⟨_, h⟩ := sel_some h
      cases h; exact Keep.refl _ _
  · split at h
    · unfold slArr at h
      obtain ⟨_, _, h⟩ := ob_eq h
      exact kn h
    · cases h
  · cases h

theorem oLookup_keep {t : Nat} {x i : Operand} {ok : Bool} (h : oLookup tab e t x i ok s = some (v, s')) : Keep low0 s s' := by
  unfold oLookup at h
  split at h
  · obtain ⟨_, _, h⟩ := ob_eq h
    obtain ⟨_, _, h⟩ := ob_eq h
    obtain ⟨_, _, h⟩ := ob_eq h
    split at h
    · simp only [found] at h
      cases h; exact Keep.refl _ _
    · split at h
      · rename_i hr
        obtain ⟨_, rfl⟩ := read_eq hr
        obtain ⟨r, _, h⟩ := om_eq h
        unfold found at h
        split at h <;> (cases h; exact Keep.read _ _)
      · cases h
    · cases h
  · cases h

theorem oMapUpdate_keep {t : Nat} {m k x : Operand} (h : oMapUpdate tab e t m k x s = some (v, s')) : Keep low0 s s' := by
  unfold oMapUpdate at h
  split at h
  · obtain ⟨_, _, h⟩ := ob_eq h
    obtain ⟨_, _, h⟩ := ob_eq h
    obtain ⟨_, _, h⟩ := ob_eq h
    obtain ⟨hl, h⟩ := sel_some h
    rw [Nat.ble_eq] at hl
    split at h
    · rename_i hr
      obtain ⟨hg, rfl⟩ := read_eq hr
      unfold mapPut at h
      split at h <;> (cases h; try exact Keep.rw hg hl)
    · cases h
  · cases h

theorem callV_keep (hc : CallKeep call) (hx : ExtKeep tab) {f : Nat} {args : List V} (h : callV tab call f args s = some (v, s')) : Keep low0 s s' := by
  unfold callV at h
  split at h
  · cases h; exact Keep.refl _ _
  · split at h
    · exact hc _ _ _ _ _ h
    · exact hx _ _ _ _ _ h

theorem evOp_keep (hc : CallKeep call) (hx : ExtKeep tab) {o : Op} (h : evOp tab call e o s = some (v, s')) : Keep low0 s s' := by
  unfold evOp at h
  split at h
  · obtain ⟨_, _, h⟩ := om_eq h; cases h; exact Keep.refl _ _
  · obtain ⟨_, _, h⟩ := om_eq h; cases h; exact Keep.refl _ _
  · unfold oPick at h
    split at h
    · obtain ⟨_, _, h⟩ := om_eq h; cases h; exact Keep.refl _ _
    · obtain ⟨_, _, h⟩ := om_eq h; cases h; exact Keep.refl _ _
    · cases h
  · obtain ⟨_, _, h⟩ := om_eq h; cases h; exact Keep.fresh _ _
  · obtain ⟨_, _, h⟩ := om_eq h; cases h; exact Keep.fresh _ _
  · unfold oBuild at h
    obtain ⟨_, _, h⟩ := ob_eq h
    obtain ⟨_, _, h⟩ := ob_eq h
    obtain ⟨_, _, h⟩ := om_eq h; cases h; exact Keep.refl _ _
  · unfold oBuildSlice at h
    obtain ⟨_, _, h⟩ := ob_eq h
    obtain ⟨_, _, h⟩ := ob_eq h
    obtain ⟨_, h⟩ := sel_some h
    obtain ⟨_, _, h⟩ := om_eq h; cases h; exact Keep.fresh _ _
  · exact oMapUpdate_keep h
  · exact oMapUpdate_keep h
  · unfold oLoad at h
    split at h
    · obtain ⟨u, cs, ext, ro, hg, h⟩ := cells_eq h
      obtain ⟨_, _, h⟩ := ob_eq h
      obtain ⟨_, _, h⟩ := om_eq h; cases h; exact Keep.read _ _
    · cases h
  · unfold oStore at h
    split at h
    · obtain ⟨_, _, h⟩ := ob_eq h
      obtain ⟨_, _, h⟩ := ob_eq h
      obtain ⟨u, cs, ext, ro, hg, h⟩ := cells_eq h
      obtain ⟨hc, h⟩ := sel_some h
      obtain ⟨_, _, h⟩ := om_eq h
      cases h
      simp only [Bool.and_eq_true] at hc
      exact Keep.rw hg (may_low hc.2)
    · cases h
  · unfold oNilCheck at h
    split at h <;> (cases h; try exact Keep.refl _ _)
  · unfold oBin at h
    obtain ⟨_, _, h⟩ := ob_eq h
    obtain ⟨_, _, h⟩ := ob_eq h
    rw [sel_eq] at h
    split at h
    · obtain ⟨_, _, h⟩ := om_eq h; cases h; exact Keep.refl _ _
    · obtain ⟨_, _, h⟩ := om_eq h; cases h; exact Keep.refl _ _
  · obtain ⟨_, _, h⟩ := ob_eq h
    obtain ⟨_, _, h⟩ := om_eq h; cases h; exact Keep.refl _ _
  · obtain ⟨_, _, h⟩ := ob_eq h
    exact convV_keep h
  · unfold oMakeInterface at h
    split at h
    · cases h
    · cases h
    · obtain ⟨_, _, h⟩ := om_eq h; cases h; exact Keep.refl _ _
    · cases h
  · unfold oMakeFunc at h
    split at h
    · obtain ⟨_, _, h⟩ := ob_eq h
      obtain ⟨_, _, h⟩ := om_eq h; cases h; exact Keep.refl _ _
    · cases h
  · unfold oMakeMap at h
    split at h
    · cases h; exact Keep.fresh _ _
    · split at h <;> (cases h; try exact Keep.fresh _ _)
  · unfold oMakeSlice at h
    obtain ⟨_, _, h⟩ := ob_eq h
    obtain ⟨_, _, h⟩ := ob_eq h
    obtain ⟨_, _, h⟩ := ob_eq h
    obtain ⟨_, _, h⟩ := ob_eq h
    obtain ⟨_, _, h⟩ := ob_eq h
    obtain ⟨_, h⟩ := sel_some h
    cases h; exact Keep.fresh _ _
  · unfold oSlice at h
    obtain ⟨_, _, h⟩ := ob_eq h
    obtain ⟨_, _, h⟩ := ob_eq h
    obtain ⟨_, _, h⟩ := ob_eq h
    obtain ⟨_, _, h⟩ := ob_eq h
    obtain ⟨_, _, h⟩ := ob_eq h
    obtain ⟨_, _, h⟩ := ob_eq h
    obtain ⟨_, _, h⟩ := ob_eq h
    exact slice_keep h
  · unfold oFieldAddr at h
    split at h
    · obtain ⟨_, _, h⟩ := ob_eq h
      split at h
      · obtain ⟨_, h⟩ := sel_none h
        cases h; exact Keep.refl _ _
      · cases h
    · cases h
  · unfold oField at h
    split at h
    · obtain ⟨_, _, h⟩ := ob_eq h
      obtain ⟨_, _, h⟩ := ob_eq h
      split at h
      · obtain ⟨_, _, h⟩ := om_eq h; cases h; exact Keep.refl _ _
      · cases h
    · cases h
  · unfold oIndexAddr at h
    obtain ⟨_, _, h⟩ := ob_eq h
    obtain ⟨_, _, h⟩ := ob_eq h
    split at h
    · obtain ⟨_, _, h⟩ := ob_eq h
      obtain ⟨_, h⟩ := sel_some h
      cases h; exact Keep.refl _ _
    · obtain ⟨_, _, h⟩ := ob_eq h
      obtain ⟨_, h⟩ := sel_some h
      cases h; exact Keep.refl _ _
    · cases h
  · unfold oIndex at h
    obtain ⟨_, _, h⟩ := ob_eq h
    obtain ⟨_, _, h⟩ := ob_eq h
    split at h
    · obtain ⟨_, _, h⟩ := ob_eq h
      obtain ⟨_, h⟩ := sel_some h
      obtain ⟨_, _, h⟩ := om_eq h; cases h; exact Keep.refl _ _
    · obtain ⟨_, _, h⟩ := om_eq h; cases h; exact Keep.refl _ _
    · cases h
  · exact oLookup_keep h
  · unfold oExtract at h
    split at h
    · obtain ⟨_, _, h⟩ := om_eq h; cases h; exact Keep.refl _ _
    · cases h
  · unfold oCall at h
    obtain ⟨_, _, h⟩ := ob_eq h
    split at h
    · exact builtinV_keep h
    · split at h
      · exact callV_keep hc hx h
      · cases h
    · cases h
  · cases h

end
end Go.Rv
