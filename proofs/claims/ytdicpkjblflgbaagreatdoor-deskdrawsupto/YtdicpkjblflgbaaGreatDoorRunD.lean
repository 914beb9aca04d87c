/-
  Single operations of the evaluator are those of the model: fields, indices, literals, copies. Conditions: those that each statement below names, and no other.
-/
import Derived.Test.YtdicpkjblflgbaaGreatDoorRunC
import Derived.Laws.Tables
import Derived.Lib.UnsafeStr
import Derived.Laws.Append
import Derived.Laws.AppendOwn
set_option linter.all false

/-
  Slices of strings, slices and arrays.
-/
namespace Go.Rv
open Go Go.RowKit
section
variable {P : Program} {tab : Tab} {D : Nat → Prop} {s s' : St} {μ : Mu} {e : Env} {nt : Nat} {a : Act} {w : World} {v : V} {o : Oper}

def NatVal (x : Option Value) : Option Nat → Prop
  | none => x = none
  | some n => ∃ k, x = some (.int k n)

theorem bounds_ok {b : Bool} {len cap : Nat} {lo hi mx : Option Value} {L H M : Option Nat} (hl : NatVal lo L) (hh : NatVal hi H) (hm : NatVal mx M)
    (h1 : L.getD 0 ≤ H.getD len) (h2 : H.getD len ≤ M.getD cap) (h3 : M.getD cap ≤ cap) (h4 : M = none ∨ H.isSome = true) :
    (Instr.sliceBounds b len cap lo hi mx).run P w = .ok (L.getD 0, H.getD len, M.getD cap) w := by
  have sb : ∀ (k : IntKind) (n y : Nat) (cd : BoundsCode), n ≤ y → (Instr.sliceBound (.int k (n : Int)) y cd).run P w = .ok n w := fun k n y cd h => by
    have := run_sliceBound (P := P) w k (n : Int) y cd (by omega) (by omega)
    simpa using this
  cases L <;> cases H <;> cases M <;> simp only [NatVal, Option.getD_some, Option.getD_none] at * <;> first
    | (exfalso; simp at h4; done)
    | (subst hl hh hm; simp [Instr.sliceBounds]; done)
    | (obtain ⟨k1, rfl⟩ := hl; subst hh hm; simp [Instr.sliceBounds, sb _ _ _ _ h1]; done)
    | (obtain ⟨k1, rfl⟩ := hh; subst hl hm; simp [Instr.sliceBounds, sb _ _ _ _ h2]; done)
    | (obtain ⟨k1, rfl⟩ := hl; obtain ⟨k2, rfl⟩ := hh; subst hm; simp [Instr.sliceBounds, sb _ _ _ _ h1, sb _ _ _ _ h2]; done)
    | (obtain ⟨k1, rfl⟩ := hh; obtain ⟨k2, rfl⟩ := hm; subst hl; simp [Instr.sliceBounds, sb _ _ _ _ h2, sb _ _ _ _ h3]; done)
    | (obtain ⟨k1, rfl⟩ := hl; obtain ⟨k2, rfl⟩ := hh; obtain ⟨k3, rfl⟩ := hm; simp [Instr.sliceBounds, sb _ _ _ _ h1, sb _ _ _ _ h2, sb _ _ _ _ h3]; done)

theorem natVal_ok (c : Cx P tab D s μ e nt a w) {x : Option Operand} {y : Option V} {n : Option Nat} (h1 : evOpt e x = some y) (h2 : optNat y = some n) : NatVal (x.map a.eval) n := by
  cases x with
  | none =>
    simp only [evOpt, Option.some.injEq] at h1
    subst h1
    simp only [optNat, Option.some.injEq] at h2
    subst h2
    simp [NatVal]
  | some x =>
    simp only [evOpt] at h1
    obtain ⟨u, hu, rfl⟩ := om_eq h1
    simp only [optNat] at h2
    obtain ⟨m, hm, rfl⟩ := om_eq h2
    obtain ⟨k, rfl⟩ := natOf_eq hm
    have := c.ev hu
    simp only [Rel] at this
    exact ⟨k, by simp [this]⟩

theorem extract_list (b : List UInt8) (l h : Nat) : (⟨b.toArray⟩ : ByteArray).extract l h = ⟨((b.drop l).take (h - l)).toArray⟩ := by
  apply ByteArray.ext
  rw [ByteArray.data_extract]
  apply Array.ext'
  simp [List.extract_eq_take_drop]

theorem elem_run (c : Cx P tab D s μ e nt a w) {t : Nat} {p : Nat × TI} (hp : elemOf tab t = some p) (X : Value) (lo hi mx : Option Value) :
    (Instr.sliceAt t X lo hi mx).run P w = (Instr.slice t X lo hi mx).run P w ∧ P.underlying t = some (.slice p.1) ∧ (sizeOf p.1).run P w = .ok p.2.size w := by
  obtain ⟨h1, h2⟩ := elemOf_eq c.ty hp
  exact ⟨by simp [Instr.sliceAt, run_underlying h1], h1, size_run h2 w⟩

theorem same_size {t esz : Nat} (h : sameSize tab t esz = true) : ∃ p, elemOf tab t = some p ∧ p.2.size = esz := by
  unfold sameSize at h
  split at h
  · rename_i p hp
    exact ⟨p, hp, Nat.eq_of_beq_eq_true h⟩
  · cases h

theorem slice_run {t u esz : Nat} {x : Option Addr} {len cap : Nat} {lo hi mx : Option Value} {L H M : Option Nat} (hu : P.underlying t = some (.slice u)) (hz : (sizeOf u).run P w = .ok esz w)
    (hl : NatVal lo L) (hh : NatVal hi H) (hm : NatVal mx M)
    (h1 : L.getD 0 ≤ H.getD len) (h2 : H.getD len ≤ M.getD cap) (h3 : M.getD cap ≤ cap) (h4 : M = none ∨ H.isSome = true) :
    (Instr.slice t (.slice x len cap) lo hi mx).run P w =
      .ok (.slice (if M.getD cap = L.getD 0 then x else x.map (·.add (L.getD 0 * esz))) (H.getD len - L.getD 0) (M.getD cap - L.getD 0)) w := by
  simp [Instr.slice, run_underlying hu, bounds_ok (P := P) (w := w) (b := true) hl hh hm h1 h2 h3 h4, hz]

theorem known_ok {n o len esz cp : Nat} {L H M : Option Nat} (h : slKnown n o len esz cp L H M s = some (v, s')) :
    s' = s ∧ v = .sl n (if M.getD cp = L.getD 0 then o else o + L.getD 0 * esz) (H.getD len - L.getD 0) esz (some (M.getD cp - L.getD 0)) ∧
      L.getD 0 ≤ H.getD len ∧ H.getD len ≤ M.getD cp ∧ M.getD cp ≤ cp ∧ (M = none ∨ H.isSome = true) := by
  unfold slKnown at h
  obtain ⟨hb, h1⟩ := sel_some h
  simp only [Bool.and_eq_true, Nat.ble_eq, Bool.or_eq_true, Option.isNone_iff_eq_none] at hb
  simp only [Option.some.injEq, Prod.mk.injEq] at h1
  obtain ⟨h2, h3⟩ := h1
  refine ⟨h3.symm, ?_, hb.1.1.1, hb.1.1.2, hb.1.2, hb.2⟩
  rw [← h2, sel_eq]
  simp

theorem sliceV_ok (c : Cx P tab D s μ e nt a w) {t : Nat} {x : V} {X : Value} {lo hi mx : Option Value} {L H M : Option Nat} (hX : Rel μ x X)
    (hl : NatVal lo L) (hh : NatVal hi H) (hm : NatVal mx M) (h : sliceV tab t x L H M s = some (v, s')) :
    Good D s s' μ w ((Instr.sliceAt t X lo hi mx).run P w) v := by
  unfold sliceV at h
  obtain ⟨ti, ht, h1⟩ := ob_eq h
  clear h
  revert h1
  split
  · rename_i b
    intro h1
    obtain ⟨hd, h2⟩ := sel_some h1
    unfold slStr at h2
    obtain ⟨hb, h3⟩ := sel_some h2
    cases h3
    simp only [Bool.and_eq_true, Nat.ble_eq, Option.isNone_iff_eq_none] at hb
    obtain ⟨⟨rfl, hb1⟩, hb2⟩ := hb
    simp only [Rel] at hX
    subst hX
    simp only [NatVal] at hm
    subst hm
    have hu := und_str (c.ty _ _ ht) hd
    have hbd := bounds_ok (P := P) (w := w) (b := false) (len := b.length) (cap := b.length) (mx := none) (M := none) hl hh rfl hb1 hb2 (Nat.le_refl _) (.inl rfl)
    refine c.good (X := .string _) ?_ (by simp only [Rel]; rfl)
    rw [← extract_list]
    have hsz : (⟨b.toArray⟩ : ByteArray).size = b.length := by
      show b.toArray.size = b.length
      simp
    simp [Instr.sliceAt, Instr.slice, run_underlying hu, hsz, hbd]
  · intro h1
    obtain ⟨hb, h2⟩ := sel_some h1
    cases h2
    simp only [Bool.and_eq_true, Nat.beq_eq, Bool.or_eq_true, Option.isNone_iff_eq_none, Option.isSome_iff_exists] at hb
    obtain ⟨⟨⟨⟨⟨p, hp⟩, hb1⟩, hb2⟩, hb3⟩, hb4⟩ := hb
    simp only [Rel] at hX
    subst hX
    obtain ⟨e1, e2, e3⟩ := elem_run c hp (.slice none 0 0) lo hi mx
    refine c.good (X := .slice none 0 0) ?_ (by simp only [Rel])
    rw [e1, slice_run e2 e3 hl hh hm (by omega) (by omega) (by omega) (by rcases hb4 with h | ⟨k, h⟩ <;> simp [h])]
    simp [hb1, hb2, hb3]
  · rename_i n k len esz cp
    intro h1
    obtain ⟨hz, h2⟩ := sel_some h1
    obtain ⟨p, hp, rfl⟩ := same_size hz
    obtain ⟨rfl, rfl, q1, q2, q3, q4⟩ := known_ok h2
    simp only [Rel] at hX
    obtain ⟨l, c', hl', rfl, hle, rfl⟩ := hX
    obtain ⟨e1, e2, e3⟩ := elem_run c hp (.slice (some ⟨l.blk, l.off + k, none⟩) len c') lo hi mx
    refine c.good (by rw [e1, slice_run e2 e3 hl hh hm q1 q2 q3 q4]) ?_
    simp only [Rel]
    refine ⟨l, _, hl', ?_, by omega, rfl⟩
    split <;> simp [add_plain, Nat.add_assoc]
  · rename_i n k len esz
    intro h1
    obtain ⟨hz, h2⟩ := sel_some h1
    obtain ⟨p, hp, rfl⟩ := same_size hz
    simp only [Rel] at hX
    obtain ⟨l, c', hl', rfl, hle, hsz, hpos⟩ := hX
    obtain ⟨e1, e2, e3⟩ := elem_run c hp (.slice (some ⟨l.blk, l.off + k, none⟩) len c') lo hi mx
    unfold slOpen at h2
    cases M with
    | some m =>
      obtain ⟨hb, h3⟩ := sel_some h2
      simp only [Bool.and_eq_true, Nat.ble_eq] at hb
      cases h3
      have hrun := slice_run (P := P) (w := w) (x := some ⟨l.blk, l.off + k, none⟩) (len := len) (cap := c') (M := some m) e2 e3 hl hh hm hb.1.1.1 hb.1.1.2 (Nat.le_trans hb.1.2 hle) (.inr hb.2)
      refine c.good (e1.trans hrun) ?_
      simp only [Rel, Option.getD_some]
      refine ⟨l, m - L.getD 0, hl', ?_, by omega, rfl⟩
      rw [sel_eq]
      simp only [Nat.beq_eq, Option.getD_some]
      split <;> simp [add_plain, Nat.add_assoc]
    | none =>
      obtain ⟨hb, h3⟩ := sel_some h2
      simp only [Bool.and_eq_true, Nat.ble_eq, Bool.or_eq_true, Nat.beq_eq, Nat.blt_eq] at hb
      cases h3
      have hrun := slice_run (P := P) (w := w) (x := some ⟨l.blk, l.off + k, none⟩) (len := len) (cap := c') (M := none) e2 e3 hl hh hm hb.1.1 (Nat.le_trans hb.1.2 hle) (Nat.le_refl _) (.inl rfl)
      refine c.good (e1.trans hrun) ?_
      simp only [Rel, Option.getD_none]
      refine ⟨l, c' - L.getD 0, hl', ?_, by omega, ?_, hpos⟩
      · split
        · rename_i hcl
          have h0 : L.getD 0 = 0 := by omega
          simp [h0]
        · simp [add_plain, Nat.add_assoc]
      · have : L.getD 0 ≤ c' := by omega
        rw [Nat.add_assoc, ← Nat.add_mul]
        rw [show L.getD 0 + (c' - L.getD 0) = c' by omega]
        exact hsz
  · rename_i n k
    split
    · rename_i cn u hd
      intro h1
      unfold slArr at h1
      obtain ⟨te, hte, h2⟩ := ob_eq h1
      obtain ⟨rfl, rfl, q1, q2, q3, q4⟩ := known_ok h2
      simp only [Rel] at hX
      obtain ⟨l, hl', rfl⟩ := hX
      have hu := arr_und (c.ty _ _ ht) hd
      refine c.good (X := .slice (if M.getD cn = L.getD 0 then some ⟨l.blk, l.off + k, none⟩ else some (Addr.add ⟨l.blk, l.off + k, none⟩ (L.getD 0 * te.size))) (H.getD cn - L.getD 0) (M.getD cn - L.getD 0)) ?_ ?_
      · simp [Instr.sliceAt, run_underlying hu, Instr.sureAddr, bounds_ok (P := P) (w := w) (b := false) hl hh hm q1 q2 q3 q4, size_run (c.ty _ _ hte)]
        split <;> simp
      · simp only [Rel]
        refine ⟨l, _, hl', ?_, by omega, rfl⟩
        split <;> simp [add_plain, Nat.add_assoc]
    · intro h1; cases h1
  · intro h1; cases h1

theorem oSlice_ok (c : Cx P tab D s μ e nt a w) {t : Nat} {x : Operand} {lo hi mx : Option Operand} (ho : o.op = .slice t x lo hi mx) (h : oSlice tab e t x lo hi mx s = some (v, s')) :
    Done D s s' μ w ((execOp a.eval o).run P w) v := by
  unfold oSlice at h
  obtain ⟨y, hy, h1⟩ := ob_eq h
  obtain ⟨l1, hl1, h2⟩ := ob_eq h1
  obtain ⟨l2, hl2, h3⟩ := ob_eq h2
  obtain ⟨k1, hk1, h4⟩ := ob_eq h3
  obtain ⟨k2, hk2, h5⟩ := ob_eq h4
  obtain ⟨m1, hm1, h6⟩ := ob_eq h5
  obtain ⟨m2, hm2, h7⟩ := ob_eq h6
  obtain ⟨μ', w', X, hr, hs, hv⟩ := sliceV_ok c (c.ev hy) (natVal_ok c hl1 hl2) (natVal_ok c hk1 hk2) (natVal_ok c hm1 hm2) h7
  exact ⟨μ', w', .value X, X, by simp [execOp, ho, hr], .inl rfl, hs, hv⟩

end
end Go.Rv

/-
  Composite values.
-/
namespace Go.Rv
open Go Go.RowKit
section
variable {P : Program} {tab : Tab} {D : Nat → Prop} {s s' : St} {μ : Mu} {e : Env} {nt : Nat} {a : Act} {w : World} {v : V} {o : Oper}

def setAll (off : Nat) (l : List (Value × Nat)) (C : Array Value) : Array Value := l.foldl (fun cs p => cs.setIfInBounds (off + p.2) p.1) C

theorem setAll_get (off : Nat) : ∀ (l : List Value) (k : Nat) (C : Array Value), (setAll off (l.zipIdx k) C).size = C.size ∧
    (off + k + l.length ≤ C.size → ∀ j, (setAll off (l.zipIdx k) C)[j]? = if off + k ≤ j ∧ j < off + k + l.length then l[j - (off + k)]? else C[j]?)
  | [], k, C => by
    refine ⟨rfl, fun _ j => ?_⟩
    rw [if_neg (by simp)]
    rfl
  | x :: l, k, C => by
    obtain ⟨h1, h2⟩ := setAll_get off l (k + 1) (C.setIfInBounds (off + k) x)
    have e : setAll off ((x :: l).zipIdx k) C = setAll off (l.zipIdx (k + 1)) (C.setIfInBounds (off + k) x) := rfl
    rw [e]
    refine ⟨by rw [h1]; simp, fun hl j => ?_⟩
    simp only [List.length_cons] at hl
    rw [h2 (by simp; omega) j]
    simp only [List.length_cons]
    by_cases hj : off + k = j
    · subst hj
      rw [if_neg (by omega), if_pos (by omega)]
      simp [show off + k < C.size by omega]
    · by_cases hr : off + (k + 1) ≤ j ∧ j < off + (k + 1) + l.length
      · rw [if_pos hr, if_pos (by omega), show j - (off + k) = (j - (off + (k + 1))) + 1 by omega]
        simp
      · rw [if_neg hr, if_neg (by omega), Array.getElem?_setIfInBounds_ne hj]

/-- Parts, each with its number. -/
def RelP (μ : Mu) : List (Nat × V) → List (Nat × Value) → Prop
  | [], qs => qs = []
  | (i, v) :: ps, qs => ∃ X r, qs = (i, X) :: r ∧ Rel μ v X ∧ RelP μ ps r

theorem fill_ok {place place' : Nat → Option (Nat × Nat)} (hp : ∀ i p, place i = some p → place' i = some p) :
    ∀ {ps : List (Nat × V)} {qs : List (Nat × Value)} {cs cs' : List V} {C : Array Value}, RelP μ ps qs → RelL μ cs C.toList → fillV place cs ps = some cs' →
      ∃ C', Instr.fill place' C qs = some C' ∧ RelL μ cs' C'.toList
  | [], qs, cs, cs', C, hq, hc, h => by
    simp only [RelP] at hq
    subst hq
    unfold fillV at h
    cases h
    exact ⟨C, rfl, hc⟩
  | (i, v) :: ps, qs, cs, cs', C, hq, hc, h => by
    simp only [RelP] at hq
    obtain ⟨X, r, rfl, hX, hr⟩ := hq
    unfold fillV at h
    revert h
    split
    · intro h; cases h
    · rename_i off size hpl
      intro h
      obtain ⟨hb, h1⟩ := sel_some h
      clear h
      simp only [Bool.and_eq_true, Nat.beq_eq, Nat.ble_eq] at hb
      revert h1
      split
      · rename_i cs2 hput
        intro h1
        have hcx := cells_rel hX
        have hlen : v.cells.length = X.cells.size := by have := hcx.length; simpa using this.symm
        obtain ⟨p1, p2, p3⟩ := putAt_eq hput
        have hne : v.cells ≠ [] := by intro h0; rw [h0] at hb; simp at hb; omega
        have hin := p1 hne
        have hcl : cs.length = C.size := by have := hc.length; simpa using this.symm
        obtain ⟨q1, q2⟩ := setAll_get off X.cells.toList 0 C
        have q3 := q2 (by simp; omega)
        have hrel : RelL μ cs2 (setAll off (X.cells.toList.zipIdx 0) C).toList := by
          refine RelL.of_get (by simp [q1, p2, hcl]) fun j u hj => ?_
          rw [p3 j] at hj
          have q4 := q3 j
          simp only [Nat.add_zero, Array.length_toList] at q4
          simp only [Array.getElem?_toList, q4]
          by_cases hj2 : off ≤ j ∧ j < off + v.cells.length
          · rw [if_pos hj2] at hj
            rw [if_pos (by omega)]
            obtain ⟨Y, hY, hu⟩ := hcx.get hj
            exact ⟨Y, by simpa using hY, hu⟩
          · rw [if_neg hj2] at hj
            rw [if_neg (by omega)]
            obtain ⟨Y, hY, hu⟩ := hc.get hj
            exact ⟨Y, by simpa using hY, hu⟩
        obtain ⟨C', hC, hc'⟩ := fill_ok hp hr hrel h1
        refine ⟨C', ?_, hc'⟩
        unfold Instr.fill
        simp only [hp _ _ hpl]
        rw [if_neg (by
          simp only [Bool.or_eq_true, decide_eq_true_eq, ne_eq, not_or, Decidable.not_not]
          exact ⟨by omega, by omega⟩)]
        rw [← hC]
        congr 1
        rw [← Array.foldl_toList, Array.toList_zipIdx]
        rfl
      · intro h1; cases h1

theorem evParts_ok (c : Cx P tab D s μ e nt a w) : ∀ {l : List (Nat × Operand)} {ps : List (Nat × V)}, evParts e l = some ps → RelP μ ps (l.map fun p => (p.1, a.eval p.2))
  | [], ps, h => by
    unfold evParts at h; cases h; simp [RelP]
  | (i, x) :: l, ps, h => by
    unfold evParts at h
    obtain ⟨u, hu, h1⟩ := ob_eq h
    obtain ⟨us, hus, rfl⟩ := om_eq h1
    simp only [RelP]
    exact ⟨_, _, rfl, c.ev hu, evParts_ok c hus⟩

theorem map_range0 (f : Nat → Value) : (Array.range 0).map f = #[] := by simp

theorem parts_eq (parts : Array (Nat × Operand)) (f : Operand → Value) : (parts.map fun p => (p.1, f p.2)).toList = parts.toList.map fun p => (p.1, f p.2) := by simp

theorem oBuildSlice_ok (c : Cx P tab D s μ e nt a w) {t len : Nat} {parts : Array (Nat × Operand)} (ho : o.op = .buildSlice t len parts)
    (h : oBuildSlice tab e t len parts s = some (v, s')) (hF : ∀ n, s.next ≤ n → n < s'.next → μ n = none) :
    Done D s s' μ w ((execOp a.eval o).run P w) v := by
  unfold oBuildSlice at h
  obtain ⟨p, hp, h1⟩ := ob_eq h
  obtain ⟨ps, hps, h2⟩ := ob_eq h1
  obtain ⟨hb, h3⟩ := sel_some h2
  obtain ⟨cs, hcs, h4⟩ := om_eq h3
  clear h h1 h2 h3
  cases h4
  simp only [Nat.ble_eq] at hb
  obtain ⟨hu, ht⟩ := elemOf_eq c.ty hp
  obtain ⟨z, hz, hr⟩ := zero_run ht μ w
  have hlen : p.2.zero.length = z.cells.size := by have := hr.length; simpa using this.symm
  have hz0 := ht.zlen
  have hrel : RelL μ (rep p.2.zero len) ((Array.range (len * p.2.size)).map (z.cells[· % z.cells.size]!)).toList := by
    have := rep_rel hr len
    rw [hz0] at this
    simpa using this
  obtain ⟨C', hC, hc'⟩ := fill_ok (fun _ _ h => h) (evParts_ok c hps) hrel hcs
  have hst := c.allocL (u := p.1) (fresh_free hF) hc'
  refine ⟨_, _, _, .slice (some ⟨w.heap.size, 0, none⟩) len len, ?_, .inl rfl, hst, ?_⟩
  · have hnot : ¬ (len * p.2.size > 2 ^ 24) := by omega
    simp only [execOp, ho, Instr.buildSlice, Sem.run_bind, run_underlying hu, size_run ht, Result.andThen_ok, if_neg hnot]
    rw [parts_eq]
    by_cases hn : len * p.2.size = 0
    · rw [if_pos hn]
      have hC0 : Instr.fill (fun i => some (i * p.2.size, p.2.size)) ((Array.range (len * p.2.size)).map (fun x => (#[] : Array Value)[x % (#[] : Array Value).size]!)) (parts.toList.map fun q => (q.1, a.eval q.2)) = some C' := by
        rw [← hC, hn, map_range0, map_range0]
      simp only [Sem.run_bind, Sem.run_pure, Result.andThen_ok, hC0]
      simp [newRow]
    · rw [if_neg hn]
      simp only [Sem.run_bind, Sem.run_pure, Result.andThen_ok, hz, hC]
      simp [newRow]
  · simp only [Rel]
    exact ⟨_, len, Mu.add_same _ _ _, rfl, Nat.le_refl _, rfl⟩

end
end Go.Rv

/-
  Struct and array literals.
-/
namespace Go.Rv
open Go Go.RowKit
section
variable {P : Program} {tab : Tab} {D : Nat → Prop} {s s' : St} {μ : Mu} {e : Env} {nt : Nat} {a : Act} {w : World} {v : V} {o : Oper}

theorem places_total : ∀ {fs : List Field}, (∀ f ∈ fs, ∃ i, P.info? f.type = some i) →
    ∃ pl, fs.mapM (fun f => (P.info? f.type).map fun i => (f.offset, i.size)) = some pl ∧
      ∀ (k : Nat) (f : Field) (i : TypeInfo), fs[k]? = some f → P.info? f.type = some i → pl[k]? = some (f.offset, i.size)
  | [], _ => ⟨[], by simp, fun k f i h => by simp at h⟩
  | g :: fs, h => by
    obtain ⟨i, hi⟩ := h g (List.mem_cons_self ..)
    obtain ⟨pl, h1, h2⟩ := places_total (fs := fs) fun f hf => h f (List.mem_cons_of_mem _ hf)
    refine ⟨(g.offset, i.size) :: pl, by simp [List.mapM_cons, hi, h1], fun k f j hk hj => ?_⟩
    cases k with
    | zero =>
      simp at hk; subst hk
      rw [hi] at hj; cases hj
      rfl
    | succ k =>
      simp at hk
      simpa using h2 k f j hk hj

theorem built_ok (c : Cx P tab D s μ e nt a w) {t : Nat} {ti : TI} {ps : List (Nat × V)} {qs : List (Nat × Value)} {cs : List V} (ht : tab.ty t = some ti) (hq : RelP μ ps qs)
    (h : buildV tab ti ps = some cs) : ∃ C, P.built t qs = some C ∧ RelL μ cs C.toList := by
  have hk := c.ty _ _ ht
  obtain ⟨i, z, hi, _, _, hz, hr⟩ := hk.info
  have hr := hr.mono (Mu.none_le μ)
  unfold buildV at h
  revert h
  split
  · rename_i fs hd
    intro h
    obtain ⟨d, hu, hdr⟩ := hk.und
    rw [hd] at hdr
    simp only [DRel] at hdr
    obtain ⟨fields, rfl, hfs⟩ := hdr
    obtain ⟨pl, h1, h2⟩ := places_total (P := P) (fs := fields.toList) fun f hf =>
      hk.fields fs hd (f.offset, f.type) (by rw [hfs]; exact List.mem_map.2 ⟨f, hf, rfl⟩)
    obtain ⟨C, hC, hc⟩ := fill_ok (place' := (pl.toArray[·]?)) (fun k p hp => by
      unfold fieldAt at hp
      obtain ⟨q, hq1, hq2⟩ := ob_eq hp
      obtain ⟨tu, htu, rfl⟩ := om_eq hq2
      rw [hfs, List.getElem?_map] at hq1
      obtain ⟨f, hf, rfl⟩ := Option.map_eq_some_iff.1 hq1
      obtain ⟨j, _, hj, hsz, _⟩ := (c.ty _ _ htu).info
      have := h2 k f j hf hj
      simp only [List.getElem?_toArray, this, hsz]) hq hr h
    refine ⟨C, ?_, hc⟩
    unfold Program.built
    simp only [hi, hu, hz, h1]
    exact hC
  · rename_i n u hd
    intro h
    obtain ⟨tu, htu, h1⟩ := ob_eq h
    have hu := arr_und hk hd
    obtain ⟨j, _, hj, hsz, _⟩ := (c.ty _ _ htu).info
    obtain ⟨C, hC, hc⟩ := fill_ok (fun _ _ h => h) hq hr h1
    refine ⟨C, ?_, hc⟩
    unfold Program.built
    simp only [hi, hu, hz, hj, hsz]
    exact hC
  · intro h; cases h

theorem oBuild_ok (c : Cx P tab D s μ e nt a w) {t : Nat} {parts : Array (Nat × Operand)} (ho : o.op = .build t parts)
    (h : oBuild tab e t parts s = some (v, s')) : Done D s s' μ w ((execOp a.eval o).run P w) v := by
  unfold oBuild at h
  obtain ⟨ti, ht, h1⟩ := ob_eq h
  obtain ⟨ps, hps, h2⟩ := ob_eq h1
  obtain ⟨cs, hcs, h3⟩ := om_eq h2
  cases h3
  obtain ⟨C, hC, hc⟩ := built_ok c ht (evParts_ok c hps) hcs
  have hrun := run_build (P := P) w t (parts.map fun p => (p.1, a.eval p.2)) C (by rw [parts_eq]; exact hC)
  refine c.val (X := .agg C) ?_ (by simp only [Rel]; exact ⟨C.toList, rfl, hc⟩)
  simp only [execOp, ho, Sem.run_bind, Sem.run_pure]
  rw [hrun]
  rfl

end
end Go.Rv

/-
  Small builtins.
-/
namespace Go.Rv
open Go Go.RowKit
section
variable {P : Program} {tab : Tab} {D : Nat → Prop} {s s' : St} {μ : Mu} {e : Env} {nt : Nat} {a : Act} {w : World} {v : V} {o : Oper}

theorem dataV_ok (c : Cx P tab D s μ e nt a w) {ty : Nat} {ats : Array Nat} {x : V} {X : Value} (hX : Rel μ x X) (h : dataV x s = some (v, s')) :
    Good D s s' μ w ((Builtin.unsafeSliceData_ ats ty #[X]).run P w) v := by
  unfold dataV at h
  revert h
  split
  · intro h
    cases h
    simp only [Rel] at hX
    subst hX
    exact c.good (X := .pointer none) (by rfl) (by simp only [Rel])
  · rename_i n k len esz cap
    intro h
    cases h
    simp only [Rel] at hX
    obtain ⟨l, c', hl, rfl, hle, _⟩ := hX
    have hne : c' ≠ 0 := by omega
    have hr : ∀ (A : Addr) (n : Nat), Builtin.unsafeSliceData_ ats ty #[.slice (some A) n c'] =
        (if c' ≠ 0 then pure (.pointer (some A)) else do if (← viewAt A.block).isSome then pure (.pointer (some A)) else pure (.pointer (some ⟨← newObj (.view A (← Go.elemOf ty)), 0, none⟩))) := fun _ _ => rfl
    exact c.good (X := .pointer (some ⟨l.blk, l.off + k, none⟩)) (by rw [hr, if_pos hne]; simp) (by simp only [Rel]; exact ⟨l, hl, rfl⟩)
  · intro h; cases h

theorem maxL_ok : ∀ {l : List V} {x : V} {xs : List Value} {X : Value}, Rel μ x X → RelL μ l xs → maxV x l = some v → ∃ Y, (xs.foldlM Builtin.max2 X).run P w = .ok Y w ∧ Rel μ v Y
  | [], x, xs, X, hx, hl, h => by
    simp only [RelL] at hl
    subst hl
    unfold maxV at h
    cases h
    exact ⟨X, by simp, hx⟩
  | y :: l, x, xs, X, hx, hl, h => by
    simp only [RelL] at hl
    obtain ⟨Y, ys, rfl, hy, hl⟩ := hl
    unfold maxV at h
    revert h
    split
    · rename_i heq; cases heq
    · rename_i k p k' q l' heq
      cases heq
      intro h
      obtain ⟨hk, h1⟩ := sel_some h
      simp only [Rel] at hx hy
      subst hx hy
      obtain ⟨Z, hz, hr⟩ := maxL_ok (X := .int k (if q > p then q else p)) (by simp only [Rel]) hl h1
      exact ⟨Z, by simp [Builtin.max2, hz], hr⟩
    · intro h; cases h

theorem minL_ok : ∀ {l : List V} {x : V} {xs : List Value} {X : Value}, Rel μ x X → RelL μ l xs → minV x l = some v → ∃ Y, (xs.foldlM Builtin.min2 X).run P w = .ok Y w ∧ Rel μ v Y
  | [], x, xs, X, hx, hl, h => by
    simp only [RelL] at hl
    subst hl
    unfold minV at h
    cases h
    exact ⟨X, by simp, hx⟩
  | y :: l, x, xs, X, hx, hl, h => by
    simp only [RelL] at hl
    obtain ⟨Y, ys, rfl, hy, hl⟩ := hl
    unfold minV at h
    revert h
    split
    · rename_i heq; cases heq
    · rename_i k p k' q l' heq
      cases heq
      intro h
      obtain ⟨hk, h1⟩ := sel_some h
      simp only [Rel] at hx hy
      subst hx hy
      obtain ⟨Z, hz, hr⟩ := minL_ok (X := .int k (if q < p then q else p)) (by simp only [Rel]) hl h1
      exact ⟨Z, by simp [Builtin.min2, hz], hr⟩
    · intro h; cases h

end
end Go.Rv

/-
  Bytes read out of cells.
-/
namespace Go.Rv
open Go Go.RowKit
section
variable {P : Program} {tab : Tab} {D : Nat → Prop} {s s' : St} {μ : Mu} {e : Env} {nt : Nat} {a : Act} {w : World} {v : V} {o : Oper}

theorem add_add (A : Addr) (j : Nat) : (A.add 1).add j = A.add (j + 1) := by
  unfold Addr.add
  by_cases hj : j = 0
  · subst hj; simp
  · simp [hj]; omega

theorem bytesOf_cons {x : V} {vs : List V} {b : List UInt8} (h : bytesOf (x :: vs) = some b) : ∃ n b', x = .int .u8 n ∧ bytesOf vs = some b' ∧ b = UInt8.ofNat n.toNat :: b' := by
  unfold bytesOf at h
  split at h
  · rename_i heq; cases heq
  · rename_i n l heq
    cases heq
    obtain ⟨b', h1, rfl⟩ := om_eq h
    exact ⟨n, b', rfl, h1, rfl⟩
  · cases h

theorem loadBytes_ok : ∀ {vs : List V} {b : List UInt8} {A : Addr} {acc : ByteArray}, bytesOf vs = some b →
    (∀ (j : Nat) (v : V), vs[j]? = some v → ∃ X, w.cell? (A.add j) = some X ∧ Rel μ v X) →
    (loadBytes A acc vs.length).run P w = .ok ⟨acc.data ++ b.toArray⟩ w
  | [], b, A, acc, h, _ => by
    unfold bytesOf at h; cases h
    simp [loadBytes]
  | x :: vs, b, A, acc, h, hc => by
    obtain ⟨n, b', rfl, h1, rfl⟩ := bytesOf_cons h
    obtain ⟨X, hX, hr⟩ := hc 0 _ rfl
    simp only [Rel] at hr
    subst hr
    have h0 : w.cell? A = some (.int .u8 n) := by simpa [Addr.add] using hX
    have ih := loadBytes_ok (A := A.add 1) (acc := acc.push n.toNat.toUInt8) h1 fun j v hj => by
      rw [add_add]; exact hc (j + 1) v (by simpa using hj)
    simp only [List.length_cons, loadBytes, Sem.run_bind, run_load, h0, Result.andThen]
    rw [ih]
    congr 1
    apply ByteArray.ext
    simp [ByteArray.push, Nat.toUInt8]

end
end Go.Rv

/-
  The cells of a source: slices and strings.
-/
namespace Go.Rv
open Go Go.RowKit
section
variable {P : Program} {tab : Tab} {D : Nat → Prop} {s s' : St} {μ : Mu} {e : Env} {nt : Nat} {a : Act} {w : World} {v : V} {o : Oper}

theorem Cx.acc (c : Cx P tab D s μ e nt a w) (m : Nat) : Cx P tab D { s with acc := m } μ e nt a w := ⟨c.ty, c.env, c.glob, c.bnd, c.ok⟩

theorem byteCells_rel : ∀ (b : List UInt8), RelL μ (byteCells b) (b.map fun x => Value.int .u8 x.toNat)
  | [] => RelL.nil
  | x :: b => RelL.cons (by simp [Rel]) (byteCells_rel b)

theorem slCells_take {cs l : List V} {k n m : Nat} (h : slCells cs k n = some l) (hm : m ≤ n) : slCells cs k m = some (l.take m) := by
  obtain ⟨h1, h2⟩ := sel_some h
  cases h2
  have h3 : ((cs.drop k).take n).length = n := by simpa [Nat.beq_eq] using h1
  have e : ((cs.drop k).take n).take m = (cs.drop k).take m := by rw [List.take_take, Nat.min_eq_left hm]
  unfold slCells
  rw [e]
  have h4 : ((cs.drop k).take m).length = m := by
    rw [List.length_take] at h3 ⊢
    omega
  rw [h4]
  simp [sel_eq]

def Src (D : Nat → Prop) (P : Program) (μ : Mu) (w : World) (s s1 : St) (esz n : Nat) (new : List V) (X : Value) : Prop :=
  (s1 = s ∨ ∃ i, s1 = { s with acc := s.acc ||| 2 ^ i }) ∧
  ((∀ i, s1.acc.testBit i = true → i < s.next → D i) → ∀ w1 : World, w1.heap = w.heap →
    (Builtin.lenOf X).run P w1 = .ok n w1 ∧ new.length = n * esz ∧ ∀ m, m ≤ n → ∃ xs, (Builtin.firstCells esz m X).run P w1 = .ok ⟨xs⟩ w1 ∧ RelL μ (new.take (m * esz)) xs)

theorem src_ok (c : Cx P tab D s μ e nt a w) {α : Type} {esz : Nat} {x : V} {X : Value} {k : Nat → List V → St → Option α} {r : α} (hX : Rel μ x X)
    (h : srcCells esz s x k = some r) : ∃ n new s1, k n new s1 = some r ∧ Src D P μ w s s1 esz n new X := by
  unfold srcCells at h
  revert h
  split
  · intro h
    simp only [Rel] at hX
    subst hX
    exact ⟨0, [], s, h, .inl rfl, fun _ w1 _ => ⟨by simp [Builtin.lenOf], by simp, fun m hm => ⟨[], by simp [Builtin.firstCells], by simp [RelL]⟩⟩⟩
  · rename_i b
    intro h
    obtain ⟨h1, h2⟩ := sel_some h
    simp only [Nat.beq_eq] at h1
    subst h1
    simp only [Rel] at hX
    subst hX
    refine ⟨_, _, s, h2, .inl rfl, fun _ w1 _ => ⟨?_, by simp [byteCells], fun m hm => ?_⟩⟩
    · have hsz : (⟨b.toArray⟩ : ByteArray).size = b.length := by show b.toArray.size = b.length; simp
      simp [Builtin.lenOf, hsz]
    · refine ⟨(b.take m).map fun x => Value.int .u8 x.toNat, ?_, ?_⟩
      · simp only [Builtin.firstCells, extract_list]
        simp
      · have : (byteCells b).take (m * 1) = byteCells (b.take m) := by simp [byteCells, List.map_take]
        rw [this]
        exact byteCells_rel _
  · rename_i n k0 len e1 cap
    intro h
    obtain ⟨u, cs, ext, ro, hg, h1⟩ := cells_eq h
    obtain ⟨l0, hl0, h2⟩ := ob_eq h1
    simp only [Rel] at hX
    obtain ⟨l, c', hl, rfl, hle, _⟩ := hX
    refine ⟨len, l0, _, h2, .inr ⟨n, rfl⟩, fun hA w1 hw1 => ?_⟩
    obtain ⟨_, l', hl', hb⟩ := c.at_ (s' := { s with acc := s.acc ||| 2 ^ n }) hg (acc_bit s n) hA
    rw [hl] at hl'; cases hl'
    have hb := hb.congr (w' := w1) (Mu.le_refl μ) (by rw [hw1])
    refine ⟨by simp [Builtin.lenOf], (slCells_eq hl0).1, fun m hm => ?_⟩
    obtain ⟨xs, h3, h4, _⟩ := loadCells_ok (P := P) hb (slCells_take hl0 (Nat.mul_le_mul_right esz hm))
    exact ⟨xs, by simp [Builtin.firstCells, h3], h4⟩
  · intro h; cases h

end
end Go.Rv

/-
  copy.
-/
namespace Go.Rv
open Go Go.RowKit
section
variable {P : Program} {tab : Tab} {D : Nat → Prop} {s s' : St} {μ : Mu} {e : Env} {nt : Nat} {a : Act} {w : World} {v : V} {o : Oper}

theorem src_step (c : Cx P tab D s μ e nt a w) {s1 : St} (h : s1 = s ∨ ∃ i, s1 = { s with acc := s.acc ||| 2 ^ i }) : Step low0 D s s1 μ μ w w ∧ Cx P tab D s1 μ e nt a w ∧ s1.next = s.next ∧ s1.heap = s.heap ∧
    (∀ i, s.acc.testBit i = true → s1.acc.testBit i = true) := by
  rcases h with rfl | ⟨i, rfl⟩
  · exact ⟨c.same, c, rfl, rfl, fun _ h => h⟩
  · exact ⟨c.read i, c.acc _, rfl, rfl, fun _ h => testBit_lor_pow.2 (.inl h)⟩

theorem copyV_ok (c : Cx P tab D s μ e nt a w) {t ty : Nat} {ats : Array Nat} {d x : V} {Y X : Value} (ha : ats[0]? = some t) (hY : Rel μ d Y) (hX : Rel μ x X)
    (h : copyV tab t d x s = some (v, s')) (hA : ∀ n, s'.acc.testBit n = true → n < s.next → D n) :
    Good D s s' μ w ((Builtin.copy_ ats ty #[Y, X]).run P w) v := by
  unfold copyV at h
  obtain ⟨p, hp, h1⟩ := ob_eq h
  clear h
  obtain ⟨hu, ht⟩ := elemOf_eq c.ty hp
  obtain ⟨k, new, s1, h2, hs1, hsrc⟩ := src_ok c hX h1
  clear h1
  obtain ⟨st1, c1, hn1, hh1, hacc1⟩ := src_step c hs1
  revert h2
  split
  · intro h2
    cases h2
    obtain ⟨q1, q2, q3⟩ := hsrc hA w rfl
    obtain ⟨xs, q4, q5⟩ := q3 0 (Nat.zero_le _)
    simp only [Rel] at hY
    subst hY
    refine ⟨μ, w, goInt 0, ?_, st1, by simp [Rel, goInt]⟩
    simp [Builtin.copy_, ha, run_underlying hu, q1, size_run ht, q4]
  · rename_i n k0 len e1 cap
    intro h2
    obtain ⟨u, cs, ext, ro, hg, h3⟩ := cells_eq h2
    obtain ⟨hm, h4⟩ := sel_some h3
    obtain ⟨cs', hput, h5⟩ := om_eq h4
    clear h2 h3 h4
    cases h5
    obtain ⟨rfl, hlow, hone⟩ := may_eq hm
    have hA1 : ∀ i, s1.acc.testBit i = true → i < s.next → D i := fun i hi hlt => hA i (testBit_lor_pow.2 (.inl (testBit_lor_pow.2 (.inl hi)))) hlt
    obtain ⟨q1, q2, q3⟩ := hsrc hA1 w rfl
    obtain ⟨xs, q4, q5⟩ := q3 (Nat.min k len) (Nat.min_le_left _ _)
    simp only [Rel] at hY
    obtain ⟨l, c', hl, rfl, hle, _⟩ := hY
    obtain ⟨hD, l', hl', hb⟩ := c1.at_ hg (s' := _) (testBit_lor_pow.2 (.inl (acc_bit s1 n))) (by rw [hn1]; exact hA)
    rw [hl] at hl'; cases hl'
    have hone' : (new.take (Nat.min k len * p.2.size)).all V.one = true := by
      rw [List.all_eq_true] at hone ⊢
      exact fun y hy => hone y (List.mem_of_mem_take hy)
    obtain ⟨w', r1, r2, r3⟩ := put_ok (P := P) hb hput q5 hone'
    refine ⟨μ, w', goInt (Nat.min k len), ?_, st1.trans ?_, by simp [Rel, goInt]⟩
    · have r1' : (storeCells ⟨l.blk, l.off + k0, none⟩ xs).run P w = .ok () w' := r1
      simp [Builtin.copy_, ha, run_underlying hu, q1, size_run ht, q4, r1']
    · have e : (fun n => D n ∨ s.next ≤ n ∧ n < s1.next) = D := by
        funext n
        rw [hn1]
        exact propext ⟨fun h => h.elim id (fun h => absurd h.2 (by omega)), .inl⟩
      rw [e]
      exact c1.write hD hlow hg hl r2 r3
  · intro h2; cases h2

end
end Go.Rv

/-
  append.
-/
namespace Go.Rv
open Go Go.RowKit
section
variable {P : Program} {tab : Tab} {D : Nat → Prop} {s s' : St} {μ : Mu} {e : Env} {nt : Nat} {a : Act} {w : World} {v : V} {o : Oper}

theorem seq_ty (hty : ∀ t ti, tab.ty t = some ti → TyOk P t ti) {u : Nat} (h : seqTy tab u = true) : P.underlying u = some .string ∨ ∃ k, P.underlying u = some (.slice k) := by
  unfold seqTy at h
  split at h
  · rename_i ti ht
    rcases Bool.or_eq_true _ _ ▸ h with h | h
    · exact .inl (und_str (hty _ _ ht) h)
    · exact .inr (und_slice (hty _ _ ht) h)
  · cases h

theorem app_room {t u el ty : Nat} {ats : Array Nat} {ti : TI} {X : Value} {A : Addr} {sLen sCap n : Nat} {xs : List Value} {w' : World} (h0 : ats[0]? = some t) (h1 : ats[1]? = some u)
    (hu : P.underlying u = some .string ∨ ∃ k, P.underlying u = some (.slice k)) (ht : P.underlying t = some (.slice el)) (hti : TyOk P el ti)
    (hl : (Builtin.lenOf X).run P w = .ok n w) (hf : (Builtin.firstCells ti.size n X).run P w = .ok ⟨xs⟩ w) (hr : sLen + n ≤ sCap)
    (hs : (storeCells (A.add (sLen * ti.size)) xs).run P w = .ok () w') :
    (Builtin.append_ ats ty #[.slice (some A) sLen sCap, X]).run P w = .ok (.slice (some A) (sLen + n) sCap) w' := by
  rcases hu with hu | ⟨k, hu⟩ <;>
    simp [Builtin.append_, h0, h1, run_underlying ht, run_underlying hu, size_run hti, hl, hr, hf, hs]

theorem app_new {t u el ty : Nat} {ats : Array Nat} {ti : TI} {X : Value} {base : Option Addr} {sLen sCap n : Nat} {xs ys : List Value} (h0 : ats[0]? = some t) (h1 : ats[1]? = some u)
    (hu : P.underlying u = some .string ∨ ∃ k, P.underlying u = some (.slice k)) (ht : P.underlying t = some (.slice el)) (hti : TyOk P el ti)
    (hl : (Builtin.lenOf X).run P w = .ok n w) (hf : (Builtin.firstCells ti.size n X).run P w.drew = .ok ⟨xs⟩ w.drew)
    (ho : (Builtin.firstCells ti.size sLen (.slice base sLen sCap)).run P w.drew = .ok ⟨ys⟩ w.drew)
    (hr : sCap < sLen + n) (hM : sLen + n ≤ 1000000) (hB : ti.bytes ≤ 1000) :
    ∃ z : Value, RelL (fun _ => none) ti.zero z.cells.toList ∧
    (Builtin.append_ ats ty #[.slice base sLen sCap, X]).run P w =
      .ok (.slice (some ⟨w.heap.size, 0, none⟩) (sLen + n) (grownCap w (sLen + n) sCap el))
        (w.drew.alloc (.cells (ys.toArray ++ xs.toArray ++ Builtin.zeroCells z.cells (grownCap w (sLen + n) sCap el - (sLen + n))) el)) := by
  obtain ⟨i, z, hi, hsz, hby, hz, hrel⟩ := hti.info
  refine ⟨z, hrel, ?_⟩
  have hn : ¬ (sLen + n ≤ sCap) := by omega
  have h63' : ¬ (9223372036854775807 < ((sLen : Int) + (n : Int))) := by omega
  have hmul : (sLen + n) * i.bytes ≤ 1000000 * 1000 := Nat.mul_le_mul hM (by omega)
  have h48 := growslice_fits (need := sLen + n) (old := sCap) (bytes := i.bytes) hr (by omega)
  have h48' : ¬ (281474976710656 < Builtin.nextslicecap (sLen + n) sCap * i.bytes) := by omega
  rw [← hsz] at hf ho
  have hA : (⟨ys⟩ : Array Value) = ys.toArray := rfl
  have hB' : (⟨xs⟩ : Array Value) = xs.toArray := rfl
  rw [hA] at ho
  rw [hB'] at hf
  rcases hu with hu | ⟨k, hu⟩ <;>
    simp [Builtin.append_, h0, h1, run_underlying ht, run_underlying hu, sizeOf, typeInfo, zeroValue, hi, hz, hl, hn, h63', h48', Question.forced, hf, ho, newRow, grownCap] <;>
    (congr 2; apply Array.ext'; simp [List.append_assoc])

end
end Go.Rv

/-
  append, the abstract side.
-/
namespace Go.Rv
open Go Go.RowKit
section
variable {P : Program} {tab : Tab} {D : Nat → Prop} {s s' : St} {μ : Mu} {e : Env} {nt : Nat} {a : Act} {w : World} {v : V} {o : Oper}

/-- A new row: what was there, what comes, and room of which nothing is said. -/
theorem Cx.fresh_row (c : Cx P tab D s μ e nt a w) {el esz need cap : Nat} {old new : List V} {ys xs : List Value} {z : Array Value} {r : Result Value} (hF : μ s.next = none)
    (ho : RelL μ old ys) (hn : RelL μ new xs) (hlen : (old ++ new).length = need * esz) (hz : z.size = esz) (h0 : 0 < esz) (hc : need ≤ cap)
    (hr : r = .ok (.slice (some ⟨w.heap.size, 0, none⟩) need cap) (w.drew.alloc (.cells (ys.toArray ++ xs.toArray ++ Builtin.zeroCells z (cap - need)) el))) :
    Good D s (s.fresh (.cells el (old ++ new) true false)) μ w r (.sl s.next 0 need esz none) := by
  have h1 := ho.length
  have h2 := hn.length
  have hsz : (ys.toArray ++ xs.toArray ++ Builtin.zeroCells z (cap - need)).size = cap * esz := by
    rw [Array.size_append, Array.size_append, size_zeroCells, hz]
    simp only [List.size_toArray]
    have : ys.length + xs.length = need * esz := by
      rw [List.length_append] at hlen
      omega
    rw [this, ← Nat.add_mul]
    congr 1
    omega
  have hle : need * esz ≤ cap * esz := Nat.mul_le_mul_right _ hc
  have hst := c.allocE (u := el) (cs := old ++ new) (C := ys.toArray ++ xs.toArray ++ Builtin.zeroCells z (cap - need)) (ext := true) hF
    (by rw [hsz, hlen]; exact hle) (fun h => by cases h) (fun i v hi => by
      have hap : RelL μ (old ++ new) (ys ++ xs) := RelL.of_get (by simp [h1, h2]) fun i v hi => by
        by_cases hl : i < old.length
        · rw [List.getElem?_append_left hl] at hi
          obtain ⟨X, hX, hx⟩ := ho.get hi
          exact ⟨X, by rw [List.getElem?_append_left (by omega)]; exact hX, hx⟩
        · rw [List.getElem?_append_right (by omega)] at hi
          obtain ⟨X, hX, hx⟩ := hn.get hi
          exact ⟨X, by rw [List.getElem?_append_right (by omega), show i - ys.length = i - old.length by omega]; exact hX, hx⟩
      obtain ⟨X, hX, hx⟩ := hap.get hi
      have hlt : i < (ys ++ xs).length := by
        rcases Nat.lt_or_ge i (ys ++ xs).length with h | h
        · exact h
        · rw [List.getElem?_eq_none h] at hX; cases hX
      refine ⟨X, ?_, hx⟩
      rw [Array.getElem?_append_left (by simpa using hlt)]
      simpa using hX)
  refine ⟨_, _, _, hr, hst.world rfl rfl rfl rfl, ?_⟩
  simp only [Rel]
  refine ⟨_, cap, Mu.add_same _ _ _, rfl, hc, ?_, h0⟩
  simp only [hsz, Nat.zero_add]

end
end Go.Rv

/-
  A block's elder name goes; a row that grew in place gets a new name.
-/
namespace Go.Rv
open Go Go.RowKit

theorem kill_get (s : St) (n k : Nat) {b : B} (h : (s.kill n).heap.get k = some b) : k ≠ n ∧ s.heap.get k = some b := by
  have h' : (s.heap.put n none).get k = some b := h
  by_cases e : k = n
  · subst e; rw [T.get_put_same] at h'; cases h'
  · exact ⟨e, by rw [← T.get_put_ne s.heap none e]; exact h'⟩

theorem Step.kill {low : Nat} {D : Nat → Prop} {s : St} {μ : Mu} {w : World} {n : Nat} {b0 : B} (ok : Ok D μ s.heap w) (hlow : low ≤ n) (hg : s.heap.get n = some b0) : Step low D s (s.kill n) μ μ w w where
  keep := ⟨Nat.le_refl _, fun k h => testBit_lor_pow.2 (.inl h), fun k h => testBit_lor_pow.2 (.inl h),
    fun k h => (testBit_lor_pow.1 h).imp id fun e => testBit_lor_pow.2 (.inr e),
    fun k h => (testBit_lor_pow.1 h).imp id fun e => by rw [e]; exact hlow,
    fun k c _ _ g => (kill_get s n k g).2,
    fun k h => (testBit_lor_pow.1 h).imp id fun e => .inr ⟨b0, by rw [e]; exact hg⟩, rfl, fun k hk _ => T.get_put_ne _ _ (by omega),
    fun hb k c g => hb k c (kill_get s n k g).2⟩
  ext := ⟨Mu.le_refl μ, fun k x h => .inl h, fun k x h h' => (by rw [h] at h'; cases h'), Nat.le_refl _, rfl, rfl, rfl, fun _ _ _ => rfl⟩
  ok := (ok.less fun k b h => (kill_get s n k h).2).sub fun k h => h.resolve_right fun ⟨h1, h2⟩ => by
    have : k < s.next := h2
    omega

theorem Step.regrow {low : Nat} {D : Nat → Prop} {s : St} {μ : Mu} {w w' : World} {n : Nat} {b0 b : B} {l l' : Loc} (ok : Ok D μ s.heap w) (hD : D n) (hlow : low ≤ n)
    (hg : s.heap.get n = some b0) (hb : Bnd s) (hl : μ n = some l) (hF : μ s.next = none) (hblk : l'.blk = l.blk) (hw : SameBut l.blk w w')
    (hr : BRel (μ.add s.next l') l' w' b) : Step low D s ((s.kill n).fresh b) μ (μ.add s.next l') w w' where
  keep := by
    refine ⟨Nat.le_succ _, fun k h => testBit_lor_pow.2 (.inl h), fun k h => testBit_lor_pow.2 (.inl h),
      fun k h => (testBit_lor_pow.1 h).imp id fun e => testBit_lor_pow.2 (.inr e),
      fun k h => (testBit_lor_pow.1 h).imp id fun e => by rw [e]; exact hlow, fun k c h hk g => ?_,
      fun k h => (testBit_lor_pow.1 h).imp id fun e => .inr ⟨b0, by rw [e]; exact hg⟩, rfl, fun k hk hn => ?_, fun hb k c g => ?_⟩
    · have hk' : k < s.next ∨ s.next + 1 ≤ k := hk
      have e1 : k ≠ s.next := by omega
      have g' : ((s.kill n).heap.put s.next (some b)).get k = some c := g
      rw [T.get_put_ne _ _ e1] at g'
      exact (kill_get s n k g').2
    · show ((s.heap.put n none).put s.next (some b)).get k = s.heap.get k
      rw [T.get_put_ne _ _ (by omega), T.get_put_ne _ _ (by omega)]
    · by_cases e : k = s.next
      · subst e; exact Nat.lt_succ_self _
      · have g' : ((s.kill n).heap.put s.next (some b)).get k = some c := g
        rw [T.get_put_ne _ _ e] at g'
        exact Nat.lt_succ_of_lt (hb k c (kill_get s n k g').2)
  ext := ⟨Mu.le_add hF, fun k x h => by
      by_cases e : k = s.next
      · subst e; exact .inr ⟨Nat.le_refl _, Nat.lt_succ_self _⟩
      · exact .inl (by simpa [Mu.add, e] using h),
    fun k x h h' => (by
      by_cases e : k = s.next
      · subst e; rw [Mu.add_same] at h; cases h
        exact .inr ⟨n, l, hl, testBit_lor_pow.2 (.inr rfl), hblk.symm⟩
      · simp [Mu.add, e] at h; rw [h] at h'; cases h'),
    (by rw [hw.size]; exact Nat.le_refl _), hw.os, hw.tape, hw.output,
    fun r _ hno => hw.block r fun e => hno n l (testBit_lor_pow.2 (.inr rfl)) hl e.symm⟩
  ok := by
    have hnn : n ≠ s.next := Nat.ne_of_lt (hb n b0 hg)
    have old : ∀ k c, ((s.kill n).fresh b).heap.get k = some c → k ≠ s.next → k ≠ n ∧ s.heap.get k = some c := fun k c g e => by
      have g' : ((s.kill n).heap.put s.next (some b)).get k = some c := g
      rw [T.get_put_ne _ _ e] at g'
      exact kill_get s n k g'
    have gnew : ∀ c, ((s.kill n).fresh b).heap.get s.next = some c → c = b := fun c g => by
      have : ((s.kill n).heap.put s.next (some b)).get s.next = some c := g
      rw [T.get_put_same] at this; cases this; rfl
    have dold : ∀ k, (D k ∨ (s.next ≤ k ∧ k < ((s.kill n).fresh b).next)) → k ≠ s.next → D k := fun k h e => h.resolve_right fun ⟨h1, h2⟩ => by
      have : k < s.next + 1 := h2
      omega
    have mold : ∀ k x, (μ.add s.next l') k = some x → k ≠ s.next → μ k = some x := fun k x h e => by simpa [Mu.add, e] using h
    have far : ∀ k c x, D k → k ≠ n → s.heap.get k = some c → μ k = some x → x.blk ≠ l.blk := fun k c x d e g h => ok.sep k n c b0 x l d hD e g hg h hl
    refine ⟨fun k c d g => ?_, fun k m c c' x y d1 d2 hne g1 g2 e1 e2 => ?_⟩
    · by_cases e : k = s.next
      · subst e
        cases gnew c g
        exact ⟨_, Mu.add_same _ _ _, hr⟩
      · obtain ⟨en, g'⟩ := old k c g e
        obtain ⟨x, h1, h2⟩ := ok.rel k c (dold k d e) g'
        exact ⟨x, Mu.le_add hF k x h1, h2.congr (Mu.le_add hF) (hw.block _ (far k c x (dold k d e) en g' h1))⟩
    · by_cases ek : k = s.next
      · have em : m ≠ s.next := fun e => hne (ek.trans e.symm)
        subst ek
        rw [Mu.add_same] at e1; cases e1
        obtain ⟨emn, g'⟩ := old m c' g2 em
        rw [hblk]
        exact (far m c' y (dold m d2 em) emn g' (mold m y e2 em)).symm
      · obtain ⟨ekn, gk⟩ := old k c g1 ek
        by_cases em : m = s.next
        · subst em
          rw [Mu.add_same] at e2; cases e2
          rw [hblk]
          exact far k c x (dold k d1 ek) ekn gk (mold k x e1 ek)
        · obtain ⟨emn, gm⟩ := old m c' g2 em
          exact ok.sep k m c c' x y (dold k d1 ek) (dold m d2 em) hne gk gm (mold k x e1 ek) (mold m y e2 em)
end Go.Rv
