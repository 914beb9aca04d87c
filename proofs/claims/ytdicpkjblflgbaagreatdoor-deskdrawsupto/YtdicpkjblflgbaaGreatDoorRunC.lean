/-
  Single operations of the evaluator are those of the model: moves, arithmetic, comparisons, slices. Conditions: those that each statement below names, and no other.
-/
import Derived.Test.YtdicpkjblflgbaaGreatDoorRunB
import Derived.Laws.MakeOwn
import Derived.Laws.Slices
set_option linter.all false

/-
  Operations that make memory, and those that only reckon.
-/
namespace Go.Rv
open Go Go.RowKit
section
variable {P : Program} {tab : Tab} {D : Nat → Prop} {s s' : St} {μ : Mu} {e : Env} {nt : Nat} {a : Act} {w : World} {v : V} {o : Oper}

theorem Mu.none_le (μ : Mu) : Mu.le (fun _ => none) μ := fun _ _ h => by cases h

/-- A new block of cells, of which the first are known. -/
theorem Cx.allocE (c : Cx P tab D s μ e nt a w) {u : Nat} {cs : List V} {C : Array Value} {ext : Bool} (hF : μ s.next = none) (hlen : cs.length ≤ C.size)
    (hext : ext = false → C.size = cs.length) (hr : ∀ (i : Nat) (v : V), cs[i]? = some v → ∃ X, C[i]? = some X ∧ Rel μ v X) :
    Step low0 D s (s.fresh (.cells u cs ext false)) μ (μ.add s.next ⟨w.heap.size, 0, C.size⟩) w (w.alloc (.cells C u (0, 0))) := by
  refine Step.alloc c.ok c.bnd hF ⟨C, (0, 0), heap_alloc_new w _, by simp, hlen, fun h => ⟨hext h, rfl⟩, fun i v hi => ?_, fun _ j _ _ h => by simp at h⟩
  obtain ⟨X, hX, hx⟩ := hr i v hi
  exact ⟨X, by simpa using hX, hx.mono (Mu.le_add hF)⟩

theorem Cx.allocL (c : Cx P tab D s μ e nt a w) {u : Nat} {cs : List V} {xs : List Value} (hF : μ s.next = none) (hr : RelL μ cs xs) :
    Step low0 D s (s.fresh (.cells u cs false false)) μ (μ.add s.next ⟨w.heap.size, 0, xs.length⟩) w (w.alloc (.cells ⟨xs⟩ u (0, 0))) := by
  have hl := hr.length
  have := c.allocE (u := u) (cs := cs) (C := ⟨xs⟩) (ext := false) hF (by simp [hl]) (fun _ => by simp [hl]) (fun i v hi => by
    obtain ⟨X, hX, hx⟩ := hr.get hi
    exact ⟨X, by simpa using hX, hx⟩)
  simpa using this

theorem fresh_free {b : B} (hF : ∀ n, s.next ≤ n → n < (s.fresh b).next → μ n = none) : μ s.next = none := hF s.next (Nat.le_refl _) (Nat.lt_succ_self _)

theorem zero_run {t : Nat} {ti : TI} (h : TyOk P t ti) (μ : Mu) (w : World) : ∃ z, (zeroValue t).run P w = .ok z w ∧ RelL μ ti.zero z.cells.toList := by
  obtain ⟨i, z, h1, _, _, h4, h5⟩ := h.info
  exact ⟨z, by simp [zeroValue, typeInfo, h1, h4], h5.mono (Mu.none_le μ)⟩

theorem rel_new (μ : Mu) (n b sz : Nat) : Rel (μ.add n ⟨b, 0, sz⟩) (.ptr n 0) (.pointer (some ⟨b, 0, none⟩)) := by
  simp only [Rel]; exact ⟨_, Mu.add_same _ _ _, rfl⟩

theorem oAlloc_ok (c : Cx P tab D s μ e nt a w) {t : Nat} (ho : o.op = .alloc t) (h : oAlloc tab t s = some (v, s'))
    (hF : ∀ n, s.next ≤ n → n < s'.next → μ n = none) : Done D s s' μ w ((execOp a.eval o).run P w) v := by
  unfold oAlloc at h
  obtain ⟨ti, ht, h⟩ := om_eq h
  cases h
  obtain ⟨z, hz, hr⟩ := zero_run (c.ty t ti ht) μ w
  refine ⟨_, _, _, _, ?_, .inl rfl, c.allocL (u := t) (fresh_free hF) hr, rel_new _ _ _ _⟩
  simp [execOp, ho, Instr.alloc, hz, newVar, newRow]

theorem oBox_ok (c : Cx P tab D s μ e nt a w) {t : Nat} {x : Operand} (ho : o.op = .box t x) (h : oBox e t x s = some (v, s'))
    (hF : ∀ n, s.next ≤ n → n < s'.next → μ n = none) : Done D s s' μ w ((execOp a.eval o).run P w) v := by
  unfold oBox at h
  obtain ⟨y, hy, h⟩ := om_eq h
  cases h
  refine ⟨_, _, _, _, ?_, .inl rfl, c.allocL (u := t) (fresh_free hF) (cells_rel (c.ev hy)), rel_new _ _ _ _⟩
  simp [execOp, ho, Instr.box, newVar, newRow]

/-- A value, and no more. -/
theorem Cx.val (c : Cx P tab D s μ e nt a w) {X : Value} (hr : (execOp a.eval o).run P w = .ok (.value X) w) (hv : Rel μ v X) : Done D s s μ w ((execOp a.eval o).run P w) v :=
  ⟨μ, w, _, X, hr, .inl rfl, c.same, hv⟩

theorem oMove_ok (c : Cx P tab D s μ e nt a w) {x : Operand} (ho : o.op = .move x ∨ o.op = .assign x) (h : (ev e x).om (fun v => (v, s)) = some (v, s')) :
    Done D s s' μ w ((execOp a.eval o).run P w) v := by
  obtain ⟨y, hy, h⟩ := om_eq h
  cases h
  refine c.val ?_ (c.ev hy)
  rcases ho with ho | ho <;> simp [execOp, ho]

theorem oPick_ok (c : Cx P tab D s μ e nt a w) {x y z : Operand} (ho : o.op = .pick x y z) (h : oPick e x y z s = some (v, s')) :
    Done D s s' μ w ((execOp a.eval o).run P w) v := by
  unfold oPick at h
  split at h
  · rename_i hx
    obtain ⟨y', hy, h⟩ := om_eq h
    cases h
    have hb := c.ev hx
    simp only [Rel] at hb
    exact c.val (by simp [execOp, ho, asBool, hb]) (c.ev hy)
  · rename_i hx
    obtain ⟨y', hy, h⟩ := om_eq h
    cases h
    have hb := c.ev hx
    simp only [Rel] at hb
    exact c.val (by simp [execOp, ho, asBool, hb]) (c.ev hy)
  · cases h

theorem oNilCheck_ok (c : Cx P tab D s μ e nt a w) {x : Operand} (ho : o.op = .nilCheck x) (h : oNilCheck e x s = some (v, s')) :
    Done D s s' μ w ((execOp a.eval o).run P w) v := by
  unfold oNilCheck at h
  split at h
  · rename_i n k hx
    cases h
    have hb := c.ev hx
    simp only [Rel] at hb
    obtain ⟨l, h1, h2⟩ := hb
    exact c.val (X := a.eval x) (by simp [execOp, ho, h2]) (by simp only [Rel]; exact ⟨l, h1, h2⟩)
  · rename_i f A B hx
    cases h
    have hb := c.ev hx
    simp only [Rel] at hb
    obtain ⟨A', B', h1, h2, h3⟩ := hb
    exact c.val (X := a.eval x) (by simp [execOp, ho, h1]) (by simp only [Rel]; exact ⟨A', B', h1, h2, h3⟩)
  · cases h

theorem struct_und {t : Nat} {ti : TI} (h : TyOk P t ti) {fs : List (Nat × Nat)} (hd : ti.d = .struct fs) : ∃ fields : Array Field, P.underlying t = some (.struct fields) ∧ fs = fields.toList.map fun f => (f.offset, f.type) := by
  obtain ⟨d, h1, h2⟩ := h.und
  rw [hd] at h2
  simp only [DRel] at h2
  obtain ⟨fields, rfl, h3⟩ := h2
  exact ⟨fields, h1, h3⟩

theorem field_at {fs : List (Nat × Nat)} {fields : Array Field} (hf : fs = fields.toList.map fun f => (f.offset, f.type)) {i : Nat} {p : Nat × Nat} (h : fs[i]? = some p) :
    ∃ f, fields[i]? = some f ∧ f.offset = p.1 ∧ f.type = p.2 := by
  subst hf
  rw [List.getElem?_map] at h
  cases hfi : fields.toList[i]? with
  | none => rw [hfi] at h; cases h
  | some f =>
    rw [hfi] at h
    cases h
    exact ⟨f, by simpa using hfi, rfl, rfl⟩

theorem oFieldAddr_ok (c : Cx P tab D s μ e nt a w) {t : Nat} {x : Operand} {i : Nat} (ho : o.op = .fieldAddr t x i) (h : oFieldAddr tab e t x i s = some (v, s')) :
    Done D s s' μ w ((execOp a.eval o).run P w) v := by
  unfold oFieldAddr at h
  split at h
  · rename_i fs x1 x2 x3 ht
    obtain ⟨p, hp, h⟩ := ob_eq h
    unfold fieldAt at hp
    obtain ⟨q, hq, hp⟩ := ob_eq hp
    obtain ⟨tu, htu, hp⟩ := om_eq hp
    subst hp
    split at h
    · rename_i n k hx
      obtain ⟨h0, h⟩ := sel_none h
      cases h
      obtain ⟨fields, hu, hf⟩ := struct_und (c.ty _ _ ht) rfl
      obtain ⟨f, h1, h2, h3⟩ := field_at hf hq
      have hb := c.ev hx
      simp only [Rel] at hb
      obtain ⟨l, hl, hX⟩ := hb
      have hz : ¬ tu.size = 0 := by
        intro e0
        simp only at h0
        rw [e0] at h0
        cases h0
      refine c.val (X := .pointer (some ⟨l.blk, l.off + (k + q.1), none⟩)) ?_ (by simp only [Rel]; exact ⟨l, hl, rfl⟩)
      simp [execOp, ho, Instr.fieldAt, run_underlying hu, h1, hX, Instr.sureAddr, fieldPlace, h3, size_run (c.ty _ _ htu), hz, add_plain, h2, Nat.add_assoc]
    · cases h
  · cases h

theorem part_val {t : Nat} {ti : TI} (ht : TyOk P t ti) {cs : List V} {xs : List Value} {k : Nat} (hr : RelL μ cs xs) (h : partAt ti cs k = some v) :
    ∃ X, (part t ⟨xs⟩ k).run P w = .ok X w ∧ Rel μ v X := by
  unfold partAt at h
  simp only [part, Sem.run_bind, isAgg_run ht, Result.andThen_ok]
  cases ha : ti.d.agg with
  | true =>
    rw [ha, sel_true] at h
    obtain ⟨vs, h1, rfl⟩ := om_eq h
    unfold slCells at h1
    obtain ⟨h2, h3⟩ := sel_some h1
    cases h3
    refine ⟨.agg ⟨(xs.drop k).take ti.size⟩, ?_, by simp only [Rel]; exact ⟨_, rfl, (hr.drop k).take ti.size⟩⟩
    simp [size_run ht]
  | false =>
    rw [ha, sel_false] at h
    obtain ⟨X, h1, h2⟩ := hr.get h
    refine ⟨X, ?_, h2⟩
    simp [h1]

theorem oField_ok (c : Cx P tab D s μ e nt a w) {t : Nat} {x : Operand} {i : Nat} (ho : o.op = .field t x i) (h : oField tab e t x i s = some (v, s')) :
    Done D s s' μ w ((execOp a.eval o).run P w) v := by
  unfold oField at h
  split at h
  · rename_i fs x1 x2 x3 ht
    obtain ⟨q, hq, h⟩ := ob_eq h
    obtain ⟨tu, htu, h⟩ := ob_eq h
    split at h
    · rename_i cs hx
      obtain ⟨v', hp, h⟩ := om_eq h
      cases h
      obtain ⟨fields, hu, hf⟩ := struct_und (c.ty _ _ ht) rfl
      obtain ⟨f, h1, h2, h3⟩ := field_at hf hq
      have hb := c.ev hx
      simp only [Rel] at hb
      obtain ⟨xs, hX, hr⟩ := hb
      obtain ⟨X, h4, h5⟩ := part_val (P := P) (w := w) (c.ty _ _ htu) hr hp
      refine c.val (X := X) ?_ h5
      simp [execOp, ho, Instr.field, run_underlying hu, h1, hX, asAgg, h3, h2, h4]
    · cases h
  · cases h

theorem natOf_eq {x : V} {n : Nat} (h : natOf x = some n) : ∃ k, x = .int k n := by
  unfold natOf at h
  split at h
  · cases h; exact ⟨_, rfl⟩
  · cases h

theorem slice_und {t : Nat} {ti : TI} (h : TyOk P t ti) {u : Nat} (hd : ti.d = .slice u) : P.underlying t = some (.slice u) := by
  obtain ⟨d, h1, h2⟩ := h.und
  rw [hd] at h2
  simp only [DRel] at h2
  rw [h1, h2]
theorem arr_und {t : Nat} {ti : TI} (h : TyOk P t ti) {n u : Nat} (hd : ti.d = .arr n u) : P.underlying t = some (.array n u) := by
  obtain ⟨d, h1, h2⟩ := h.und
  rw [hd] at h2
  simp only [DRel] at h2
  rw [h1, h2]
theorem str_und {t : Nat} {ti : TI} (h : TyOk P t ti) (hd : ti.d = .str) : P.underlying t = some .string := by
  obtain ⟨d, h1, h2⟩ := h.und
  rw [hd] at h2
  simp only [DRel] at h2
  rw [h1, h2]

theorem oIndexAddr_ok (c : Cx P tab D s μ e nt a w) {t : Nat} {x y : Operand} (ho : o.op = .indexAddr t x y) (h : oIndexAddr tab e t x y s = some (v, s')) :
    Done D s s' μ w ((execOp a.eval o).run P w) v := by
  unfold oIndexAddr at h
  obtain ⟨iv, hi, h⟩ := ob_eq h
  obtain ⟨i, hn, h2⟩ := ob_eq h
  clear h
  obtain ⟨k, rfl⟩ := natOf_eq hn
  have hI := c.ev hi
  simp only [Rel] at hI
  revert h2
  split
  · rename_i len u x1 x2 x3 n k' ht hx
    intro h
    obtain ⟨tu, htu, h⟩ := ob_eq h
    obtain ⟨hlt, h⟩ := sel_some h
    cases h
    have hb := c.ev hx
    simp only [Rel] at hb
    obtain ⟨l, hl, hX⟩ := hb
    have hlt' : i < len := by simpa [Nat.blt_eq] using hlt
    refine c.val (X := .pointer (some ⟨l.blk, l.off + (k' + i * tu.size), none⟩)) ?_ (by simp only [Rel]; exact ⟨l, hl, rfl⟩)
    simp [execOp, ho, Instr.indexAt, hI, hX, asIntOf, run_underlying (arr_und (c.ty _ _ ht) rfl), Instr.sureAddr, hlt', size_run (c.ty _ _ htu), add_plain, Nat.add_assoc]
  · rename_i u x1 x2 x3 n k' len esz cap ht hx
    intro h
    obtain ⟨tu, htu, h⟩ := ob_eq h
    obtain ⟨hlt, h⟩ := sel_some h
    cases h
    have hb := c.ev hx
    simp only [Rel] at hb
    obtain ⟨l, cc, hl, hX, _⟩ := hb
    have hlt' : i < len := by simpa [Nat.blt_eq] using hlt
    refine c.val (X := .pointer (some ⟨l.blk, l.off + (k' + i * tu.size), none⟩)) ?_ (by simp only [Rel]; exact ⟨l, hl, rfl⟩)
    simp [execOp, ho, Instr.indexAt, hI, hX, asIntOf, run_underlying (slice_und (c.ty _ _ ht) rfl), hlt', size_run (c.ty _ _ htu), add_plain, Nat.add_assoc]
  · intro h; cases h

theorem oIndex_ok (c : Cx P tab D s μ e nt a w) {t : Nat} {x y : Operand} (ho : o.op = .index t x y) (h : oIndex tab e t x y s = some (v, s')) :
    Done D s s' μ w ((execOp a.eval o).run P w) v := by
  unfold oIndex at h
  obtain ⟨iv, hi, h⟩ := ob_eq h
  obtain ⟨i, hn, h2⟩ := ob_eq h
  clear h
  obtain ⟨k, rfl⟩ := natOf_eq hn
  have hI := c.ev hi
  simp only [Rel] at hI
  revert h2
  split
  · rename_i len u x1 x2 x3 cs ht hx
    intro h
    obtain ⟨tu, htu, h⟩ := ob_eq h
    obtain ⟨hlt, h⟩ := sel_some h
    obtain ⟨v', hp, h⟩ := om_eq h
    cases h
    have hb := c.ev hx
    simp only [Rel] at hb
    obtain ⟨xs, hX, hr⟩ := hb
    have hlt' : i < len := by simpa [Nat.blt_eq] using hlt
    obtain ⟨X, h4, h5⟩ := part_val (P := P) (w := w) (c.ty _ _ htu) hr hp
    refine c.val (X := X) ?_ h5
    simp [execOp, ho, Instr.index, hI, hX, asIntOf, run_underlying (arr_und (c.ty _ _ ht) rfl), hlt', size_run (c.ty _ _ htu), h4]
  · rename_i x1 x2 x3 b ht hx
    intro h
    obtain ⟨b', hp, h⟩ := om_eq h
    cases h
    have hb := c.ev hx
    simp only [Rel] at hb
    refine c.val (X := .int .u8 b'.toNat) ?_ (by simp [Rel])
    have hlt : i < b.length := by
      rcases Nat.lt_or_ge i b.length with h' | h'
      · exact h'
      · rw [List.getElem?_eq_none h'] at hp; cases hp
    have hg : (⟨b.toArray⟩ : ByteArray)[i]? = some b' := by
      have : i < (⟨b.toArray⟩ : ByteArray).size := by simpa [ByteArray.size] using hlt
      rw [getElem?_pos (⟨b.toArray⟩ : ByteArray) i this]
      rw [List.getElem?_eq_getElem hlt] at hp
      cases hp
      rfl
    simp [execOp, ho, Instr.index, hI, hb, asIntOf, run_underlying (str_und (c.ty _ _ ht) rfl), hg]
  · intro h; cases h

theorem oExtract_ok (c : Cx P tab D s μ e nt a w) {x : Operand} {i : Nat} (ho : o.op = .extract x i) (h : oExtract e x i s = some (v, s')) :
    Done D s s' μ w ((execOp a.eval o).run P w) v := by
  unfold oExtract at h
  split at h
  · rename_i l hx
    obtain ⟨v', hp, h⟩ := om_eq h
    cases h
    have hb := c.ev hx
    simp only [Rel] at hb
    obtain ⟨xs, hX, hr⟩ := hb
    obtain ⟨X, h4, h5⟩ := hr.get hp
    refine c.val (X := X) ?_ h5
    simp [execOp, ho, Instr.extract, hX, h4]
  · cases h

theorem semV_ok {x : Sem Value} {v : V} (h : semV x = some v) (μ : Mu) (w : World) : ∃ X, x.run P w = .ok X w ∧ Rel μ v X := by
  unfold semV at h
  split at h
  · cases h; exact ⟨_, rfl, by simp [Rel]⟩
  · cases h; exact ⟨_, rfl, by simp [Rel]⟩
  · cases h

theorem oUn_ok (c : Cx P tab D s μ e nt a w) {op : UnOp} {t : Nat} {x : Operand} (ho : o.op = .unOp op t x) (h : ((ev e x).ob fun v => (unV op v).om fun v => (v, s)) = some (v, s')) :
    Done D s s' μ w ((execOp a.eval o).run P w) v := by
  obtain ⟨y, hy, h⟩ := ob_eq h
  obtain ⟨z, hz, h⟩ := om_eq h
  cases h
  have hb := c.ev hy
  unfold unV at hz
  split at hz
  · simp only [Rel] at hb
    obtain ⟨X, h1, h2⟩ := semV_ok (P := P) hz μ w
    exact c.val (X := X) (by simp [execOp, ho, hb, h1]) h2
  · simp only [Rel] at hb
    obtain ⟨X, h1, h2⟩ := semV_ok (P := P) hz μ w
    exact c.val (X := X) (by simp [execOp, ho, hb, h1]) h2
  · cases hz
end
end Go.Rv

/-
  Operators; comparisons.
-/
namespace Go.Rv
open Go Go.RowKit
section
variable {P : Program} {tab : Tab} {D : Nat → Prop} {s s' : St} {μ : Mu} {e : Env} {nt : Nat} {a : Act} {w : World} {v : V} {o : Oper}

theorem kind_eq {k k' : IntKind} (h : Nat.beq (kindNo k) (kindNo k') = true) : k = k' := by
  cases k <;> cases k' <;> first | rfl | (simp [kindNo] at h)

theorem fastNat_ok {op : BinOp} {k : IntKind} {x y : Nat} {t : Nat} (h : fastNat op k x y = some v) (μ : Mu) (w : World) :
    ∃ X, (binOp op t (.int k x) (.int k y)).run P w = .ok X w ∧ Rel μ v X := by
  cases op <;> simp only [fastNat] at h <;> try (cases h; done)
  case add =>
    split at h
    · obtain ⟨h1, h⟩ := sel_some h
      cases h
      have h1' : x + y < 1000000 := by simpa [Nat.blt_eq] using h1
      refine ⟨.int .i64 ((x + y : Nat) : Int), ?_, by simp [Rel]⟩
      have := IntWalk.i64_in ((x : Int) + (y : Int)) (by omega)
      simp [binOp, Op.intArith, this]
    · cases h
  case sub =>
    split at h
    · obtain ⟨h1, h⟩ := sel_some h
      cases h
      have h1' : y ≤ x ∧ x < 1000000 := by simpa [Nat.blt_eq] using h1
      refine ⟨.int .i64 ((x - y : Nat) : Int), ?_, by simp [Rel]⟩
      have h2 := IntWalk.i64_in ((x : Int) - (y : Int)) (by omega)
      have h3 : ((x - y : Nat) : Int) = (x : Int) - (y : Int) := by omega
      simp [binOp, Op.intArith, h2, h3]
    · cases h
  all_goals
    cases h
    refine ⟨.bool _, ?_, (by simp only [Rel]; rfl)⟩
    simp only [binOp, Op.intCmp, Sem.run_pure, ne_eq, not_true_eq_false, ite_false]
    congr 2
    rw [Bool.eq_iff_iff]
    first
      | (simp; done)
      | (simp only [beq_iff_eq, Nat.beq_eq]; omega)
      | (simp only [bne_iff_ne, ne_eq, Bool.not_eq_true', Bool.eq_false_iff, Nat.beq_eq]; omega)

theorem intV_ok {op : BinOp} {k k' : IntKind} {x y : Int} {t : Nat} (h : intV op t k k' x y = some v) (μ : Mu) (w : World) :
    ∃ X, (binOp op t (.int k x) (.int k' y)).run P w = .ok X w ∧ Rel μ v X := by
  unfold intV at h
  split at h
  · rename_i v' hf
    cases h
    unfold fastInt at hf
    split at hf
    · obtain ⟨h1, hf2⟩ := sel_some hf
      have hk := kind_eq h1
      subst hk
      exact fastNat_ok hf2 μ w
    · cases hf
  · exact semV_ok h μ w

theorem toList_mk (l : List UInt8) : (⟨l.toArray⟩ : ByteArray).toList = l := by rw [ByteArray.toList_eq]

theorem strOp_ok {op : BinOp} {x y : List UInt8} (h : strOp op x y = some v) (μ : Mu) (w : World) :
    ∃ X, (Op.stringOp op ⟨x.toArray⟩ ⟨y.toArray⟩).run P w = .ok X w ∧ Rel μ v X := by
  cases op <;> simp only [strOp] at h <;> try (cases h; done)
  case add =>
    obtain ⟨h1, h⟩ := sel_some h
    cases h
    have h1' : x.length + y.length < 2 ^ 62 := by simpa [Nat.blt_eq] using h1
    refine ⟨.string ⟨(x ++ y).toArray⟩, ?_, by simp [Rel]⟩
    rw [run_string_add_sum w _ _ (by simp [ByteArray.size]; omega), ByteArray.mk_append_mk]
  all_goals
    cases h
    exact ⟨_, by simp only [Op.stringOp, toList_mk]; rfl, by simp [Rel]⟩

/-- '==' and '!=' out of one comparison. -/
theorem eqOp_ok {op : BinOp} {b : Bool} {x : Option Bool} (h : eqOp op x = some v) (hb : x = some b) :
    (op = .eql ∧ v = .bool b) ∨ (op = .neq ∧ v = .bool !b) := by
  subst hb
  cases op <;> simp only [eqOp] at h <;> first
    | (cases h; done)
    | (cases h; exact .inl ⟨rfl, rfl⟩)
    | (cases h; exact .inr ⟨rfl, rfl⟩)

theorem eqOp_some {op : BinOp} {x : Option Bool} (h : eqOp op x = some v) : ∃ b, x = some b := by
  cases x with
  | some b => exact ⟨b, rfl⟩
  | none => cases op <;> simp [eqOp, om_none] at h

/-- What the comparison of two values at a type comes to. -/
theorem eqD_ok {t : Nat} {ti : TI} {x y : V} {b : Bool} {X Y : Value} (hty : ∀ t ti, tab.ty t = some ti → TyOk P t ti) (ht : TyOk P t ti) (h : eqD tab ti.d x y = some b)
    (hx : Rel μ x X) (hy : Rel μ y Y) : (Op.equal t X Y).run P w = .ok b w := by
  obtain ⟨d, hu, hd⟩ := ht.und
  unfold Op.equal
  obtain ⟨dep, hdep⟩ : ∃ dep, Op.maxDepth = dep + 1 := ⟨9999, rfl⟩
  rw [hdep]
  clear hdep
  cases hk : ti.d with
  | bool =>
    rw [hk] at h hd
    simp only [DRel] at hd; subst hd
    unfold eqD at h
    simp only at h
    split at h
    · cases h; simp only [Rel] at hx hy; subst hx; subst hy
      simp [Op.equalIn, run_underlying hu]
    · cases h
  | ptr e' =>
    rw [hk] at h hd
    simp only [DRel] at hd; subst hd
    unfold eqD at h
    simp only at h
    split at h
    · cases h; simp only [Rel] at hx hy; subst hx; subst hy
      simp [Op.equalIn, run_underlying hu]
    · cases h; simp only [Rel] at hx hy; subst hx; obtain ⟨l, _, rfl⟩ := hy
      simp [Op.equalIn, run_underlying hu]
    · cases h; simp only [Rel] at hx hy; subst hy; obtain ⟨l, _, rfl⟩ := hx
      simp [Op.equalIn, run_underlying hu]
    · rename_i n o m p
      obtain ⟨te, hte, h⟩ := ob_eq h
      obtain ⟨h1, h⟩ := sel_some h
      cases h
      simp only [Bool.and_eq_true, Bool.not_eq_true', Nat.beq_eq] at h1
      obtain ⟨rfl, h0⟩ := h1
      simp only [Rel] at hx hy
      obtain ⟨l, hl, rfl⟩ := hx
      obtain ⟨l', hl', rfl⟩ := hy
      rw [hl] at hl'; cases hl'
      have hz : ¬ te.size = 0 := by intro e0; rw [e0] at h0; cases h0
      have hc : (({ block := l.blk, off := l.off + o, spot := none } : Addr) == { block := l.blk, off := l.off + p, spot := none }) = Nat.beq o p := by
        rw [Bool.eq_iff_iff]
        simp
      simp [Op.equalIn, run_underlying hu, size_run (hty _ _ hte), hz, sameAddr, hc]
    · cases h
  | slice e' =>
    rw [hk] at h hd
    simp only [DRel] at hd; subst hd
    unfold eqD at h
    simp only at h
    split at h
    · cases h; simp only [Rel] at hx hy; subst hx; subst hy
      simp [Op.equalIn, run_underlying hu]
    · cases h; simp only [Rel] at hx hy; subst hx; obtain ⟨l, c, _, rfl, _⟩ := hy
      simp [Op.equalIn, run_underlying hu]
    · cases h; simp only [Rel] at hx hy; subst hy; obtain ⟨l, c, _, rfl, _⟩ := hx
      simp [Op.equalIn, run_underlying hu]
    · cases h
  | map k' e' =>
    rw [hk] at h hd
    simp only [DRel] at hd; subst hd
    unfold eqD at h
    simp only at h
    split at h
    · cases h; simp only [Rel] at hx hy; subst hx; subst hy
      simp [Op.equalIn, run_underlying hu]
    · cases h; simp only [Rel] at hx hy; subst hx; obtain ⟨l, _, rfl⟩ := hy
      simp [Op.equalIn, run_underlying hu]
    · cases h; simp only [Rel] at hx hy; subst hy; obtain ⟨l, _, rfl⟩ := hx
      simp [Op.equalIn, run_underlying hu]
    · cases h
  | func =>
    rw [hk] at h hd
    simp only [DRel] at hd; obtain ⟨_, _, _, rfl⟩ := hd
    unfold eqD at h
    simp only at h
    split at h
    · cases h; simp only [Rel] at hx hy; subst hx; subst hy
      simp [Op.equalIn, run_underlying hu]
    · cases h; simp only [Rel] at hx hy; subst hx; obtain ⟨A, B, rfl, _⟩ := hy
      simp [Op.equalIn, run_underlying hu]
    · cases h; simp only [Rel] at hx hy; subst hy; obtain ⟨A, B, rfl, _⟩ := hx
      simp [Op.equalIn, run_underlying hu]
    · cases h
  | iface =>
    rw [hk] at h hd
    simp only [DRel] at hd; obtain ⟨_, rfl⟩ := hd
    unfold eqD at h
    simp only at h
    split at h
    · cases h; simp only [Rel] at hx hy; subst hx; obtain ⟨x, rfl, _⟩ := hy
      simp [Op.equalIn, run_underlying hu]
    · cases h; simp only [Rel] at hx hy; subst hy; obtain ⟨x, rfl, _⟩ := hx
      simp [Op.equalIn, run_underlying hu]
    · cases h
  | int k' => rw [hk] at h; cases h
  | str => rw [hk] at h; cases h
  | struct fs => rw [hk] at h; cases h
  | arr n e' => rw [hk] at h; cases h
  | uptr => rw [hk] at h; cases h
  | other => rw [hk] at h; cases h

end
end Go.Rv

/-
  Operators, joined.
-/
namespace Go.Rv
open Go Go.RowKit
section
variable {P : Program} {tab : Tab} {D : Nat → Prop} {s s' : St} {μ : Mu} {e : Env} {nt : Nat} {a : Act} {w : World} {v : V} {o : Oper}

def plainCmp : Value → Bool
  | .int .. | .float .. | .complex .. | .string _ => false
  | _ => true

theorem binEql {t : Nat} {X Y : Value} (h : plainCmp X = true) : binOp .eql t X Y = (do pure (.bool (← Op.equal t X Y))) := by
  cases X <;> first | (simp [plainCmp] at h; done) | (cases Y <;> rfl)
theorem binNeq {t : Nat} {X Y : Value} (h : plainCmp X = true) : binOp .neq t X Y = (do pure (.bool (!(← Op.equal t X Y)))) := by
  cases X <;> first | (simp [plainCmp] at h; done) | (cases Y <;> rfl)

theorem guard_free {op : BinOp} {t : Nat} {x y : Operand} {X Y : Value} (h1 : ¬ (X = .nilIface ∧ Y = .nilIface)) (h2 : ∀ l m, ¬ (X = .agg l ∧ Y = .agg m)) (w : World) :
    (eqGuard op t x y X Y).run P w = .ok () w := by
  unfold eqGuard
  split
  all_goals first
    | rfl
    | (simp only [Bool.not_true, Bool.false_eq_true, if_false]
       split
       · exact absurd ⟨rfl, rfl⟩ h1
       · exact absurd ⟨rfl, rfl⟩ (h2 _ _)
       · rfl)

theorem guard_nil {op : BinOp} {t : Nat} {x y : Operand} (hc : (isC x || isC y) = true) (w : World) : (eqGuard op t x y .nilIface .nilIface).run P w = .ok () w := by
  cases x <;> cases y <;> first
    | (simp [isC] at hc; done)
    | (cases op <;> rfl)

theorem rel_agg_of {x : V} {l : Array Value} (h : Rel μ x (.agg l)) : ∃ m, x = .agg m := by
  cases x <;> simp only [Rel] at h <;> first
    | exact ⟨_, rfl⟩
    | (cases h; done)
    | (obtain ⟨_, h⟩ := h; cases h; done)
    | (obtain ⟨_, _, h⟩ := h; cases h; done)
    | (obtain ⟨_, h, _⟩ := h; cases h; done)
    | (obtain ⟨_, _, h, _⟩ := h; cases h; done)
    | (obtain ⟨_, _, _, h, _⟩ := h; cases h; done)
theorem rel_nili_of {x : V} (h : Rel μ x .nilIface) : x = .nili := by
  cases x <;> simp only [Rel] at h <;> first
    | rfl
    | (cases h; done)
    | (obtain ⟨_, h⟩ := h; cases h; done)
    | (obtain ⟨_, _, h⟩ := h; cases h; done)
    | (obtain ⟨_, h, _⟩ := h; cases h; done)
    | (obtain ⟨_, _, h, _⟩ := h; cases h; done)
    | (obtain ⟨_, _, _, h, _⟩ := h; cases h; done)

/-- Struct types that compare cell by cell. -/
def EqsOk (P : Program) (tab : Tab) : Prop := ∀ t l, tab.eqs t l = true → P.eqGuardType P.depth t = false ∧
  ∀ (μ : Mu) (m : List V) (b : Bool) (xs ys : List Value) (w : World), eqL l m = some b → RelL μ l xs → RelL μ m ys → (Op.equal t (.agg ⟨xs⟩) (.agg ⟨ys⟩)).run P w = .ok b w

def flipB (op : BinOp) (b : Bool) : Bool := match op with
  | .eql => b
  | _ => !b

theorem eqOp_run {op : BinOp} {t : Nat} {X Y : Value} {b : Bool} (h : eqOp op (some b) = some v) (hp : plainCmp X = true) (hr : (Op.equal t X Y).run P w = .ok b w) :
    (binOp op t X Y).run P w = .ok (.bool (flipB op b)) w ∧ v = .bool (flipB op b) := by
  rcases eqOp_ok h rfl with ⟨rfl, rfl⟩ | ⟨rfl, rfl⟩
  · exact ⟨by rw [binEql hp]; simp [hr, flipB], rfl⟩
  · exact ⟨by rw [binNeq hp]; simp [hr, flipB], rfl⟩

theorem eqD_shape {d : Rv.D} {x y : V} {b : Bool} {X : Value} (h : eqD tab d x y = some b) (hx : Rel μ x X) :
    plainCmp X = true ∧ ¬ (x = .nili ∧ y = .nili) ∧ ∀ l m, ¬ (x = .agg l ∧ y = .agg m) := by
  unfold eqD at h
  cases d <;> simp only at h <;> try (cases h; done)
  all_goals
    split at h <;> first
      | (cases h; done)
      | (refine ⟨?_, (by rintro ⟨h1, h2⟩; first | (cases h1; done) | (cases h2; done)), (by rintro l m ⟨h1, h2⟩; first | (cases h1; done) | (cases h2; done))⟩
         simp only [Rel] at hx
         first
           | (subst hx; rfl)
           | (obtain ⟨_, _, rfl⟩ := hx; rfl)
           | (obtain ⟨_, rfl, _⟩ := hx; rfl)
           | (obtain ⟨_, _, rfl, _⟩ := hx; rfl)
           | (obtain ⟨_, _, _, rfl, _⟩ := hx; rfl))

theorem oBin_ok (c : Cx P tab D s μ e nt a w) (hq : EqsOk P tab) {op : BinOp} {t u : Nat} {x y : Operand} (ho : o.op = .binOp op t x y u) (h : oBin tab e op t x y s = some (v, s')) :
    Done D s s' μ w ((execOp a.eval o).run P w) v := by
  unfold oBin at h
  obtain ⟨x', hx, h'⟩ := ob_eq h
  obtain ⟨y', hy, h''⟩ := ob_eq h'
  clear h h'
  have h := h''
  clear h''
  have hX := c.ev hx
  have hY := c.ev hy
  -- whatever passes the guard and comes to a value
  have fin : ∀ {X : Value}, s' = s → (eqGuard op t x y (a.eval x) (a.eval y)).run P w = .ok () w → (binOp op t (a.eval x) (a.eval y)).run P w = .ok X w → Rel μ v X →
      Done D s s' μ w ((execOp a.eval o).run P w) v := fun {X} hs h1 h2 h3 => by
    subst hs
    exact c.val (X := X) (by simp [execOp, ho, h1, h2]) h3
  rw [sel_eq] at h
  split at h
  · rename_i hn
    simp only [Bool.and_eq_true] at hn
    have ex : x' = .nili := by cases x' <;> first | rfl | (simp [isNili] at hn)
    have ey : y' = .nili := by cases y' <;> first | rfl | (simp [isNili] at hn)
    subst ex; subst ey
    obtain ⟨v', h1, h⟩ := om_eq h
    cases h
    unfold nilEq at h1
    split at h1
    · rename_i x1 x2 x3 ht
      obtain ⟨hc, h1⟩ := sel_some h1
      simp only [Rel] at hX hY
      obtain ⟨d, hu, hd⟩ := (c.ty _ _ ht).und
      simp only [DRel] at hd
      obtain ⟨_, rfl⟩ := hd
      have he : (Op.equal t .nilIface .nilIface).run P w = .ok true w := by
        unfold Op.equal
        obtain ⟨dep, hdep⟩ : ∃ dep, Op.maxDepth = dep + 1 := ⟨9999, rfl⟩
        rw [hdep]
        clear hdep
        simp [Op.equalIn, run_underlying hu]
      obtain ⟨r1, r2⟩ := eqOp_run (P := P) (w := w) (t := t) (X := .nilIface) (Y := .nilIface) h1 rfl he
      refine fin (X := .bool (flipB op true)) rfl ?_ (by rw [hX, hY]; exact r1) (by rw [r2]; simp [Rel])
      rw [hX, hY]
      exact guard_nil hc w
    · cases h1
  · rename_i hn
    obtain ⟨v', h1, h⟩ := om_eq h
    cases h
    unfold binV at h1
    split at h1
    · simp only [Rel] at hX hY
      obtain ⟨X, r1, r2⟩ := intV_ok (P := P) h1 μ w
      refine fin (X := X) rfl ?_ (by rw [hX, hY]; exact r1) r2
      rw [hX, hY]
      exact guard_free (by intro hh; cases hh.1) (by intro l m hh; cases hh.1) w
    · simp only [Rel] at hX hY
      obtain ⟨X, r1, r2⟩ := strOp_ok (P := P) h1 μ w
      refine fin (X := X) rfl ?_ ?_ r2
      · rw [hX, hY]
        exact guard_free (by intro hh; cases hh.1) (by intro l m hh; cases hh.1) w
      · rw [hX, hY]
        have : ∀ p q : ByteArray, binOp op t (.string p) (.string q) = Op.stringOp op p q := fun p q => by cases op <;> rfl
        rw [this]
        exact r1
    · rename_i l m
      obtain ⟨ht, h1⟩ := sel_some h1
      simp only [Rel] at hX hY
      obtain ⟨xs, hX, hxs⟩ := hX
      obtain ⟨ys, hY, hys⟩ := hY
      obtain ⟨b, hb⟩ := eqOp_some h1
      rw [hb] at h1
      obtain ⟨q1, q2⟩ := hq t _ ht
      obtain ⟨r1, r2⟩ := eqOp_run (P := P) (w := w) (t := t) (X := .agg ⟨xs⟩) (Y := .agg ⟨ys⟩) h1 rfl (q2 μ _ b xs ys w hb hxs hys)
      refine fin rfl ?_ (by rw [hX, hY]; exact r1) (by rw [r2]; simp [Rel])
      rw [hX, hY]
      unfold eqGuard
      split
      all_goals first
        | rfl
        | (simp [q1]; done)
    · rename_i hni hns hna
      obtain ⟨ti, ht, h1⟩ := ob_eq h1
      obtain ⟨b, hb⟩ := eqOp_some h1
      obtain ⟨p1, p2, p3⟩ := eqD_shape hb hX
      rw [hb] at h1
      obtain ⟨r1, r2⟩ := eqOp_run (P := P) (w := w) (t := t) (X := a.eval x) (Y := a.eval y) h1 p1 (eqD_ok c.ty (c.ty _ _ ht) hb hX hY)
      refine fin rfl ?_ r1 (by rw [r2]; simp [Rel])
      refine guard_free (fun hh => p2 ⟨rel_nili_of (hh.1 ▸ hX), rel_nili_of (hh.2 ▸ hY)⟩) (fun l m hh => ?_) w
      obtain ⟨l', e1⟩ := rel_agg_of (hh.1 ▸ hX)
      obtain ⟨m', e2⟩ := rel_agg_of (hh.2 ▸ hY)
      exact p3 l' m' ⟨e1, e2⟩
end
end Go.Rv

/-
  Interface values, function values, new maps and slices, lengths.
-/
namespace Go.Rv
open Go Go.RowKit
section
variable {P : Program} {tab : Tab} {D : Nat → Prop} {s s' : St} {μ : Mu} {e : Env} {nt : Nat} {a : Act} {w : World} {v : V} {o : Oper}

theorem oMakeInterface_ok (c : Cx P tab D s μ e nt a w) {t : Nat} {x : Operand} (ho : o.op = .makeInterface t x) (h : oMakeInterface tab e t x s = some (v, s')) :
    Done D s s' μ w ((execOp a.eval o).run P w) v := by
  unfold oMakeInterface at h
  split at h
  · cases h
  · cases h
  · rename_i ti h1 h2 ht
    obtain ⟨x', hx, h⟩ := om_eq h
    cases h
    obtain ⟨d, hu, hd⟩ := (c.ty _ _ ht).und
    refine c.val (X := .iface t (a.eval x)) ?_ (by simp only [Rel]; exact ⟨_, rfl, c.ev hx⟩)
    obtain ⟨dd, sz, by_, z⟩ := ti
    cases dd <;> simp only [DRel] at hd <;> first
      | (subst hd; simp [execOp, ho, Instr.makeInterface, run_underlying hu]; done)
      | (obtain ⟨_, rfl, _⟩ := hd; simp [execOp, ho, Instr.makeInterface, run_underlying hu]; done)
      | (obtain ⟨_, _, _, rfl⟩ := hd; simp [execOp, ho, Instr.makeInterface, run_underlying hu]; done)
      | exact (h1 _ _ _ rfl).elim
      | exact (h2 _ _ _ rfl).elim
  · cases h

theorem oMakeFunc_ok (c : Cx P tab D s μ e nt a w) {fn : Fn} {x y : Array Operand} (ho : o.op = .makeFunc fn x y) (h : oMakeFunc e fn x y s = some (v, s')) :
    Done D s s' μ w ((execOp a.eval o).run P w) v := by
  unfold oMakeFunc at h
  split at h
  · rename_i f
    obtain ⟨A, hA, h2⟩ := ob_eq h
    obtain ⟨B, hB, h3⟩ := om_eq h2
    cases h3
    refine c.val (X := .func (.func f) (x.map a.eval) (y.map a.eval)) (by simp [execOp, ho, Instr.makeFunc]) ?_
    simp only [Rel]
    refine ⟨x.toList.map a.eval, y.toList.map a.eval, ?_, c.evs hA, c.evs hB⟩
    congr 1 <;> exact Array.ext' (by simp)
  · cases h

theorem Cx.allocMap (c : Cx P tab D s μ e nt a w) (hF : μ s.next = none) :
    Step low0 D s (s.fresh (.map [] 0)) μ (μ.add s.next ⟨w.heap.size, 0, 0⟩) w (w.alloc (.map #[] 0)) :=
  Step.alloc c.ok c.bnd hF ⟨#[], heap_alloc_new w _, by simp [RelE]⟩

theorem oMakeMap_ok (c : Cx P tab D s μ e nt a w) {t : Nat} {r : Option Operand} (ho : o.op = .makeMap t r) (h : oMakeMap tab e t r s = some (v, s'))
    (hF : ∀ n, s.next ≤ n → n < s'.next → μ n = none) : Done D s s' μ w ((execOp a.eval o).run P w) v := by
  unfold oMakeMap at h
  split at h
  · cases h
    refine ⟨_, _, _, .map (some w.heap.size), ?_, .inl rfl, c.allocMap (fresh_free hF), by simp only [Rel]; exact ⟨_, Mu.add_same _ _ _, rfl⟩⟩
    simp [execOp, ho, Instr.makeMap]
  · rename_i r'
    split at h
    · rename_i k1 k2 x1 x2 x3 kk nn ht hx
      cases h
      have hX := c.ev hx
      simp only [Rel] at hX
      obtain ⟨d, hu, hd⟩ := (c.ty _ _ ht).und
      simp only [DRel] at hd
      subst hd
      refine ⟨_, _, _, .map (some w.heap.size), ?_, .inl rfl, c.allocMap (fresh_free hF), by simp only [Rel]; exact ⟨_, Mu.add_same _ _ _, rfl⟩⟩
      simp [execOp, ho, Instr.makeMap, run_underlying hu, hX, asInt, asIntOf]
    · cases h

theorem elemOf_eq {t : Nat} {p : Nat × TI} (hty : ∀ t ti, tab.ty t = some ti → TyOk P t ti) (h : elemOf tab t = some p) : P.underlying t = some (.slice p.1) ∧ TyOk P p.1 p.2 := by
  unfold elemOf at h
  split at h
  · rename_i u x1 x2 x3 ht
    obtain ⟨te, h1, rfl⟩ := om_eq h
    exact ⟨slice_und (hty _ _ ht) rfl, hty _ _ h1⟩
  · cases h

theorem rep_length (z : List V) (n : Nat) : (rep z n).length = n * z.length := by
  induction n with
  | zero => simp [rep]
  | succ n ih => simp [rep, ih, Nat.succ_mul, Nat.add_comm]

theorem rep_get (z : List V) (n i : Nat) (hi : i < n * z.length) : (rep z n)[i]? = z[i % z.length]? := by
  induction n generalizing i with
  | zero => simp at hi
  | succ n ih =>
    have hz : 0 < z.length := by
      rcases Nat.eq_zero_or_pos z.length with h | h
      · rw [h] at hi; simp at hi
      · exact h
    unfold rep
    by_cases h : i < z.length
    · rw [List.getElem?_append_left h, Nat.mod_eq_of_lt h]
    · rw [List.getElem?_append_right (by omega), ih (i - z.length) (by rw [Nat.succ_mul] at hi; omega)]
      rw [← Nat.mod_eq_sub_mod (by omega)]

/-- Zeros laid n times. -/
theorem rep_rel {z : List V} {zs : List Value} (hr : RelL μ z zs) (n : Nat) :
    RelL μ (rep z n) ((Array.range (n * z.length)).map (fun i => (⟨zs⟩ : Array Value)[i % zs.length]!)).toList := by
  have hl := hr.length
  refine RelL.of_get (by simp [rep_length]) fun i u hi => ?_
  have hlt : i < n * z.length := by
    rcases Nat.lt_or_ge i (n * z.length) with h | h
    · exact h
    · rw [List.getElem?_eq_none (by rw [rep_length]; exact h)] at hi; cases hi
  rw [rep_get z n i hlt] at hi
  obtain ⟨X, hX, hx⟩ := hr.get hi
  refine ⟨X, ?_, hx⟩
  have hpos : 0 < zs.length := by
    rcases Nat.eq_zero_or_pos zs.length with h | h
    · rw [← hl, h] at hlt; simp at hlt
    · exact h
  have hm : i % zs.length < zs.length := Nat.mod_lt _ hpos
  rw [← hl] at hX
  simp only [Array.toList_map, Array.toList_range, List.getElem?_map, List.getElem?_range hlt, Option.map_some]
  congr 1
  rw [getElem!_pos (⟨zs⟩ : Array Value) (i % zs.length) (by simpa using hm)]
  rw [List.getElem?_eq_getElem hm] at hX
  cases hX
  rfl
end
end Go.Rv

/-
  New slices, lengths, capacities, slices of slices.
-/
namespace Go.Rv
open Go Go.RowKit
section
variable {P : Program} {tab : Tab} {D : Nat → Prop} {s s' : St} {μ : Mu} {e : Env} {nt : Nat} {a : Act} {w : World} {v : V} {o : Oper}

theorem oMakeSlice_ok (c : Cx P tab D s μ e nt a w) {t : Nat} {l k : Operand} (ho : o.op = .makeSlice t l k) (h : oMakeSlice tab e t l k s = some (v, s'))
    (hF : ∀ n, s.next ≤ n → n < s'.next → μ n = none) : Done D s s' μ w ((execOp a.eval o).run P w) v := by
  unfold oMakeSlice at h
  obtain ⟨p, hp, h1⟩ := ob_eq h
  obtain ⟨lv, hl, h2⟩ := ob_eq h1
  obtain ⟨ln, hln, h3⟩ := ob_eq h2
  obtain ⟨kv, hk, h4⟩ := ob_eq h3
  obtain ⟨kn, hkn, h5⟩ := ob_eq h4
  clear h h1 h2 h3 h4
  obtain ⟨k1, rfl⟩ := natOf_eq hln
  obtain ⟨k2, rfl⟩ := natOf_eq hkn
  obtain ⟨hb, h6⟩ := sel_some h5
  clear h5
  cases h6
  simp only [Bool.and_eq_true, Nat.ble_eq] at hb
  obtain ⟨⟨hc20, hlc⟩, hby⟩ := hb
  obtain ⟨hu, ht⟩ := elemOf_eq c.ty hp
  obtain ⟨i, z, hi, hsz, hbytes, hz, hr⟩ := ht.info
  have hL := c.ev hl
  have hK := c.ev hk
  simp only [Rel] at hL hK
  have hmul : p.2.bytes * kn ≤ 2 ^ 20 * 2 ^ 20 := Nat.mul_le_mul hby hc20
  have hrun := run_make (P := P) w t p.1 i z hu hi hz k1 k2 ln kn (by omega) (by omega)
    (by rw [hbytes]; have : ((p.2.bytes * kn : Nat) : Int) ≤ 2 ^ 20 * 2 ^ 20 := by omega
        rw [Int.natCast_mul] at this; omega) (by omega)
  simp only [Int.toNat_natCast] at hrun
  have hlen : p.2.zero.length = z.cells.size := by have := hr.length; simpa using this.symm
  have hrel : RelL μ (rep p.2.zero kn) (madeCells z.cells (kn * i.size)).toList := by
    have := rep_rel (hr.mono (Mu.none_le μ)) kn
    rw [ht.zlen, ← hsz] at this
    simpa [madeCells] using this
  have hst := c.allocL (u := p.1) (fresh_free hF) hrel
  refine ⟨_, _, _, .slice (some ⟨w.heap.size, 0, none⟩) ln kn, ?_, .inl rfl, hst, ?_⟩
  · simp [execOp, ho, hL, hK, hrun]
  · simp only [Rel]
    exact ⟨_, kn, Mu.add_same _ _ _, rfl, hlc, rfl⟩

end
end Go.Rv

/-
  Lengths, capacities, slices of slices.
-/
namespace Go.Rv
open Go Go.RowKit

def Good (D : Nat → Prop) (s s' : St) (μ : Mu) (w : World) (r : Result Value) (v : V) : Prop :=
  ∃ μ' w' X, r = .ok X w' ∧ Step low0 D s s' μ μ' w w' ∧ Rel μ' v X

section
variable {P : Program} {tab : Tab} {D : Nat → Prop} {s s' : St} {μ : Mu} {e : Env} {nt : Nat} {a : Act} {w : World} {v : V} {o : Oper}

theorem Cx.good (c : Cx P tab D s μ e nt a w) {X : Value} {r : Result Value} (hr : r = .ok X w) (hv : Rel μ v X) : Good D s s μ w r v :=
  ⟨μ, w, X, hr, c.same, hv⟩

theorem und_str {t : Nat} {ti : TI} (h : TyOk P t ti) (hd : ti.d.isStr = true) : P.underlying t = some .string := by
  obtain ⟨d, h1, h2⟩ := h.und
  obtain ⟨dd, x1, x2, x3⟩ := ti
  cases dd <;> first | (cases hd; done) | (simp only [DRel] at h2; rw [h1, h2])
theorem und_slice {t : Nat} {ti : TI} (h : TyOk P t ti) (hd : ti.d.isSlice = true) : ∃ u, P.underlying t = some (.slice u) := by
  obtain ⟨d, h1, h2⟩ := h.und
  obtain ⟨dd, x1, x2, x3⟩ := ti
  cases dd <;> first | (cases hd; done) | (simp only [DRel] at h2; exact ⟨_, by rw [h1, h2]⟩)
theorem und_map {t : Nat} {ti : TI} (h : TyOk P t ti) (hd : ti.d.isMap = true) : ∃ k u, P.underlying t = some (.map k u) := by
  obtain ⟨d, h1, h2⟩ := h.und
  obtain ⟨dd, x1, x2, x3⟩ := ti
  cases dd <;> first | (cases hd; done) | (simp only [DRel] at h2; exact ⟨_, _, by rw [h1, h2]⟩)

theorem RelE.length : ∀ {l : List (V × V × Nat)} {es : List MapEntry}, RelE μ l es → l.length = es.length
  | [], es, h => by simp only [RelE] at h; subst h; rfl
  | x :: l, es, h => by
    obtain ⟨k, v, n⟩ := x
    simp only [RelE] at h
    obtain ⟨y, ys, rfl, h⟩ := h
    simp [RelE.length (l := l) (es := ys) (by first | exact h.2.2.2 | exact h.2.2 | exact h.2)]

theorem lenV_ok (c : Cx P tab D s μ e nt a w) {t ty : Nat} {ats : Array Nat} {x : V} {X : Value} (ha : ats[0]? = some t) (hX : Rel μ x X)
    (h : lenV tab t x s = some (v, s')) (hA : ∀ n, s'.acc.testBit n = true → n < s.next → D n) :
    Good D s s' μ w ((Builtin.len_ ats ty #[X]).run P w) v := by
  unfold lenV at h
  obtain ⟨ti, ht, h1⟩ := ob_eq h
  clear h
  revert h1
  split
  · intro h1
    obtain ⟨hd, h2⟩ := sel_some h1
    cases h2
    simp only [Rel] at hX
    subst hX
    exact c.good (X := goInt _) (by simp [Builtin.len_, ha, run_underlying (und_str (c.ty _ _ ht) hd)]; rfl) (by simp [Rel, goInt, ByteArray.size])
  · intro h1
    obtain ⟨hd, h2⟩ := sel_some h1
    cases h2
    simp only [Rel] at hX
    subst hX
    obtain ⟨u, hu⟩ := und_slice (c.ty _ _ ht) hd
    exact c.good (X := goInt _) (by simp [Builtin.len_, ha, run_underlying hu]; rfl) (by simp [Rel, goInt])
  · intro h1
    obtain ⟨hd, h2⟩ := sel_some h1
    cases h2
    simp only [Rel] at hX
    obtain ⟨l, k, _, rfl, _⟩ := hX
    obtain ⟨u, hu⟩ := und_slice (c.ty _ _ ht) hd
    exact c.good (X := goInt _) (by simp [Builtin.len_, ha, run_underlying hu]; rfl) (by simp [Rel, goInt])
  · intro h1
    obtain ⟨hd, h2⟩ := sel_some h1
    cases h2
    simp only [Rel] at hX
    subst hX
    obtain ⟨k, u, hu⟩ := und_map (c.ty _ _ ht) hd
    exact c.good (X := goInt _) (by simp [Builtin.len_, ha, run_underlying hu]; rfl) (by simp [Rel, goInt])
  · rename_i n
    split
    · rename_i es ck s2 hr
      intro h1
      obtain ⟨hd, h2⟩ := sel_some h1
      cases h2
      obtain ⟨hg, rfl⟩ := read_eq hr
      obtain ⟨_, l, hl, hb⟩ := c.at_ hg (acc_bit s n) hA
      obtain ⟨k, u, hu⟩ := und_map (c.ty _ _ ht) hd
      obtain ⟨ES, h3, h4⟩ := hb
      simp only [Rel] at hX
      obtain ⟨l', hl', rfl⟩ := hX
      rw [hl] at hl'; cases hl'
      have hlen := h4.length
      refine ⟨μ, w, goInt ES.size, ?_, c.read n, by simp only [Rel, goInt]; rw [hlen]; simp⟩
      simp [Builtin.len_, ha, run_underlying hu, getObj, Sem.run, h3]
    · intro h1; cases h1
  · intro h1; cases h1

theorem capV_ok (c : Cx P tab D s μ e nt a w) {t ty : Nat} {ats : Array Nat} {x : V} {X : Value} (ha : ats[0]? = some t) (hX : Rel μ x X)
    (h : capV tab t x s = some (v, s')) :
    Good D s s' μ w ((Builtin.cap_ ats ty #[X]).run P w) v := by
  unfold capV at h
  obtain ⟨ti, ht, h1⟩ := ob_eq h
  clear h
  revert h1
  split
  · intro h1
    obtain ⟨hd, h2⟩ := sel_some h1
    cases h2
    simp only [Rel] at hX
    subst hX
    obtain ⟨u, hu⟩ := und_slice (c.ty _ _ ht) hd
    exact c.good (X := goInt _) (by simp [Builtin.cap_, ha, run_underlying hu]; rfl) (by simp [Rel, goInt])
  · intro h1
    obtain ⟨hd, h2⟩ := sel_some h1
    cases h2
    simp only [Rel] at hX
    obtain ⟨l, k, _, rfl, _, hk⟩ := hX
    subst hk
    obtain ⟨u, hu⟩ := und_slice (c.ty _ _ ht) hd
    exact c.good (X := goInt _) (by simp [Builtin.cap_, ha, run_underlying hu]; rfl) (by simp [Rel, goInt])
  · intro h1; cases h1

end
end Go.Rv
