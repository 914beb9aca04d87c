/-
  Single operations of the evaluator are those of the model: append, conversions. Conditions: those that each statement below names, and no other.
-/
import Derived.Test.YtdicpkjblflgbaaGreatDoorRunD
import Derived.Lib.ConvBytes
set_option linter.all false

/-
  append, whole.
-/
namespace Go.Rv
open Go Go.RowKit
section
variable {P : Program} {tab : Tab} {D : Nat → Prop} {s s' : St} {μ : Mu} {e : Env} {nt : Nat} {a : Act} {w : World} {v : V} {o : Oper}

theorem Cx.drew (c : Cx P tab D s μ e nt a w) : Cx P tab D s μ e nt a w.drew :=
  ⟨c.ty, c.env, c.glob, c.bnd, ⟨fun n b d g => let ⟨l, h1, h2⟩ := c.ok.rel n b d g; ⟨l, h1, h2.congr (Mu.le_refl _) rfl⟩, c.ok.sep⟩⟩

theorem same_dom {s s1 : St} (h : s1.next = s.next) : (fun n => D n ∨ s.next ≤ n ∧ n < s1.next) = D := by
  funext n
  rw [h]
  exact propext ⟨fun h => h.elim id (fun h => absurd h.2 (by omega)), .inl⟩

theorem Good.after {s1 : St} {r : Result Value} (h1 : Step low0 D s s1 μ μ w w) (hn : s1.next = s.next) (h : Good D s1 s' μ w r v) : Good D s s' μ w r v := by
  obtain ⟨μ', w', X, hr, hs, hv⟩ := h
  refine ⟨μ', w', X, hr, h1.trans ?_, hv⟩
  rw [same_dom hn]
  exact hs

theorem grown_ge (w : World) (need old e : Nat) : need ≤ grownCap w need old e := by
  unfold grownCap
  simp only [Question.cut]
  omega

/-- What is appended, as the model sees it. -/
structure Src1 (P : Program) (μ : Mu) (w : World) (esz n : Nat) (new : List V) (X : Value) : Prop where
  len : (Builtin.lenOf X).run P w = .ok n w
  size : new.length = n * esz
  cells : ∀ w1 : World, w1.heap = w.heap → ∃ xs, (Builtin.firstCells esz n X).run P w1 = .ok ⟨xs⟩ w1 ∧ RelL μ new xs

theorem src1 {s1 : St} {esz n : Nat} {new : List V} {X : Value} (h : Src D P μ w s s1 esz n new X) (hA : ∀ i, s1.acc.testBit i = true → i < s.next → D i) :
    Src1 P μ w esz n new X := by
  obtain ⟨_, h⟩ := h
  obtain ⟨h1, h2, _⟩ := h hA w rfl
  refine ⟨h1, h2, fun w1 hw1 => ?_⟩
  obtain ⟨_, _, h3⟩ := h hA w1 hw1
  obtain ⟨xs, h4, h5⟩ := h3 n (Nat.le_refl _)
  exact ⟨xs, h4, by rw [← h2, List.take_length] at h5; exact h5⟩

theorem appendNil_ok (c : Cx P tab D s μ e nt a w) {t u ty el k : Nat} {ats : Array Nat} {ti : TI} {new : List V} {X : Value} (h0 : ats[0]? = some t) (h1 : ats[1]? = some u)
    (hu : P.underlying u = some .string ∨ ∃ k, P.underlying u = some (.slice k)) (ht : P.underlying t = some (.slice el)) (hti : TyOk P el ti) (hsz : 0 < ti.size)
    (hB : ti.bytes ≤ 1000) (hx : Src1 P μ w ti.size (k + 1) new X) (hM : k + 1 ≤ 1000000) (hF : μ s.next = none) :
    Good D s (s.fresh (.cells el new true false)) μ w ((Builtin.append_ ats ty #[.slice none 0 0, X]).run P w) (.sl s.next 0 (k + 1) ti.size none) := by
  obtain ⟨xs, hf, hr⟩ := hx.cells w.drew rfl
  obtain ⟨z, hz, hrun⟩ := app_new (P := P) (w := w) (ty := ty) (base := none) (sLen := 0) (sCap := 0) (ys := []) h0 h1 hu ht hti hx.len hf (by simp [Builtin.firstCells]) (by omega) (by omega) hB
  have hzl : z.cells.size = ti.size := by have h1 := hz.length; rw [Array.length_toList, hti.zlen] at h1; exact h1
  have := c.fresh_row (old := []) (new := new) (ys := []) (xs := xs) (need := k + 1) (esz := ti.size) (el := el) (z := z.cells) (r := (Builtin.append_ ats ty #[.slice none 0 0, X]).run P w) hF (by simp [RelL]) hr (by simpa using hx.size) hzl hsz
    (grown_ge w (k + 1) 0 el) (by rw [Nat.zero_add] at hrun; exact hrun)
  exact this

def CapOk : Option Nat → Nat → Nat → Nat → Nat → Prop
  | some q, k, _, _, _ => k = q
  | none, k, o, esz, size => o + k * esz = size ∧ 0 < esz

theorem rel_sl {n o len esz : Nat} {cap : Option Nat} {Y : Value} (h : Rel μ (.sl n o len esz cap) Y) : ∃ l k, μ n = some l ∧ Y = .slice (some ⟨l.blk, l.off + o, none⟩) len k ∧ len ≤ k ∧
    CapOk cap k o esz l.size := by
  simp only [Rel] at h
  obtain ⟨l, k, h1, h2, h3, h4⟩ := h
  refine ⟨l, k, h1, h2, h3, ?_⟩
  cases cap <;> exact h4
theorem sl_rel {n o len esz k : Nat} {cap : Option Nat} {l : Loc} (h1 : μ n = some l) (h3 : len ≤ k) (h4 : CapOk cap k o esz l.size) :
    Rel μ (.sl n o len esz cap) (.slice (some ⟨l.blk, l.off + o, none⟩) len k) := by
  simp only [Rel]
  refine ⟨l, k, h1, rfl, h3, ?_⟩
  cases cap <;> exact h4

/-- In place. -/
theorem appIn_ok (c : Cx P tab D s μ e nt a w) {t u ty el k n o len cp : Nat} {ats : Array Nat} {ti : TI} {new cs cs' : List V} {X : Value} {l : Loc} {cap : Option Nat} {ext : Bool} {el' : Nat}
    (h0 : ats[0]? = some t) (h1 : ats[1]? = some u)
    (hu : P.underlying u = some .string ∨ ∃ k, P.underlying u = some (.slice k)) (ht : P.underlying t = some (.slice el)) (hti : TyOk P el ti)
    (hx : Src1 P μ w ti.size k new X) (hg : s.heap.get n = some (.cells el' cs ext false)) (hD : D n) (hlow : low0 ≤ n) (hone : new.all V.one = true)
    (hl : μ n = some l) (hb : BRel μ l w (.cells el' cs ext false)) (hput : putAt cs (o + len * ti.size) new = some cs') (hroom : len + k ≤ cp)
    (hcap : CapOk cap cp o ti.size l.size) :
    Good D s (({ s with acc := s.acc ||| 2 ^ n } : St).write n (.cells el' cs' ext false)) μ w
      ((Builtin.append_ ats ty #[.slice (some ⟨l.blk, l.off + o, none⟩) len cp, X]).run P w) (.sl n o (len + k) ti.size cap) := by
  obtain ⟨xs, hf, hr⟩ := hx.cells w rfl
  obtain ⟨w', r1, r2, r3⟩ := put_ok (P := P) hb hput hr hone
  refine ⟨μ, w', _, app_room (ty := ty) h0 h1 hu ht hti hx.len hf hroom ?_, c.write hD hlow hg hl r2 r3, ?_⟩
  · rw [add_plain, Nat.add_assoc]; exact r1
  · exact sl_rel hl hroom hcap

theorem firstCells_slice {l : Loc} {o len cp esz el' : Nat} {cs old : List V} {ext ro : Bool} (hb : BRel μ l w (.cells el' cs ext ro)) (hs : slCells cs o (len * esz) = some old) :
    ∃ ys, (Builtin.firstCells esz len (.slice (some ⟨l.blk, l.off + o, none⟩) len cp)).run P w.drew = .ok ⟨ys⟩ w.drew ∧ RelL μ old ys := by
  obtain ⟨ys, h1, h2, _⟩ := loadCells_ok (P := P) (w := w.drew) (hb.congr (Mu.le_refl μ) rfl) hs
  exact ⟨ys, by simpa [Builtin.firstCells] using h1, h2⟩

/-- Anew. -/
theorem appNew_ok (c : Cx P tab D s μ e nt a w) {t u ty el k o len cp : Nat} {ats : Array Nat} {ti : TI} {new cs old : List V} {X : Value} {l : Loc} {ext ro : Bool} {el' : Nat}
    (h0 : ats[0]? = some t) (h1 : ats[1]? = some u)
    (hu : P.underlying u = some .string ∨ ∃ k, P.underlying u = some (.slice k)) (ht : P.underlying t = some (.slice el)) (hti : TyOk P el ti) (hsz : 0 < ti.size) (hB : ti.bytes ≤ 1000)
    (hx : Src1 P μ w ti.size k new X) (hM : len + k ≤ 1000000)
    (hb : BRel μ l w (.cells el' cs ext ro)) (hs : slCells cs o (len * ti.size) = some old) (hroom : cp < len + k) (hF : μ s.next = none) :
    Good D s (s.fresh (.cells el (old ++ new) true false)) μ w
      ((Builtin.append_ ats ty #[.slice (some ⟨l.blk, l.off + o, none⟩) len cp, X]).run P w) (.sl s.next 0 (len + k) ti.size none) := by
  obtain ⟨xs, hf, hr⟩ := hx.cells w.drew rfl
  obtain ⟨ys, hy, hry⟩ := firstCells_slice (P := P) (cp := cp) hb hs
  obtain ⟨z, hz, hrun⟩ := app_new (P := P) (w := w) (ty := ty) (base := some ⟨l.blk, l.off + o, none⟩) (sLen := len) (sCap := cp) (ys := ys) h0 h1 hu ht hti hx.len hf hy hroom hM hB
  have hzl : z.cells.size = ti.size := by have h1 := hz.length; rw [Array.length_toList, hti.zlen] at h1; exact h1
  have hol := (slCells_eq hs).1
  exact c.fresh_row (el := el) (z := z.cells) hF hry hr (by rw [List.length_append, hol, hx.size, ← Nat.add_mul]) hzl hsz (grown_ge w (len + k) cp el) hrun

theorem Cx.killed (c : Cx P tab D s μ e nt a w) (n : Nat) : Cx P tab D (s.kill n) μ e nt a w :=
  ⟨c.ty, c.env, c.glob, fun k b' g => c.bnd k b' (kill_get s n k g).2, c.ok.less fun k b h => (kill_get s n k h).2⟩

/-- In place, under a new name. -/
theorem appGrow_ok (c : Cx P tab D s μ e nt a w) {t u ty el k n o len cp : Nat} {ats : Array Nat} {ti : TI} {new cs old : List V} {X : Value} {l : Loc} {ext : Bool}
    (h0 : ats[0]? = some t) (h1 : ats[1]? = some u)
    (hu : P.underlying u = some .string ∨ ∃ k, P.underlying u = some (.slice k)) (ht : P.underlying t = some (.slice el)) (hti : TyOk P el ti) (hsz : 0 < ti.size)
    (hx : Src1 P μ w ti.size k new X) (hg : s.heap.get n = some (.cells el cs ext false)) (hD : D n) (hlow : low0 ≤ n) (hone : new.all V.one = true)
    (hl : μ n = some l) (hb : BRel μ l w (.cells el cs ext false)) (hs : slCells cs o (len * ti.size) = some old) (hroom : len + k ≤ cp)
    (hcap : o + cp * ti.size = l.size) (hF : μ s.next = none) :
    Good D s ((s.kill n).fresh (.cells el (old ++ new) true false)) μ w
      ((Builtin.append_ ats ty #[.slice (some ⟨l.blk, l.off + o, none⟩) len cp, X]).run P w) (.sl s.next 0 (len + k) ti.size none) := by
  obtain ⟨xs, hf, hr⟩ := hx.cells w rfl
  obtain ⟨C, fz, b1, b2, b3, b4, b5, b6⟩ := hb
  have hlen := hr.length
  have hsn := hx.size
  have hle : (len + k) * ti.size ≤ cp * ti.size := Nat.mul_le_mul_right _ hroom
  rw [Nat.add_mul] at hle
  obtain ⟨C', w', r1, r2, r3, r4, r5⟩ := storeCells_ok P l.blk (l.off + (o + len * ti.size)) el fz xs 0 C w b1 (by omega) (ones_rel hr hone) (fun j hj hj' => b6 rfl j (by omega) hj')
  obtain ⟨hol, hog⟩ := slCells_eq hs
  have hbn : BRel (μ.add s.next ⟨l.blk, l.off + o, cp * ti.size⟩) ⟨l.blk, l.off + o, cp * ti.size⟩ w' (.cells el (old ++ new) true false) := by
    refine ⟨C', fz, r5, ?_, ?_, fun h => (by cases h), fun i v hi => ?_, fun _ j hj hj' => b6 rfl j ?_ ?_⟩
    · show l.off + o + cp * ti.size = C'.size
      omega
    · show (old ++ new).length ≤ cp * ti.size
      rw [List.length_append]; omega
    · show ∃ X, C'[l.off + o + i]? = some X ∧ _
      rw [r3]
      by_cases hi' : i < old.length
      · rw [List.getElem?_append_left hi'] at hi
        obtain ⟨X, hX, hxr⟩ := b5 _ _ (hog i v hi)
        rw [if_neg (by omega)]
        exact ⟨X, by rw [Nat.add_assoc]; exact hX, hxr.mono (Mu.le_add hF)⟩
      · rw [List.getElem?_append_right (by omega)] at hi
        obtain ⟨X, hX, hxr⟩ := hr.get hi
        have hlt : i - old.length < new.length := by
          rcases Nat.lt_or_ge (i - old.length) new.length with h | h
          · exact h
          · rw [List.getElem?_eq_none h] at hi; cases hi
        rw [if_pos (by omega)]
        refine ⟨X, ?_, hxr.mono (Mu.le_add hF)⟩
        rw [← hX]
        congr 1
        omega
    · have : l.off + o ≤ j := hj
      omega
    · omega
  refine ⟨_, w', _, app_room (ty := ty) h0 h1 hu ht hti hx.len hf hroom ?_, Step.regrow (l' := ⟨l.blk, l.off + o, cp * ti.size⟩) c.ok hD hlow hg c.bnd hl hF rfl r4 hbn, ?_⟩
  · rw [add_plain, Nat.add_assoc]; exact r1
  · exact sl_rel (l := ⟨l.blk, l.off + o, cp * ti.size⟩) (cap := none) (Mu.add_same _ _ _) hroom ⟨Nat.zero_add _, hsz⟩

end
end Go.Rv

/-
  append: the evaluator's.
-/
namespace Go.Rv
open Go Go.RowKit
section
variable {P : Program} {tab : Tab} {D : Nat → Prop} {s s' : St} {μ : Mu} {e : Env} {nt : Nat} {a : Act} {w : World} {v : V} {o : Oper}

theorem appendTo_ok (c : Cx P tab D s μ e nt a w) {t u ty el k n o len : Nat} {ats : Array Nat} {ti : TI} {new : List V} {X Y : Value} {cap : Option Nat}
    (h0 : ats[0]? = some t) (h1 : ats[1]? = some u)
    (hu : P.underlying u = some .string ∨ ∃ k, P.underlying u = some (.slice k)) (ht : P.underlying t = some (.slice el)) (hti : TyOk P el ti) (hsz : 0 < ti.size) (hB : ti.bytes ≤ 1000)
    (hY : Rel μ (.sl n o len ti.size cap) Y) (h : appendTo tab el ti n o len cap k new s = some (v, s')) (hA : ∀ n, s'.acc.testBit n = true → n < s.next → D n)
    (hF : ∀ n, s.next ≤ n → n < s'.next → μ n = none) (hx : (∀ n, s.acc.testBit n = true → n < s.next → D n) → Src1 P μ w ti.size k new X) :
    Good D s s' μ w ((Builtin.append_ ats ty #[Y, X]).run P w) v := by
  obtain ⟨l, cp, hl, rfl, hle, hcap⟩ := rel_sl hY
  unfold appendTo at h
  obtain ⟨el', cs, ext, ro, hg, h2⟩ := cells_eq h
  clear h
  have hbit := acc_bit s n
  have rd := c.read n
  have c1 := c.acc (s.acc ||| 2 ^ n)
  have fin : ∀ {s2 v2}, Good D { s with acc := s.acc ||| 2 ^ n } s2 μ w ((Builtin.append_ ats ty #[.slice (some ⟨l.blk, l.off + o, none⟩) len cp, X]).run P w) v2 →
      Good D s s2 μ w ((Builtin.append_ ats ty #[.slice (some ⟨l.blk, l.off + o, none⟩) len cp, X]).run P w) v2 := fun hg => hg.after rd rfl
  have old_acc : (∀ i, ({ s with acc := s.acc ||| 2 ^ n } : St).acc.testBit i = true → i < s.next → D i) → ∀ i, s.acc.testBit i = true → i < s.next → D i := fun h i hi hlt => h i (testBit_lor_pow.2 (.inl hi)) hlt
  revert h2
  split
  · intro h2
    cases h2
    have hx' := hx (old_acc hA)
    obtain ⟨xs, hf, hr⟩ := hx'.cells w rfl
    have hxs : xs = [] := by
      have h1 := hr.length
      have h2 := hx'.size
      exact List.length_eq_zero_iff.1 (by omega)
    subst hxs
    refine fin ⟨μ, w, _, app_room (ty := ty) h0 h1 hu ht hti hx'.len hf (by omega) rfl, c1.same, sl_rel hl (by omega) hcap⟩
  · rename_i hk0
    intro h2
    obtain ⟨hM, h3⟩ := sel_some h2
    clear h2
    simp only [Nat.ble_eq] at hM
    have inpl : ∀ {s2 v2}, (sel (may tab n ro new) ((putAt cs (o + len * ti.size) new).om fun cs' => (V.sl n o (len + k) ti.size cap, ({ s with acc := s.acc ||| 2 ^ n } : St).write n (.cells el' cs' ext ro))) none) = some (v2, s2) →
        (∀ n, s2.acc.testBit n = true → n < s.next → D n) → len + k ≤ cp →
        Good D s s2 μ w ((Builtin.append_ ats ty #[.slice (some ⟨l.blk, l.off + o, none⟩) len cp, X]).run P w) v2 := by
      intro s2 v2 h4 hA2 hroom
      obtain ⟨hm, h5⟩ := sel_some h4
      obtain ⟨cs', hput, h6⟩ := om_eq h5
      cases h6
      obtain ⟨rfl, hlow, hone⟩ := may_eq hm
      have hA' : ∀ i, ({ s with acc := s.acc ||| 2 ^ n } : St).acc.testBit i = true → i < s.next → D i := fun i hi hlt => hA2 i (testBit_lor_pow.2 (.inl hi)) hlt
      obtain ⟨hD, l', hl', hb⟩ := c.at_ (s' := { s with acc := s.acc ||| 2 ^ n }) hg hbit hA'
      rw [hl] at hl'; cases hl'
      have := appIn_ok c1 (ty := ty) (el' := el') (ext := ext) h0 h1 hu ht hti (hx (old_acc hA')) hg hD hlow hone hl hb hput hroom hcap
      refine fin ?_
      have e : (({ { s with acc := s.acc ||| 2 ^ n } with acc := (s.acc ||| 2 ^ n) ||| 2 ^ n } : St).write n (.cells el' cs' ext false)) = (({ s with acc := s.acc ||| 2 ^ n } : St).write n (.cells el' cs' ext false)) := by
        unfold St.write
        simp [Nat.or_assoc]
      rw [← e]
      exact this
    have anew : ∀ {s2 v2}, ((slCells cs o (len * ti.size)).om fun old => (V.sl s.next 0 (len + k) ti.size none, ({ s with acc := s.acc ||| 2 ^ n } : St).fresh (.cells el (old ++ new) true false))) = some (v2, s2) →
        (∀ n, s2.acc.testBit n = true → n < s.next → D n) → (∀ n, s.next ≤ n → n < s2.next → μ n = none) → cp < len + k →
        Good D s s2 μ w ((Builtin.append_ ats ty #[.slice (some ⟨l.blk, l.off + o, none⟩) len cp, X]).run P w) v2 := by
      intro s2 v2 h4 hA2 hF2 hroom
      obtain ⟨old, hold, h6⟩ := om_eq h4
      cases h6
      have hA' : ∀ i, ({ s with acc := s.acc ||| 2 ^ n } : St).acc.testBit i = true → i < s.next → D i := hA2
      obtain ⟨hD, l', hl', hb⟩ := c.at_ (s' := { s with acc := s.acc ||| 2 ^ n }) hg hbit hA'
      rw [hl] at hl'; cases hl'
      exact fin (appNew_ok c1 (ty := ty) h0 h1 hu ht hti hsz hB (hx (old_acc hA')) hM hb hold hroom (fresh_free hF2))
    revert h3
    split
    · rename_i cpk
      intro h3
      have hck : cp = cpk := hcap
      subst hck
      rw [sel_eq] at h3
      by_cases hr : Nat.ble (len + k) cp = true
      · rw [if_pos hr] at h3
        exact inpl h3 hA (Nat.le_of_ble_eq_true hr)
      · rw [if_neg hr] at h3
        exact anew h3 hA hF (by rw [Nat.ble_eq] at hr; omega)
    · intro h3
      obtain ⟨hcs, _⟩ := hcap
      rw [sel_eq] at h3
      by_cases hr : Nat.ble (o + (len + k) * ti.size) cs.length = true
      · rw [if_pos hr] at h3
        rw [Nat.ble_eq] at hr
        have hroom : (∀ n, s'.acc.testBit n = true → n < s.next → D n) → len + k ≤ cp := fun hA => by
          have hA' : ∀ i, ({ s with acc := s.acc ||| 2 ^ n } : St).acc.testBit i = true → i < s.next → D i := fun i hi hlt => hA i (by
            obtain ⟨hm, h5⟩ := sel_some h3
            obtain ⟨cs', hput, h6⟩ := om_eq h5
            cases h6
            exact testBit_lor_pow.2 (.inl hi)) hlt
          obtain ⟨hD, l', hl', hb⟩ := c.at_ (s' := { s with acc := s.acc ||| 2 ^ n }) hg hbit hA'
          rw [hl] at hl'; cases hl'
          obtain ⟨C, fz, b1, b2, b3, b4, b5, b6⟩ := hb
          have : (len + k) * ti.size ≤ cp * ti.size := by omega
          exact Nat.le_of_mul_le_mul_right this hsz
        exact inpl h3 hA (hroom hA)
      · rw [if_neg hr] at h3
        obtain ⟨hcond, h4⟩ := sel_some h3
        obtain ⟨old, hold, h5⟩ := om_eq h4
        cases h5
        simp only [Bool.and_eq_true, Nat.beq_eq] at hcond
        obtain ⟨⟨⟨hm, rfl⟩, hol⟩, rfl⟩ := hcond
        obtain ⟨rfl, hlow, hone⟩ := may_eq hm
        have hA' : ∀ i, ({ s with acc := s.acc ||| 2 ^ n } : St).acc.testBit i = true → i < s.next → D i := fun i hi hlt => hA i (testBit_lor_pow.2 (.inl hi)) hlt
        obtain ⟨hD, l', hl', hb⟩ := c.at_ (s' := { s with acc := s.acc ||| 2 ^ n }) hg hbit hA'
        rw [hl] at hl'; cases hl'
        have hF1 : μ s.next = none := hF s.next (Nat.le_refl _) (Nat.lt_succ_self _)
        by_cases hroom : len + k ≤ cp
        · exact fin (appGrow_ok c1 (ty := ty) h0 h1 hu ht hti hsz (hx (old_acc hA')) hg hD hlow hone hl hb hold hroom hcs hF1)
        · have hk := Step.kill (s := { s with acc := s.acc ||| 2 ^ n }) c1.ok hlow hg
          have := appNew_ok (c1.killed n) (ty := ty) (k := k) (cp := cp) h0 h1 hu ht hti hsz hB (hx (old_acc hA')) hM hb hold (by omega) hF1
          exact fin (Good.after hk rfl this)

theorem appendV_ok (c : Cx P tab D s μ e nt a w) {t u ty : Nat} {ats : Array Nat} {y x : V} {Y X : Value} (h0 : ats[0]? = some t) (h1 : ats[1]? = some u) (hu : seqTy tab u = true)
    (hY : Rel μ y Y) (hX : Rel μ x X) (h : appendV tab t y x s = some (v, s')) (hA : ∀ n, s'.acc.testBit n = true → n < s.next → D n)
    (hF : ∀ n, s.next ≤ n → n < s'.next → μ n = none) : Good D s s' μ w ((Builtin.append_ ats ty #[Y, X]).run P w) v := by
  unfold appendV at h
  obtain ⟨p, hp, h2⟩ := ob_eq h
  clear h
  obtain ⟨hb, h3⟩ := sel_none h2
  clear h2
  simp only [Bool.or_eq_false_iff] at hb
  obtain ⟨hb1, hb2⟩ := hb
  have hsz : 0 < p.2.size := by
    have : p.2.size ≠ 0 := fun e => by rw [e] at hb1; cases hb1
    omega
  have hB : p.2.bytes ≤ 1000 := by
    rcases Nat.lt_or_ge 1000 p.2.bytes with e | e
    · have : Nat.blt 1000 p.2.bytes = true := by rw [Nat.blt_eq]; exact e
      rw [this] at hb2; cases hb2
    · exact e
  obtain ⟨ht, hti⟩ := elemOf_eq c.ty hp
  obtain ⟨k, new, s1, h4, hs1, hsrc⟩ := src_ok c hX h3
  clear h3
  obtain ⟨st1, c1, hn1, hh1, hacc1⟩ := src_step c hs1
  have hut := seq_ty c.ty hu
  have hx : (∀ n, s1.acc.testBit n = true → n < s1.next → D n) → Src1 P μ w p.2.size k new X := fun h => src1 ⟨hs1, hsrc⟩ (by rw [hn1] at h; exact h)
  revert h4
  split
  · split
    · intro h4
      cases h4
      have hx' := hx (by rw [hn1]; exact hA)
      obtain ⟨xs, hf, hr⟩ := hx'.cells w rfl
      have hxs : xs = [] := by
        have h1 := hr.length
        have h2 := hx'.size
        exact List.length_eq_zero_iff.1 (by omega)
      subst hxs
      simp only [Rel] at hY
      subst hY
      refine ⟨μ, w, .slice none 0 0, ?_, st1, by simp [Rel]⟩
      rcases hut with hut | ⟨q, hut⟩ <;> simp [Builtin.append_, h0, h1, run_underlying ht, run_underlying hut, size_run hti, hx'.len, hf]
    · intro h4
      obtain ⟨hM, h5⟩ := sel_some h4
      cases h5
      simp only [Rel] at hY
      subst hY
      rename_i hk0
      obtain ⟨k', rfl⟩ : ∃ k', k = k' + 1 := by
        cases k with
        | zero => exact absurd rfl hk0
        | succ k => exact ⟨k, rfl⟩
      have hx' := hx (by rw [hn1]; exact hA)
      exact (appendNil_ok c1 (ty := ty) h0 h1 hut ht hti hsz hB hx' (by simpa [Nat.ble_eq] using hM) (hF s1.next (Nat.le_of_eq hn1.symm) (Nat.lt_succ_self _))).after st1 hn1
  · rename_i n o len esz cap
    intro h4
    obtain ⟨he, h5⟩ := sel_some h4
    simp only [Nat.beq_eq] at he
    subst he
    exact (appendTo_ok c1 (ty := ty) h0 h1 hut ht hti hsz hB hY h5 (by rw [hn1]; exact hA) (by rw [hn1]; exact hF) hx).after st1 hn1
  · intro h4; cases h4

end
end Go.Rv

/-
  Conversions.
-/
namespace Go.Rv
open Go Go.RowKit

def LiesOk (P : Program) (tab : Tab) : Prop := ∀ e n o u, tab.lies e n o u = true → liesAt P P.depth e (n / P.cellsOf e) o u 1 = true

section
variable {P : Program} {tab : Tab} {D : Nat → Prop} {s s' : St} {μ : Mu} {e : Env} {nt : Nat} {a : Act} {w : World} {v : V} {o : Oper}

theorem int_und {t : Nat} {ti : TI} (h : TyOk P t ti) {k : IntKind} (hd : ti.d = .int k) : P.underlying t = some (.int k) := by
  obtain ⟨d, h1, h2⟩ := h.und
  rw [hd] at h2
  simp only [DRel] at h2
  rw [h1, h2]
theorem ptr_und {t : Nat} {ti : TI} (h : TyOk P t ti) {u : Nat} (hd : ti.d = .ptr u) : P.underlying t = some (.pointer u) := by
  obtain ⟨d, h1, h2⟩ := h.und
  rw [hd] at h2
  simp only [DRel] at h2
  rw [h1, h2]
theorem uptr_und {t : Nat} {ti : TI} (h : TyOk P t ti) (hd : ti.d = .uptr) : P.underlying t = some .unsafePointer := by
  obtain ⟨d, h1, h2⟩ := h.und
  rw [hd] at h2
  simp only [DRel] at h2
  rw [h1, h2]
theorem any_und {t : Nat} {ti : TI} (h : TyOk P t ti) : ∃ d, P.underlying t = some d := let ⟨d, h1, _⟩ := h.und; ⟨d, h1⟩

theorem convInt_ok (c : Cx P tab D s μ e nt a w) {src dst : Nat} {k : IntKind} {x : V} {X : Value} (hd : P.underlying dst = some (.int k)) (hX : Rel μ x X)
    (h : convInt tab src k x s = some (v, s')) : Good D s s' μ w ((convert src dst X).run P w) v := by
  unfold convInt at h
  split at h
  · rename_i ti k' n ht
    cases h
    simp only [Rel] at hX
    subst hX
    obtain ⟨d, hu⟩ := any_und (c.ty _ _ ht)
    refine c.good (X := .int k (k.wrap n)) ?_ (by simp [Rel])
    simp [convert, run_underlying hd, run_underlying hu, Conv.intToInt]
  · cases h

theorem relL_bytes : ∀ {l : List V} {xs : List Value} {b : List UInt8}, RelL μ l xs → bytesOf l = some b → ∃ ns : List Int, xs = ns.map (Value.int .u8) ∧ b = ns.map fun n => UInt8.ofNat n.toNat
  | [], xs, b, h, hb => by
    simp only [RelL] at h
    subst h
    unfold bytesOf at hb; cases hb
    exact ⟨[], rfl, rfl⟩
  | x :: l, xs, b, h, hb => by
    simp only [RelL] at h
    obtain ⟨y, ys, rfl, h1, h2⟩ := h
    obtain ⟨n, b', rfl, hb', rfl⟩ := bytesOf_cons hb
    simp only [Rel] at h1
    subst h1
    obtain ⟨ns, rfl, rfl⟩ := relL_bytes h2 hb'
    exact ⟨n :: ns, rfl, rfl⟩

theorem runesOf_cons {x : V} {vs : List V} {b : List Int} (h : runesOf (x :: vs) = some b) : ∃ n b', x = .int .i32 n ∧ runesOf vs = some b' ∧ b = n :: b' := by
  unfold runesOf at h
  split at h
  · rename_i heq; cases heq
  · rename_i n l heq
    cases heq
    obtain ⟨b', h1, rfl⟩ := om_eq h
    exact ⟨n, b', rfl, h1, rfl⟩
  · cases h

theorem relL_runes : ∀ {l : List V} {xs : List Value} {b : List Int}, RelL μ l xs → runesOf l = some b → xs = b.map (Value.int .i32)
  | [], xs, b, h, hb => by
    simp only [RelL] at h
    subst h
    unfold runesOf at hb; cases hb
    rfl
  | x :: l, xs, b, h, hb => by
    simp only [RelL] at h
    obtain ⟨y, ys, rfl, h1, h2⟩ := h
    obtain ⟨n, b', rfl, hb', rfl⟩ := runesOf_cons hb
    simp only [Rel] at h1
    subst h1
    rw [relL_runes h2 hb']
    rfl

theorem push_all : ∀ (ns : List Int) (s : ByteArray), ns.foldl (fun r n => r.push (UInt8.ofNat n.toNat)) s = ⟨s.data ++ (ns.map fun n => UInt8.ofNat n.toNat).toArray⟩
  | [], s => by simp
  | n :: ns, s => by
    simp only [List.foldl_cons, push_all ns]
    apply ByteArray.ext
    simp [ByteArray.push]

theorem run_forIn_runes {P : Program} {w : World} (f : Value → ByteArray → Sem (ForInStep ByteArray))
    (hf : ∀ (n : Int) (r : ByteArray), (f (.int .i32 n) r).run P w = .ok (.yield (r ++ Utf8.encode n)) w) :
    ∀ (ns : List Int) (s : ByteArray), (forIn (ns.map (Value.int .i32)) s f).run P w = .ok (ns.foldl (fun r n => r ++ Utf8.encode n) s) w := by
  intro ns
  induction ns with
  | nil => intro s; simp [Sem.run_pure]
  | cons n ns ih =>
    intro s
    simp only [List.map_cons, List.forIn_cons, Sem.run_bind, hf, Result.andThen, List.foldl_cons]
    exact ih _

theorem run_runesToString {P : Program} (w : World) (a : Addr) (len cap : Nat) (ns : List Int)
    (h : (loadCells a len).run P w = .ok (ns.map (Value.int .i32)).toArray w) :
    (Conv.runesToString (.slice (some a) len cap)).run P w = .ok (.string (ns.foldl (fun r n => r ++ Utf8.encode n) ByteArray.empty)) w := by
  unfold Conv.runesToString
  simp only [Sem.run_bind, h, Result.andThen, List.forIn_toArray]
  rw [run_forIn_runes _ (by intro n r; simp [Sem.run_pure])]
  simp [Sem.run_pure]

theorem append_all : ∀ (ns : List Int) (s : ByteArray), ns.foldl (fun r n => r ++ Utf8.encode n) s = ⟨s.data ++ (ns.flatMap fun n => (Utf8.encode n).data.toList).toArray⟩
  | [], s => by simp
  | n :: ns, s => by
    simp only [List.foldl_cons, append_all ns]
    apply ByteArray.ext
    apply Array.ext'
    simp [ByteArray.data_append]

theorem convStr_ok (c : Cx P tab D s μ e nt a w) {src dst : Nat} {x : V} {X : Value} (hd : P.underlying dst = some .string) (hX : Rel μ x X)
    (h : convStr tab src x s = some (v, s')) (hA : ∀ n, s'.acc.testBit n = true → n < s.next → D n) : Good D s s' μ w ((convert src dst X).run P w) v := by
  unfold convStr at h
  split at h
  · obtain ⟨ti, ht, h⟩ := om_eq h
    cases h
    simp only [Rel] at hX
    subst hX
    obtain ⟨d, hu⟩ := any_und (c.ty _ _ ht)
    exact c.good (X := .string _) (by simp [convert, run_underlying hd, run_underlying hu]; rfl) (by simp [Rel])
  · obtain ⟨p, hp, h⟩ := ob_eq h
    obtain ⟨v', hv, h⟩ := om_eq h
    cases h
    obtain ⟨hu, ht⟩ := elemOf_eq c.ty hp
    simp only [Rel] at hX
    subst hX
    unfold toStr at hv
    split at hv
    · rename_i hdd
      have he := int_und ht hdd
      cases hv
      refine c.good (X := .string .empty) ?_ (by simp [Rel]; rfl)
      simp [convert, run_underlying hd, run_underlying hu, run_underlying he, Conv.bytesToString]
    · rename_i hdd
      have he := int_und ht hdd
      cases hv
      refine c.good (X := .string .empty) ?_ (by simp [Rel]; rfl)
      simp [convert, run_underlying hd, run_underlying hu, run_underlying he, Conv.runesToString]
    · cases hv
  · rename_i n k len esz cap
    obtain ⟨p, hp, h⟩ := ob_eq h
    obtain ⟨u, cs, ext, ro, hg, h⟩ := cells_eq h
    obtain ⟨l0, hl0, h⟩ := ob_eq h
    obtain ⟨v', hv, h⟩ := om_eq h
    cases h
    obtain ⟨hu, ht⟩ := elemOf_eq c.ty hp
    obtain ⟨l, cp, hl, rfl, hle, hcap⟩ := rel_sl hX
    obtain ⟨_, l', hl', hb⟩ := c.at_ hg (acc_bit s n) hA
    rw [hl] at hl'; cases hl'
    obtain ⟨xs, h3, h4, _⟩ := loadCells_ok (P := P) hb hl0
    unfold toStr at hv
    split at hv
    · rename_i hdd
      have he := int_und ht hdd
      obtain ⟨b, hb', hv⟩ := om_eq hv
      subst hv
      obtain ⟨ns, rfl, rfl⟩ := relL_bytes h4 hb'
      refine ⟨μ, w, .string (ns.foldl (fun r n => r.push (UInt8.ofNat n.toNat)) ByteArray.empty), ?_, c.read n, ?_⟩
      · rw [run_convert_bytes_string _ _ _ _ _ _ _ hu he hd, run_bytesToString _ _ _ _ ns (by simpa using h3)]
      · simp only [Rel]
        rw [push_all]
        congr 1
        apply ByteArray.ext
        simp
    · rename_i hdd
      have he := int_und ht hdd
      obtain ⟨b, hb', hv⟩ := om_eq hv
      subst hv
      have hxs := relL_runes h4 hb'
      subst hxs
      refine ⟨μ, w, .string (b.foldl (fun r n => r ++ Utf8.encode n) ByteArray.empty), ?_, c.read n, ?_⟩
      · have : (convert src dst (.slice (some ⟨l.blk, l.off + k, none⟩) len cp)).run P w = (Conv.runesToString (.slice (some ⟨l.blk, l.off + k, none⟩) len cp)).run P w := by
          simp [convert, run_underlying hd, run_underlying hu, run_underlying he]
        rw [this, run_runesToString _ _ _ _ b (by simpa using h3)]
      · simp only [Rel]
        rw [append_all]
        congr 1
        apply ByteArray.ext
        simp
    · cases hv
  · cases h

/-- A block of which only the mark turns. -/
theorem frozen_same {b : Nat} {o n : Nat} : SameBut b w (w.freeze ⟨b, o, none⟩ n) := by
  unfold World.freeze
  split
  · exact SameBut.refl _ _
  · exact ⟨by simp, rfl, rfl, rfl, fun r hr => by simp [Array.getElem?_modify, Ne.symm hr]⟩

theorem frozen_ro {l : Loc} {u : Nat} {cs : List V} {ext ro : Bool} {o n : Nat} (hb : BRel μ l w (.cells u cs ext ro)) : BRel μ l (w.freeze ⟨l.blk, o, none⟩ n) (.cells u cs ext true) := by
  obtain ⟨C, fz, b1, b2, b3, b4, b5, b6⟩ := hb
  by_cases hn : n = 0
  · subst hn
    exact ⟨C, fz, by simpa [World.freeze] using b1, b2, b3, b4, b5, fun h => by cases h⟩
  · refine ⟨C, (if fz.1 == fz.2 then (o, o + n) else (min fz.1 o, max fz.2 (o + n))), ?_, b2, b3, b4, b5, fun h => by cases h⟩
    simp [World.freeze, hn, Array.getElem?_modify, b1]

theorem convSlice_ok (c : Cx P tab D s μ e nt a w) {src dst el : Nat} {x : V} {X : Value} (hd : P.underlying dst = some (.slice el)) (hX : Rel μ x X)
    (h : convSlice tab src dst el x s = some (v, s')) (hA : ∀ n, s'.acc.testBit n = true → n < s.next → D n) (hF : ∀ n, s.next ≤ n → n < s'.next → μ n = none) :
    Good D s s' μ w ((convert src dst X).run P w) v := by
  unfold convSlice at h
  obtain ⟨te, hte, h1⟩ := ob_eq h
  clear h
  split at h1
  · rename_i dd n k len esz cap hdd
    have he := int_und (c.ty _ _ hte) hdd
    obtain ⟨hc, h2⟩ := sel_some h1
    simp only [Bool.and_eq_true, Nat.beq_eq, Nat.ble_eq] at hc
    obtain ⟨rfl, hlow⟩ := hc
    obtain ⟨u, cs, ext, ro, hg, h3⟩ := cells_eq h2
    cases h3
    obtain ⟨l, cp, hl, rfl, hle, hcap⟩ := rel_sl hX
    obtain ⟨hD, l', hl', hb⟩ := c.at_ hg (s' := _) (testBit_lor_pow.2 (.inl (acc_bit s n))) hA
    rw [hl] at hl'; cases hl'
    obtain ⟨C, fz, b1, b2, b3, b4, b5, b6⟩ := id hb
    have hsh : w.shape? l.blk = some (u, C.size) := by simp [World.shape?, b1]
    refine ⟨μ, w.freeze ⟨l.blk, C.size, none⟩ 1, _, ?_, c.write hD hlow hg hl frozen_same (frozen_ro hb), sl_rel hl hle hcap⟩
    simp [convert, run_underlying hd, run_underlying he, markStringish, hsh]
  · rename_i dd b hdd
    have he := int_und (c.ty _ _ hte) hdd
    obtain ⟨hc, h2⟩ := sel_some h1
    obtain ⟨ti, ht, h3⟩ := om_eq h2
    cases h3
    obtain ⟨d, hu⟩ := any_und (c.ty _ _ ht)
    simp only [Rel] at hX
    subst hX
    have hF1 : μ s.next = none := hF s.next (Nat.le_refl _) (Nat.lt_succ_self _)
    have hrun := Lib.run_convert_string_bytes (P := P) w src dst el ⟨b.toArray⟩ hu hd he
    have hbs : (⟨b.toArray⟩ : ByteArray).size = b.length := by show b.toArray.size = b.length; simp
    have hge := grown_ge w b.length 0 el
    have hbsz : (Lib.bytesCells w el ⟨b.toArray⟩).size = grownCap w b.length 0 el := by
      simp [Lib.bytesCells, hbs]; omega
    have hst := Step.alloc (low := low0) (D := D) (s := s) (μ := μ) (w := w) (b := .cells el (byteCells b) true false) (o := .cells (Lib.bytesCells w el ⟨b.toArray⟩) el ((Lib.bytesCells w el ⟨b.toArray⟩).size, (Lib.bytesCells w el ⟨b.toArray⟩).size + 1))
      (sz := grownCap w b.length 0 el) c.ok c.bnd hF1 (by
        refine ⟨_, _, heap_alloc_new w _, by simp [hbsz], by simp [byteCells]; omega, fun h => (by cases h), fun i v hi => ?_, fun _ j _ hj h => by omega⟩
        obtain ⟨X, hX, hx⟩ := (byteCells_rel (μ := μ.add s.next ⟨w.heap.size, 0, grownCap w b.length 0 el⟩) b).get hi
        refine ⟨X, ?_, hx⟩
        have hlt : i < b.length := by
          rcases Nat.lt_or_ge i b.length with h | h
          · exact h
          · rw [List.getElem?_eq_none (by simpa using h)] at hX; cases hX
        rw [Nat.zero_add]
        simp only [Lib.bytesCells]
        rw [Array.getElem?_append_left (by simpa using hlt)]
        simpa using hX)
    refine ⟨_, Lib.bytesWorld w el ⟨b.toArray⟩, _, hrun, hst.world ?_ ?_ ?_ ?_, ?_⟩
    · apply Array.ext_getElem?
      intro i
      by_cases h1 : i < w.heap.size
      · rw [Lib.bytesWorld_at_old _ _ _ _ h1, heap_alloc_lt h1]
      · by_cases h2 : i = w.heap.size
        · subst h2
          rw [Lib.bytesWorld_at_new, heap_alloc_new]
        · rw [Array.getElem?_eq_none (by rw [Lib.bytesWorld_size]; omega), Array.getElem?_eq_none (by simp; omega)]
    · rfl
    · rfl
    · rfl
    · rw [hbs]
      exact sl_rel (o := 0) (cap := none) (Mu.add_same _ _ _) hge ⟨by simp, Nat.one_pos⟩
  · cases h1

theorem view_cells {b u : Nat} {n : Nat} (h : w.shape? b = some (u, n)) : (viewAt b).run P w = .ok none w := by
  simp [viewAt, h]
theorem seen_cells {A : Addr} {u n : Nat} (h : w.shape? A.block = some (u, n)) : (Conv.seenAt A).run P w = .ok A w := by
  simp [Conv.seenAt, view_cells (P := P) h]
theorem cellsIn_cells {b u n : Nat} (h : w.shape? b = some (u, n)) : (cellsIn b).run P w = .ok (some n) w := by
  simp [cellsIn, h]

theorem convUptr_ok (c : Cx P tab D s μ e nt a w) {src dst : Nat} {x : V} {X : Value} (hd : P.underlying dst = some .unsafePointer) (hX : Rel μ x X)
    (h : convUptr tab src x s = some (v, s')) (hA : ∀ n, s'.acc.testBit n = true → n < s.next → D n) :
    Good D s s' μ w ((convert src dst X).run P w) v := by
  unfold convUptr at h
  split at h
  · rename_i el q1 q2 q3 ht
    have hu := ptr_und (c.ty _ _ ht) rfl
    split at h
    · cases h
      simp only [Rel] at hX
      subst hX
      exact c.good (X := .pointer none) (by simp [convert, run_underlying hd, run_underlying hu, Conv.unsafePointer]) (by simp [Rel])
    · rename_i n k
      obtain ⟨te, hte, h⟩ := ob_eq h
      obtain ⟨u, cs, ext, ro, hg, h⟩ := cells_eq h
      obtain ⟨hc, h⟩ := sel_some h
      cases h
      simp only [Bool.and_eq_true, Bool.not_eq_true'] at hc
      have hsz : te.size ≠ 0 := fun e => by rw [e] at hc; cases hc.1
      have hlt : k < cs.length := by have := hc.2; rw [Nat.blt_eq] at this; exact this
      simp only [Rel] at hX
      obtain ⟨l, hl, rfl⟩ := hX
      obtain ⟨_, l', hl', hb⟩ := c.at_ hg (acc_bit s n) hA
      rw [hl] at hl'; cases hl'
      obtain ⟨C, fz, b1, b2, b3, b4, b5, b6⟩ := id hb
      have hsh : w.shape? l.blk = some (u, C.size) := by simp [World.shape?, b1]
      refine ⟨μ, w, .pointer (some ⟨l.blk, l.off + k, none⟩), ?_, c.read n, by simp only [Rel]; exact ⟨l, hl, rfl⟩⟩
      have h1 := seen_cells (P := P) (A := ⟨l.blk, l.off + k, none⟩) hsh
      have h2 := cellsIn_cells (P := P) hsh
      have h3 : ¬ (C.size ≤ l.off + k) := by omega
      simp [convert, run_underlying hd, run_underlying hu, Conv.unsafePointer, h1, h2, size_run (c.ty _ _ hte), hsz, h3]
    · cases h
  · cases h

theorem convPtr_ok (c : Cx P tab D s μ e nt a w) (hL : LiesOk P tab) {src dst u : Nat} {x : V} {X : Value} (hd : P.underlying dst = some (.pointer u)) (hX : Rel μ x X)
    (h : convPtr tab src u x s = some (v, s')) (hA : ∀ n, s'.acc.testBit n = true → n < s.next → D n) :
    Good D s s' μ w ((convert src dst X).run P w) v := by
  unfold convPtr at h
  split at h
  · rename_i q1 q2 q3 ht
    have hu := uptr_und (c.ty _ _ ht) rfl
    split at h
    · rename_i n k
      obtain ⟨el, cs, ext, ro, hg, h⟩ := cells_eq h
      obtain ⟨tu, htu, h⟩ := ob_eq h
      obtain ⟨hc, h⟩ := sel_some h
      cases h
      simp only [Bool.and_eq_true, Bool.not_eq_true'] at hc
      obtain ⟨rfl, hlies⟩ := hc
      have hu' : ∃ i, P.info? u = some i := let ⟨i, _, h1, _⟩ := (c.ty _ _ htu).info; ⟨i, h1⟩
      simp only [Rel] at hX
      obtain ⟨l, hl, rfl⟩ := hX
      obtain ⟨_, l', hl', hb⟩ := c.at_ hg (acc_bit s n) hA
      rw [hl] at hl'; cases hl'
      obtain ⟨C, fz, b1, b2, b3, b4, b5, b6⟩ := id hb
      obtain ⟨e1, e2⟩ := b4 rfl
      have hsh : w.shape? l.blk = some (el, C.size) := by simp [World.shape?, b1]
      refine ⟨μ, w, .pointer (some ⟨l.blk, l.off + k, none⟩), ?_, c.read n, by simp only [Rel]; exact ⟨l, hl, rfl⟩⟩
      have h1 := seen_cells (P := P) (A := ⟨l.blk, l.off + k, none⟩) hsh
      have hC : C.size = cs.length := by omega
      have h3 := hL _ _ _ _ hlies
      rw [← hC] at h3
      obtain ⟨i, hi⟩ := hu'
      have hoff : l.off + k = k := by omega
      simp only [hoff] at h1 ⊢
      simp [convert, run_underlying hd, run_underlying hu, Conv.unsafePointer, h1, sizeOf, typeInfo, hi, variablesAt, hsh, h3]
    · cases h
  · cases h

end
end Go.Rv

/-
  unsafe.String; all builtins.
-/
namespace Go.Rv
open Go Go.RowKit
section
variable {P : Program} {tab : Tab} {D : Nat → Prop} {s s' : St} {μ : Mu} {e : Env} {nt : Nat} {a : Act} {w : World} {v : V} {o : Oper}

theorem liesAt_row {u : TypeId} (hc : P.cellsOf u = 1) (count off n : Nat) (hn : off + n ≤ count) : liesAt P P.depth u count off u n = true := by
  have hd : P.depth = (2 * (P.types.size + Made.depth) + 1) + 1 := rfl
  rw [hd]
  simp only [liesAt, Bool.or_eq_true]
  left
  rw [hd]
  have : off % 1 = 0 := by omega
  simp [rowAt, hc, hn, sameLayout, this]

theorem ustrV_ok (c : Cx P tab D s μ e nt a w) {t ty : Nat} {ats : Array Nat} {p m : V} {Y X : Value} (ha : ats[0]? = some t) (hY : Rel μ p Y) (hX : Rel μ m X)
    (h : ustrV tab t p m s = some (v, s')) (hA : ∀ n, s'.acc.testBit n = true → n < s.next → D n) :
    Good D s s' μ w ((Builtin.unsafeString_ ats ty #[Y, X]).run P w) v := by
  unfold ustrV at h
  obtain ⟨k, hk, h1⟩ := ob_eq h
  clear h
  obtain ⟨ik, rfl⟩ := natOf_eq hk
  simp only [Rel] at hX
  subst hX
  have hmax : IntKind.i64.max = 9223372036854775807 := rfl
  have hdef : ∀ q : Option Addr, Builtin.unsafeString_ ats ty #[.pointer q, .int ik k] =
      (do
        let n ← asInt (.int ik k)
        let some pt := ats[0]? | stuck "unsafe.String: no argument types"
        if n < 0 then runtimePanic (.error "unsafe.String: len out of range")
        if n > IntKind.i64.max then unsupported (.unsafePointer "String: a length above the largest int")
        match q with
        | none =>
          if n = 0 then pure (.string .empty)
          else runtimePanic (.error "unsafe.String: ptr is nil and len is not zero")
        | some a =>
          if n = 0 then pure (.string .empty)
          else if ← variablesAt a (← Go.elemOf pt) n.toNat then do
            let s ← loadBytes a .empty n.toNat
            freeze a n.toNat
            pure (.string s)
          else unsupported (.unsafePointer "String: not so many bytes at ptr")) := fun q => rfl
  revert h1
  split
  · split
    · intro h1
      cases h1
      simp only [Rel] at hY
      subst hY
      refine c.good (X := .string .empty) ?_ (by simp [Rel]; rfl)
      rw [hdef]
      simp [asInt, asIntOf, ha, hmax]
    · intro h1
      cases h1
      simp only [Rel] at hY
      obtain ⟨l, hl, rfl⟩ := hY
      refine c.good (X := .string .empty) ?_ (by simp [Rel]; rfl)
      rw [hdef]
      simp [asInt, asIntOf, ha, hmax]
    · intro h1; cases h1
  · rename_i k
    split
    · rename_i n o
      split
      · rename_i u q1 q2 q3 ht
        intro h1
        obtain ⟨el, cs, ext, ro, hg, h2⟩ := cells_eq h1
        obtain ⟨hc, h3⟩ := sel_some h2
        simp only [Bool.and_eq_true, Nat.beq_eq, Nat.ble_eq] at hc
        obtain ⟨⟨hlow, rfl⟩, hbig⟩ := hc
        obtain ⟨tu, htu, h4⟩ := ob_eq h3
        revert h4
        split
        · rename_i hdd
          intro h4
          obtain ⟨vs, hvs, h5⟩ := ob_eq h4
          obtain ⟨b, hb, h6⟩ := ob_eq h5
          obtain ⟨hsz, h7⟩ := sel_some h6
          cases h7
          simp only [Nat.beq_eq] at hsz
          have hpt := ptr_und (c.ty _ _ ht) rfl
          simp only [Rel] at hY
          obtain ⟨l, hl, rfl⟩ := hY
          obtain ⟨hD, l', hl', hbr⟩ := c.at_ hg (s' := _) (testBit_lor_pow.2 (.inl (acc_bit s n))) hA
          rw [hl] at hl'; cases hl'
          obtain ⟨C, fz, b1, b2, b3, b4, b5, b6⟩ := id hbr
          obtain ⟨s1, s2⟩ := slCells_eq hvs
          have hsh : w.shape? l.blk = some (el, C.size) := by simp [World.shape?, b1]
          have hcells : P.cellsOf el = 1 := by
            obtain ⟨i, z, i1, i2, _⟩ := (c.ty _ _ htu).info
            simp [Program.cellsOf, i1, i2, hsz]
          have hin : o + (k + 1) ≤ cs.length := by
            have hh := s2 k (vs[k]'(by omega)) (List.getElem?_eq_getElem _)
            rcases Nat.lt_or_ge (o + k) cs.length with h | h
            · omega
            · rw [List.getElem?_eq_none h] at hh; cases hh
          have hlies := liesAt_row (P := P) hcells (C.size / P.cellsOf el) (l.off + o) (k + 1) (by rw [hcells, Nat.div_one]; omega)
          have hload := loadBytes_ok (P := P) (μ := μ) (w := w) (A := ⟨l.blk, l.off + o, none⟩) (acc := .empty) hb (fun j v hj => by
            obtain ⟨X, hX, hr⟩ := cell_of hbr (s2 j v hj)
            exact ⟨X, by rw [add_plain, Nat.add_assoc]; exact hX, hr⟩)
          rw [s1] at hload
          refine ⟨μ, w.freeze ⟨l.blk, l.off + o, none⟩ (k + 1), .string ⟨b.toArray⟩, ?_, c.write hD hlow hg hl frozen_same (frozen_ro hbr), ?_⟩
          · rw [hdef]
            have h63 : ¬ (9223372036854775807 < (k : Int) + 1) := by omega
            have hneg : ¬ ((k : Int) + 1 < 0) := by omega
            have hz : ¬ ((k : Int) + 1 = 0) := by omega
            have hn : ((k : Int) + 1).toNat = k + 1 := by omega
            simp [asInt, asIntOf, ha, hmax, h63, hneg, hz, hn, variablesAt, hsh, Go.elemOf, run_underlying hpt, hlies, hload]
          · simp [Rel]
        · intro h4; cases h4
      · intro h1; cases h1
    · intro h1; cases h1

end
end Go.Rv
