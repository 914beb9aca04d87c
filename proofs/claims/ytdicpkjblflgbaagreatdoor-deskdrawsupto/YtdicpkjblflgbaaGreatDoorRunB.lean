/-
  What the evaluator's values and states say of the model's; loads and stores. Conditions: those that each statement below names, and no other.
-/
import Derived.Test.YtdicpkjblflgbaaGreatDoorRunA
import Derived.WalkKit
set_option linter.all false

/-
  What the evaluator's values and blocks stand for in a world of the model.
-/
namespace Go.Rv
open Go Go.RowKit

theorem sel_true {α : Type} (x y : α) : sel true x y = x := rfl
theorem sel_false {α : Type} (x y : α) : sel false x y = y := rfl
theorem ob_none {α β : Type} (f : α → Option β) : (none : Option α).ob f = none := rfl
theorem ob_some {α β : Type} (a : α) (f : α → Option β) : (some a).ob f = f a := rfl
theorem om_none {α β : Type} (f : α → β) : (none : Option α).om f = none := rfl
theorem om_some {α β : Type} (a : α) (f : α → β) : (some a).om f = some (f a) := rfl
theorem ob_eq {α β : Type} {x : Option α} {f : α → Option β} {b : β} (h : x.ob f = some b) : ∃ a, x = some a ∧ f a = some b := by
  cases x with
  | none => cases h
  | some a => exact ⟨a, rfl, h⟩
theorem om_eq {α β : Type} {x : Option α} {f : α → β} {b : β} (h : x.om f = some b) : ∃ a, x = some a ∧ f a = b := by
  cases x with
  | none => cases h
  | some a => exact ⟨a, rfl, by simpa [om_some] using h⟩
theorem sel_some {α : Type} {c : Bool} {x : Option α} {a : α} (h : sel c x none = some a) : c = true ∧ x = some a := by
  cases c with
  | true => exact ⟨rfl, h⟩
  | false => cases h
theorem sel_none {α : Type} {c : Bool} {x : Option α} {a : α} (h : sel c none x = some a) : c = false ∧ x = some a := by
  cases c with
  | true => cases h
  | false => exact ⟨rfl, h⟩
theorem sel_eq {α : Type} {c : Bool} {x y : α} : sel c x y = if c = true then x else y := by cases c <;> rfl

/-! ### The tree -/
theorem T.get_nil {α : Type} (n : Nat) : (T.nil : T α).get n = none := rfl
theorem T.get_zero {α : Type} (v : Option α) (l r : T α) : (T.node v l r).get 0 = v := rfl
theorem T.get_succ {α : Type} (v : Option α) (l r : T α) (m : Nat) :
    (T.node v l r).get (m + 1) = if m % 2 = 0 then l.get (m / 2) else r.get (m / 2) := by
  show Bool.rec (motive := fun _ => Option α) (r.get (m / 2)) (l.get (m / 2)) (Nat.beq (m % 2) 0) = _
  by_cases h : m % 2 = 0
  · rw [if_pos h, h]; rfl
  · rw [if_neg h]
    have h1 : m % 2 = 1 := by omega
    rw [h1]; rfl
theorem T.set_nil_zero {α : Type} (f : Nat) (v : Option α) : T.set (f + 1) (.nil : T α) 0 v = .node v .nil .nil := rfl
theorem T.set_nil_succ {α : Type} (f m : Nat) (v : Option α) : T.set (f + 1) (.nil : T α) (m + 1) v =
    if m % 2 = 0 then .node none (T.set f .nil (m / 2) v) .nil else .node none .nil (T.set f .nil (m / 2) v) := by
  show Bool.rec (motive := fun _ => T α) (.node none .nil (T.set f .nil (m / 2) v)) (.node none (T.set f .nil (m / 2) v) .nil) (Nat.beq (m % 2) 0) = _
  by_cases h : m % 2 = 0
  · rw [if_pos h, h]; rfl
  · rw [if_neg h]
    have h1 : m % 2 = 1 := by omega
    rw [h1]; rfl
theorem T.set_node_zero {α : Type} (f : Nat) (u v : Option α) (l r : T α) : T.set (f + 1) (.node u l r) 0 v = .node v l r := rfl
theorem T.set_node_succ {α : Type} (f m : Nat) (u v : Option α) (l r : T α) : T.set (f + 1) (.node u l r) (m + 1) v =
    if m % 2 = 0 then .node u (T.set f l (m / 2) v) r else .node u l (T.set f r (m / 2) v) := by
  show Bool.rec (motive := fun _ => T α) (.node u l (T.set f r (m / 2) v)) (.node u (T.set f l (m / 2) v) r) (Nat.beq (m % 2) 0) = _
  by_cases h : m % 2 = 0
  · rw [if_pos h, h]; rfl
  · rw [if_neg h]
    have h1 : m % 2 = 1 := by omega
    rw [h1]; rfl

theorem T.get_set {α : Type} : ∀ (f : Nat) (t : T α) (n : Nat) (v : Option α) (k : Nat), n < f → (T.set f t n v).get k = if k = n then v else t.get k := by
  intro f
  induction f with
  | zero => intro t n v k h; omega
  | succ f ih =>
    intro t n v k h
    cases t with
    | nil =>
      cases n with
      | zero =>
        rw [T.set_nil_zero]
        cases k with
        | zero => rfl
        | succ k => rw [T.get_succ]; simp [T.get_nil]
      | succ m =>
        rw [T.set_nil_succ]
        have hm : m / 2 < f := by omega
        cases k with
        | zero => split <;> simp [T.get_zero, T.get_nil]
        | succ k =>
          by_cases hp : m % 2 = 0
          · rw [if_pos hp, T.get_succ]
            by_cases hk : k % 2 = 0
            · rw [if_pos hk, ih _ _ _ _ hm]
              by_cases e : k / 2 = m / 2
              · have : k = m := by omega
                subst this; simp
              · have : k ≠ m := fun h => e (by rw [h])
                simp [e, this, T.get_nil]
            · rw [if_neg hk]
              have : k ≠ m := fun h => hk (by rw [h]; exact hp)
              simp [this, T.get_nil]
          · rw [if_neg hp, T.get_succ]
            by_cases hk : k % 2 = 0
            · rw [if_pos hk]
              have : k ≠ m := fun h => hp (by rw [← h]; exact hk)
              simp [this, T.get_nil]
            · rw [if_neg hk, ih _ _ _ _ hm]
              by_cases e : k / 2 = m / 2
              · have : k = m := by omega
                subst this; simp
              · have : k ≠ m := fun h => e (by rw [h])
                simp [e, this, T.get_nil]
    | node u l r =>
      cases n with
      | zero =>
        rw [T.set_node_zero]
        cases k with
        | zero => rfl
        | succ k => rw [T.get_succ, T.get_succ]; simp
      | succ m =>
        rw [T.set_node_succ]
        have hm : m / 2 < f := by omega
        cases k with
        | zero => split <;> simp [T.get_zero]
        | succ k =>
          by_cases hp : m % 2 = 0
          · rw [if_pos hp, T.get_succ, T.get_succ]
            by_cases hk : k % 2 = 0
            · rw [if_pos hk, if_pos hk, ih _ _ _ _ hm]
              by_cases e : k / 2 = m / 2
              · have : k = m := by omega
                subst this; simp
              · have : k ≠ m := fun h => e (by rw [h])
                simp [e, this]
            · rw [if_neg hk, if_neg hk]
              have : k ≠ m := fun h => hk (by rw [h]; exact hp)
              simp [this]
          · rw [if_neg hp, T.get_succ, T.get_succ]
            by_cases hk : k % 2 = 0
            · rw [if_pos hk, if_pos hk]
              have : k ≠ m := fun h => hp (by rw [← h]; exact hk)
              simp [this]
            · rw [if_neg hk, if_neg hk, ih _ _ _ _ hm]
              by_cases e : k / 2 = m / 2
              · have : k = m := by omega
                subst this; simp
              · have : k ≠ m := fun h => e (by rw [h])
                simp [e, this]

theorem T.get_put {α : Type} (t : T α) (n : Nat) (v : Option α) (k : Nat) : (t.put n v).get k = if k = n then v else t.get k :=
  T.get_set (n + 1) t n v k (Nat.lt_succ_self n)
theorem T.get_put_same {α : Type} (t : T α) (n : Nat) (v : Option α) : (t.put n v).get n = v := by rw [T.get_put, if_pos rfl]
theorem T.get_put_ne {α : Type} (t : T α) {n k : Nat} (v : Option α) (h : k ≠ n) : (t.put n v).get k = t.get k := by rw [T.get_put, if_neg h]

/-! ### Values -/
structure Loc where
  blk : Nat
  off : Nat
  size : Nat

abbrev Mu := Nat → Option Loc

def Mu.le (μ μ' : Mu) : Prop := ∀ n l, μ n = some l → μ' n = some l

theorem Mu.le_refl (μ : Mu) : μ.le μ := fun _ _ h => h
theorem Mu.le_trans {a b c : Mu} (h : a.le b) (k : b.le c) : a.le c := fun n l e => k n l (h n l e)

mutual
def Rel (μ : Mu) : V → Value → Prop
  | .bool b, X => X = .bool b
  | .int k n, X => X = .int k n
  | .str s, X => X = .string ⟨s.toArray⟩
  | .nilp, X => X = .pointer none
  | .ptr n o, X => ∃ l, μ n = some l ∧ X = .pointer (some ⟨l.blk, l.off + o, none⟩)
  | .nils, X => X = .slice none 0 0
  | .sl n o len esz cap, X => ∃ l c, μ n = some l ∧ X = .slice (some ⟨l.blk, l.off + o, none⟩) len c ∧ len ≤ c ∧
      (match cap with | some k => c = k | none => o + c * esz = l.size ∧ 0 < esz)
  | .nilm, X => X = .map none
  | .mp n, X => ∃ l, μ n = some l ∧ X = .map (some l.blk)
  | .nilf, X => X = .nilFunc
  | .fn f a b, X => ∃ A B, X = .func (.func f) ⟨A⟩ ⟨B⟩ ∧ RelL μ a A ∧ RelL μ b B
  | .nili, X => X = .nilIface
  | .iface t v, X => ∃ x, X = .iface t x ∧ Rel μ v x
  | .agg l, X => ∃ xs, X = .agg ⟨xs⟩ ∧ RelL μ l xs
  | .tup l, X => ∃ xs, X = .tuple ⟨xs⟩ ∧ RelL μ l xs
def RelL (μ : Mu) : List V → List Value → Prop
  | [], xs => xs = []
  | v :: l, xs => ∃ y ys, xs = y :: ys ∧ Rel μ v y ∧ RelL μ l ys
end

mutual
theorem Rel.mono {μ μ' : Mu} (h : μ.le μ') : ∀ (v : V) (X : Value), Rel μ v X → Rel μ' v X
  | .bool _, _, r => by simpa [Rel] using r
  | .int _ _, _, r => by simpa [Rel] using r
  | .str _, _, r => by simpa [Rel] using r
  | .nilp, _, r => by simpa [Rel] using r
  | .ptr _ _, _, r => by
    simp only [Rel] at r ⊢
    obtain ⟨l, h1, h2⟩ := r
    exact ⟨l, h _ _ h1, h2⟩
  | .nils, _, r => by simpa [Rel] using r
  | .sl _ _ _ _ _, _, r => by
    simp only [Rel] at r ⊢
    obtain ⟨l, c, h1, h2⟩ := r
    exact ⟨l, c, h _ _ h1, h2⟩
  | .nilm, _, r => by simpa [Rel] using r
  | .mp _, _, r => by
    simp only [Rel] at r ⊢
    obtain ⟨l, h1, h2⟩ := r
    exact ⟨l, h _ _ h1, h2⟩
  | .nilf, _, r => by simpa [Rel] using r
  | .fn _ a b, _, r => by
    simp only [Rel] at r ⊢
    obtain ⟨A, B, h1, h2, h3⟩ := r
    exact ⟨A, B, h1, RelL.mono h a A h2, RelL.mono h b B h3⟩
  | .nili, _, r => by simpa [Rel] using r
  | .iface _ v, _, r => by
    simp only [Rel] at r ⊢
    obtain ⟨x, h1, h2⟩ := r
    exact ⟨x, h1, Rel.mono h v x h2⟩
  | .agg l, _, r => by
    simp only [Rel] at r ⊢
    obtain ⟨xs, h1, h2⟩ := r
    exact ⟨xs, h1, RelL.mono h l xs h2⟩
  | .tup l, _, r => by
    simp only [Rel] at r ⊢
    obtain ⟨xs, h1, h2⟩ := r
    exact ⟨xs, h1, RelL.mono h l xs h2⟩
theorem RelL.mono {μ μ' : Mu} (h : μ.le μ') : ∀ (l : List V) (xs : List Value), RelL μ l xs → RelL μ' l xs
  | [], _, r => by simpa [RelL] using r
  | v :: l, _, r => by
    simp only [RelL] at r ⊢
    obtain ⟨y, ys, h1, h2, h3⟩ := r
    exact ⟨y, ys, h1, Rel.mono h v y h2, RelL.mono h l ys h3⟩
end

theorem RelL.nil {μ : Mu} : RelL μ [] [] := by simp [RelL]
theorem RelL.cons {μ : Mu} {v : V} {l : List V} {x : Value} {xs : List Value} (h : Rel μ v x) (k : RelL μ l xs) : RelL μ (v :: l) (x :: xs) := by
  simp only [RelL]; exact ⟨x, xs, rfl, h, k⟩
theorem RelL.length {μ : Mu} : ∀ {l : List V} {xs : List Value}, RelL μ l xs → xs.length = l.length
  | [], _, r => by simp only [RelL] at r; subst r; rfl
  | v :: l, _, r => by
    simp only [RelL] at r
    obtain ⟨y, ys, rfl, _, h3⟩ := r
    simp [RelL.length h3]
theorem RelL.append {μ : Mu} : ∀ {l m : List V} {xs ys : List Value}, RelL μ l xs → RelL μ m ys → RelL μ (l ++ m) (xs ++ ys)
  | [], _, _, _, r, k => by simp only [RelL] at r; subst r; exact k
  | v :: l, m, _, ys, r, k => by
    simp only [RelL] at r
    obtain ⟨y, zs, rfl, h2, h3⟩ := r
    exact RelL.cons h2 (RelL.append h3 k)
theorem RelL.get {μ : Mu} : ∀ {l : List V} {xs : List Value}, RelL μ l xs → ∀ {i : Nat} {v : V}, l[i]? = some v → ∃ X, xs[i]? = some X ∧ Rel μ v X
  | [], _, _, i, v, h => by simp at h
  | u :: l, _, r, i, v, h => by
    simp only [RelL] at r
    obtain ⟨y, ys, rfl, h2, h3⟩ := r
    cases i with
    | zero => simp at h; subst h; exact ⟨y, by simp, h2⟩
    | succ i => simpa using RelL.get h3 (by simpa using h)
/-- Value by value. -/
theorem RelL.of_get {μ : Mu} : ∀ {l : List V} {xs : List Value}, xs.length = l.length → (∀ (i : Nat) (v : V), l[i]? = some v → ∃ X, xs[i]? = some X ∧ Rel μ v X) → RelL μ l xs
  | [], xs, hl, _ => by simp only [RelL]; exact List.length_eq_zero_iff.1 (by simpa using hl)
  | u :: l, xs, hl, h => by
    cases xs with
    | nil => simp at hl
    | cons y ys =>
      obtain ⟨X, hX, hr⟩ := h 0 u rfl
      simp at hX
      subst hX
      exact RelL.cons hr (RelL.of_get (by simpa using hl) fun i v hi => by simpa using h (i + 1) v (by simpa using hi))

theorem RelL.drop {μ : Mu} : ∀ {l : List V} {xs : List Value} (n : Nat), RelL μ l xs → RelL μ (l.drop n) (xs.drop n)
  | l, xs, 0, r => by simpa using r
  | [], _, n + 1, r => by simp only [RelL] at r; subst r; exact RelL.nil
  | v :: l, _, n + 1, r => by
    simp only [RelL] at r
    obtain ⟨y, ys, rfl, _, h3⟩ := r
    simpa using RelL.drop n h3
theorem RelL.take {μ : Mu} : ∀ {l : List V} {xs : List Value} (n : Nat), RelL μ l xs → RelL μ (l.take n) (xs.take n)
  | l, xs, 0, r => by simp [RelL]
  | [], _, n + 1, r => by simp only [RelL] at r; subst r; exact RelL.nil
  | v :: l, _, n + 1, r => by
    simp only [RelL] at r
    obtain ⟨y, ys, rfl, h2, h3⟩ := r
    simpa using RelL.cons h2 (RelL.take n h3)

end Go.Rv

/-
  The evaluator's heap against a world; what a step keeps.
-/
namespace Go.Rv
open Go Go.RowKit

def RelE (μ : Mu) : List (V × V × Nat) → List MapEntry → Prop
  | [], es => es = []
  | (k, v, b) :: l, es => ∃ e es', es = e :: es' ∧ Rel μ k e.key ∧ Rel μ v e.val ∧ e.born = b ∧ RelE μ l es'

theorem RelE.mono {μ μ' : Mu} (h : μ.le μ') : ∀ (l : List (V × V × Nat)) (es : List MapEntry), RelE μ l es → RelE μ' l es
  | [], _, r => by simpa [RelE] using r
  | (k, v, b) :: l, _, r => by
    simp only [RelE] at r ⊢
    obtain ⟨e, es', h1, h2, h3, h4, h5⟩ := r
    exact ⟨e, es', h1, h2.mono h, h3.mono h, h4, RelE.mono h l es' h5⟩

def BRel (μ : Mu) (l : Loc) (w : World) : B → Prop
  | .cells e cs ext ro => ∃ C fz, w.heap[l.blk]? = some (.cells C e fz) ∧ l.off + l.size = C.size ∧ cs.length ≤ l.size ∧
      (ext = false → l.size = cs.length ∧ l.off = 0) ∧
      (∀ (i : Nat) (v : V), cs[i]? = some v → ∃ X, C[l.off + i]? = some X ∧ Rel μ v X) ∧
      (ro = false → ∀ j, l.off ≤ j → j < C.size → ¬ (fz.1 ≤ j ∧ j < fz.2))
  | .map es clock => ∃ ES, w.heap[l.blk]? = some (.map ES clock) ∧ RelE μ es ES.toList
  | .iter m since seen last => l.off = 0 ∧ ∃ k, μ m = some k ∧ w.heap[l.blk]? = some (.mapIter (some k.blk) since seen.toArray last)

theorem BRel.congr {μ μ' : Mu} {l : Loc} {w w' : World} {b : B} (h : BRel μ l w b) (hm : μ.le μ') (hw : w'.heap[l.blk]? = w.heap[l.blk]?) : BRel μ' l w' b := by
  cases b with
  | cells e cs ext ro =>
    obtain ⟨C, fz, h1, h2, h3, h4, h5, h6⟩ := h
    exact ⟨C, fz, hw.trans h1, h2, h3, h4, fun i v hi => let ⟨X, hX, hr⟩ := h5 i v hi; ⟨X, hX, hr.mono hm⟩, h6⟩
  | map es clock =>
    obtain ⟨ES, h1, h2⟩ := h
    exact ⟨ES, hw.trans h1, h2.mono hm⟩
  | iter m since seen last =>
    obtain ⟨h0, k, h1, h2⟩ := h
    exact ⟨h0, k, hm _ _ h1, hw.trans h2⟩

theorem BRel.lt {μ : Mu} {l : Loc} {w : World} {b : B} (h : BRel μ l w b) : l.blk < w.heap.size := by
  have key : ∃ o, w.heap[l.blk]? = some o := by
    cases b with
    | cells e cs ext ro => obtain ⟨C, fz, h1, _⟩ := h; exact ⟨_, h1⟩
    | map es clock => obtain ⟨ES, h1, _⟩ := h; exact ⟨_, h1⟩
    | iter m since seen last => obtain ⟨_, k, _, h1⟩ := h; exact ⟨_, h1⟩
  obtain ⟨o, ho⟩ := key
  rcases Nat.lt_or_ge l.blk w.heap.size with h' | h'
  · exact h'
  · rw [Array.getElem?_eq_none h'] at ho; cases ho

structure Ok (D : Nat → Prop) (μ : Mu) (h : T B) (w : World) : Prop where
  rel : ∀ n b, D n → h.get n = some b → ∃ l, μ n = some l ∧ BRel μ l w b
  sep : ∀ n m b c l k, D n → D m → n ≠ m → h.get n = some b → h.get m = some c → μ n = some l → μ m = some k → l.blk ≠ k.blk

theorem Ok.sub {D D' : Nat → Prop} {μ : Mu} {h : T B} {w : World} (o : Ok D μ h w) (hd : ∀ n, D' n → D n) : Ok D' μ h w :=
  ⟨fun n b d => o.rel n b (hd n d), fun n m b c l k d1 d2 => o.sep n m b c l k (hd n d1) (hd m d2)⟩

/-- Fewer names. -/
theorem Ok.less {D : Nat → Prop} {μ : Mu} {h h' : T B} {w : World} (o : Ok D μ h w) (hh : ∀ n b, h'.get n = some b → h.get n = some b) : Ok D μ h' w :=
  ⟨fun n b d g => o.rel n b d (hh n b g), fun n m b c l k d1 d2 hne g1 g2 => o.sep n m b c l k d1 d2 hne (hh n b g1) (hh m c g2)⟩

def Bnd (s : St) : Prop := ∀ n b, s.heap.get n = some b → n < s.next

structure Keep (lw : Nat) (s s' : St) : Prop where
  next : s.next ≤ s'.next
  acc : ∀ n, s.acc.testBit n = true → s'.acc.testBit n = true
  wr : ∀ n, s.wr.testBit n = true → s'.wr.testBit n = true
  wracc : ∀ n, s'.wr.testBit n = true → s.wr.testBit n = true ∨ s'.acc.testBit n = true
  low : ∀ n, s'.wr.testBit n = true → s.wr.testBit n = true ∨ lw ≤ n
  heap : ∀ n b, s'.wr.testBit n = false → (n < s.next ∨ s'.next ≤ n) → s'.heap.get n = some b → s.heap.get n = some b
  had : ∀ n, s'.wr.testBit n = true → s.wr.testBit n = true ∨ (s.next ≤ n ∧ n < s'.next) ∨ ∃ b, s.heap.get n = some b
  dfr : s'.dfr = s.dfr
  glob : ∀ n, n < lw → n < s.next → s'.heap.get n = s.heap.get n
  bnd : Bnd s → Bnd s'

structure Ext (s s' : St) (μ μ' : Mu) (w w' : World) : Prop where
  le : μ.le μ'
  dom : ∀ n l, μ' n = some l → μ n = some l ∨ (s.next ≤ n ∧ n < s'.next)
  new : ∀ n l, μ' n = some l → μ n = none → w.heap.size ≤ l.blk ∨ ∃ m k, μ m = some k ∧ s'.wr.testBit m = true ∧ k.blk = l.blk
  size : w.heap.size ≤ w'.heap.size
  os : w'.os = w.os
  tape : w'.tape = w.tape
  output : w'.output = w.output
  block : ∀ r, r < w.heap.size → (∀ n l, s'.wr.testBit n = true → μ n = some l → l.blk ≠ r) → w'.heap[r]? = w.heap[r]?

structure Step (low : Nat) (D : Nat → Prop) (s s' : St) (μ μ' : Mu) (w w' : World) : Prop where
  keep : Keep low s s'
  ext : Ext s s' μ μ' w w'
  ok : Ok (fun n => D n ∨ (s.next ≤ n ∧ n < s'.next)) μ' s'.heap w'

theorem Keep.refl (low : Nat) (s : St) : Keep low s s :=
  ⟨Nat.le_refl _, fun _ h => h, fun _ h => h, fun _ h => .inl h, fun _ h => .inl h, fun _ _ _ _ h => h, fun _ h => .inl h, rfl, fun _ _ _ => rfl, id⟩

theorem bool_false_of {b c : Bool} (h : b = true → c = true) (hc : c = false) : b = false := by
  cases b with
  | false => rfl
  | true => rw [h rfl] at hc; cases hc

theorem Keep.trans {low : Nat} {a b c : St} (h : Keep low a b) (k : Keep low b c) : Keep low a c where
  next := Nat.le_trans h.next k.next
  acc n e := k.acc n (h.acc n e)
  wr n e := k.wr n (h.wr n e)
  wracc n e := by
    rcases k.wracc n e with h1 | h1
    · rcases h.wracc n h1 with h2 | h2
      · exact .inl h2
      · exact .inr (k.acc n h2)
    · exact .inr h1
  low n e := by
    rcases k.low n e with h1 | h1
    · exact h.low n h1
    · exact .inr h1
  heap n b' e hn g := by
    have h1 := h.next
    have h2 := k.next
    exact h.heap n b' (bool_false_of (k.wr n) e) (by omega) (k.heap n b' e (by omega) g)
  had n e := by
    have h1 := h.next
    have h3 := k.next
    have lift : a.wr.testBit n = true ∨ (a.next ≤ n ∧ n < b.next) ∨ (∃ b, a.heap.get n = some b) → a.wr.testBit n = true ∨ (a.next ≤ n ∧ n < c.next) ∨ ∃ b, a.heap.get n = some b := by
      rintro (h2 | h2 | h2)
      · exact .inl h2
      · exact .inr (.inl (by omega))
      · exact .inr (.inr h2)
    rcases k.had n e with h2 | h2 | ⟨b', h2⟩
    · exact lift (h.had n h2)
    · exact .inr (.inl (by omega))
    · cases hb : b.wr.testBit n with
      | true => exact lift (h.had n hb)
      | false =>
        by_cases hn : n < a.next ∨ b.next ≤ n
        · exact .inr (.inr ⟨b', h.heap n b' hb hn h2⟩)
        · exact .inr (.inl (by omega))
  dfr := k.dfr.trans h.dfr
  glob n e hn := by
    have h1 := h.next
    rw [k.glob n e (by omega), h.glob n e hn]
  bnd hb := k.bnd (h.bnd hb)

theorem Ext.trans {low : Nat} {s s1 s2 : St} {μ μ1 μ2 : Mu} {w w1 w2 : World} (h : Ext s s1 μ μ1 w w1) (k : Ext s1 s2 μ1 μ2 w1 w2)
    (kh : Keep low s s1) (kk : Keep low s1 s2) : Ext s s2 μ μ2 w w2 where
  le := Mu.le_trans h.le k.le
  dom n l e := by
    have a1 := kh.next
    have a2 := kk.next
    rcases k.dom n l e with e1 | e1
    · rcases h.dom n l e1 with e2 | e2
      · exact .inl e2
      · exact .inr (by omega)
    · exact .inr (by omega)
  new n l e hn := by
    cases hm : μ1 n with
    | some l' =>
      have : l' = l := by have := k.le n l' hm; rw [e] at this; exact (Option.some.inj this).symm
      subst this
      rcases h.new n l' hm hn with h1 | ⟨m, kk', h1, h2, h3⟩
      · exact .inl h1
      · exact .inr ⟨m, kk', h1, kk.wr m h2, h3⟩
    | none =>
      rcases k.new n l e hm with h1 | ⟨m, c, h1, h2, h3⟩
      · exact .inl (Nat.le_trans h.size h1)
      · cases hmm : μ m with
        | some c' =>
          have : c' = c := by have := h.le m c' hmm; rw [h1] at this; exact (Option.some.inj this).symm
          subst this
          exact .inr ⟨m, c', hmm, h2, h3⟩
        | none =>
          rcases h.new m c h1 hmm with h4 | ⟨m', c', h4, h5, h6⟩
          · exact .inl (h3 ▸ h4)
          · exact .inr ⟨m', c', h4, kk.wr m' h5, h6.trans h3⟩
  size := Nat.le_trans h.size k.size
  os := k.os.trans h.os
  tape := k.tape.trans h.tape
  output := k.output.trans h.output
  block r hr hno := by
    rw [k.block r (Nat.lt_of_lt_of_le hr h.size) ?_, h.block r hr fun n l e1 e2 => hno n l (kk.wr n e1) e2]
    intro n l e1 e2
    cases hm : μ n with
    | some l' =>
      have : l' = l := by have := h.le n l' hm; rw [e2] at this; exact (Option.some.inj this).symm
      subst this
      exact hno n l' e1 hm
    | none =>
      rcases h.new n l e2 hm with h1 | ⟨m, c, h1, h2, h3⟩
      · omega
      · rw [← h3]; exact hno m c (kk.wr m h2) h1

/-- A step within a greater one. -/
theorem Ext.comp {s s' t t' : St} {μ μ1 μ2 : Mu} {w w1 w2 : World} (h : Ext s s' μ μ1 w w1) (k : Ext t t' μ1 μ2 w1 w2)
    (hn : s.next ≤ t.next) (hn' : t'.next ≤ s'.next) (hw : ∀ n, t'.wr.testBit n = true → s'.wr.testBit n = true) : Ext s s' μ μ2 w w2 where
  le := Mu.le_trans h.le k.le
  dom n l e := by
    rcases k.dom n l e with e1 | e1
    · exact h.dom n l e1
    · exact .inr (by omega)
  new n l e hn := by
    cases hm : μ1 n with
    | some l' =>
      have : l' = l := by have := k.le n l' hm; rw [e] at this; exact (Option.some.inj this).symm
      subst this
      exact h.new n l' hm hn
    | none =>
      rcases k.new n l e hm with h1 | ⟨m, c, h1, h2, h3⟩
      · exact .inl (Nat.le_trans h.size h1)
      · cases hmm : μ m with
        | some c' =>
          have : c' = c := by have := h.le m c' hmm; rw [h1] at this; exact (Option.some.inj this).symm
          subst this
          exact .inr ⟨m, c', hmm, hw m h2, h3⟩
        | none =>
          rcases h.new m c h1 hmm with h4 | ⟨m', c', h4, h5, h6⟩
          · exact .inl (h3 ▸ h4)
          · exact .inr ⟨m', c', h4, h5, h6.trans h3⟩
  size := Nat.le_trans h.size k.size
  os := k.os.trans h.os
  tape := k.tape.trans h.tape
  output := k.output.trans h.output
  block r hr hno := by
    rw [k.block r (Nat.lt_of_lt_of_le hr h.size) ?_, h.block r hr hno]
    intro n l e1 e2
    cases hm : μ n with
    | some l' =>
      have : l' = l := by have := h.le n l' hm; rw [e2] at this; exact (Option.some.inj this).symm
      subst this
      exact hno n l' (hw n e1) hm
    | none =>
      rcases h.new n l e2 hm with h1 | ⟨m, c, h1, h2, h3⟩
      · omega
      · rw [← h3]; exact hno m c h2 h1

theorem Step.trans {low : Nat} {D : Nat → Prop} {s s1 s2 : St} {μ μ1 μ2 : Mu} {w w1 w2 : World} (h : Step low D s s1 μ μ1 w w1)
    (k : Step low (fun n => D n ∨ (s.next ≤ n ∧ n < s1.next)) s1 s2 μ1 μ2 w1 w2) : Step low D s s2 μ μ2 w w2 where
  keep := h.keep.trans k.keep
  ext := h.ext.trans k.ext h.keep k.keep
  ok := k.ok.sub fun n hn => by
    have a1 := h.keep.next
    have a2 := k.keep.next
    rcases hn with hn | hn
    · exact .inl (.inl hn)
    · by_cases hlt : n < s1.next
      · exact .inl (.inr ⟨hn.1, hlt⟩)
      · exact .inr ⟨by omega, hn.2⟩

/-- Names of the second step are as free as they were. -/
theorem Ext.free {s s1 : St} {μ μ1 : Mu} {w w1 : World} (h : Ext s s1 μ μ1 w w1) {m : Nat} (hF : ∀ n, s.next ≤ n → n < m → μ n = none) (hk : s.next ≤ s1.next) :
    ∀ n, s1.next ≤ n → n < m → μ1 n = none := by
  intro n h1 h2
  cases hm : μ1 n with
  | none => rfl
  | some l =>
    rcases h.dom n l hm with e | e
    · rw [hF n (by omega) h2] at e; cases e
    · omega


/-! ### The steps that there are -/
theorem testBit_lor_pow {a n k : Nat} : (Nat.lor a (2 ^ n)).testBit k = true ↔ a.testBit k = true ∨ k = n := by
  show (a ||| 2 ^ n).testBit k = true ↔ _
  rw [Nat.testBit_or, Bool.or_eq_true, Nat.testBit_two_pow, decide_eq_true_eq]
  exact ⟨fun h => h.imp id Eq.symm, fun h => h.imp id Eq.symm⟩

/-- Nothing but what was touched. -/
theorem Step.same {low : Nat} {D : Nat → Prop} {s s' : St} {μ : Mu} {w : World} (ok : Ok D μ s.heap w) (hh : s'.heap = s.heap) (hn : s'.next = s.next)
    (ha : ∀ n, s.acc.testBit n = true → s'.acc.testBit n = true) (hw : s'.wr = s.wr) (hd : s'.dfr = s.dfr := by rfl) : Step low D s s' μ μ w w where
  keep := ⟨by omega, ha, fun n h => by rw [hw]; exact h, fun n h => .inl (by rw [hw] at h; exact h), fun n h => .inl (by rw [hw] at h; exact h),
    fun n b _ _ h => by rw [hh] at h; exact h, fun n h => .inl (by rw [hw] at h; exact h), hd, fun n _ _ => by rw [hh], fun hb n b g => by rw [hn]; rw [hh] at g; exact hb n b g⟩
  ext := ⟨Mu.le_refl μ, fun n l h => .inl h, fun n l h h' => (by rw [h] at h'; cases h'), Nat.le_refl _, rfl, rfl, rfl, fun _ _ _ => rfl⟩
  ok := by rw [hh]; exact ok.sub fun n h => h.resolve_right (by omega)

/-- A world that differs in what no block shows (a draw). -/
theorem Step.world {low : Nat} {D : Nat → Prop} {s s' : St} {μ μ' : Mu} {w w' w'' : World} (h : Step low D s s' μ μ' w w')
    (hh : w''.heap = w'.heap) (ho : w''.os = w'.os) (ht : w''.tape = w'.tape) (hu : w''.output = w'.output) : Step low D s s' μ μ' w w'' where
  keep := h.keep
  ext := ⟨h.ext.le, h.ext.dom, h.ext.new, by rw [hh]; exact h.ext.size, ho.trans h.ext.os, ht.trans h.ext.tape, hu.trans h.ext.output, fun r hr hno => by rw [hh]; exact h.ext.block r hr hno⟩
  ok := ⟨fun n b d g => let ⟨l, h1, h2⟩ := h.ok.rel n b d g; ⟨l, h1, h2.congr (Mu.le_refl _) (by rw [hh])⟩, h.ok.sep⟩

def Mu.add (μ : Mu) (n : Nat) (l : Loc) : Mu := fun k => if k = n then some l else μ k
theorem Mu.add_same (μ : Mu) (n : Nat) (l : Loc) : μ.add n l n = some l := by simp [Mu.add]
theorem Mu.le_add {μ : Mu} {n : Nat} {l : Loc} (h : μ n = none) : μ.le (μ.add n l) := by
  intro k x e
  have : k ≠ n := fun he => by rw [he, h] at e; cases e
  simp [Mu.add, this, e]

theorem heap_alloc_lt {w : World} {o : Obj} {k : Nat} (h : k < w.heap.size) : (w.alloc o).heap[k]? = w.heap[k]? := Below.heap_alloc w o k h
theorem heap_alloc_new (w : World) (o : Obj) : (w.alloc o).heap[w.heap.size]? = some o := by
  show (w.heap.push o)[w.heap.size]? = some o
  simp

/-- A new block. -/
theorem Step.alloc {low : Nat} {D : Nat → Prop} {s : St} {μ : Mu} {w : World} {b : B} {o : Obj} {sz : Nat} (ok : Ok D μ s.heap w) (hb : Bnd s)
    (hF : μ s.next = none) (hr : BRel (μ.add s.next ⟨w.heap.size, 0, sz⟩) ⟨w.heap.size, 0, sz⟩ (w.alloc o) b) :
    Step low D s (s.fresh b) μ (μ.add s.next ⟨w.heap.size, 0, sz⟩) w (w.alloc o) where
  keep := ⟨Nat.le_succ _, fun _ h => h, fun _ h => h, fun _ h => .inl h, fun _ h => .inl h,
    fun n c _ hn g => by
      have hn' : n < s.next ∨ s.next + 1 ≤ n := hn
      have g' : (s.heap.put s.next (some b)).get n = some c := g
      rw [T.get_put_ne _ _ (by omega)] at g'
      exact g',
    fun _ h => .inl h, rfl, fun n _ hn => T.get_put_ne _ _ (by omega),
    fun hb n c g => by
      by_cases e : n = s.next
      · subst e; exact Nat.lt_succ_self _
      · exact Nat.lt_succ_of_lt (hb n c (by rw [← T.get_put_ne s.heap (some b) e]; exact g))⟩
  ext := ⟨Mu.le_add hF, fun n l h => by
      by_cases e : n = s.next
      · subst e; exact .inr ⟨Nat.le_refl _, Nat.lt_succ_self _⟩
      · exact .inl (by simpa [Mu.add, e] using h),
    fun n l h h' => (by
      by_cases e : n = s.next
      · subst e; rw [Mu.add_same] at h; cases h; exact .inl (Nat.le_refl _)
      · simp [Mu.add, e] at h; rw [h] at h'; cases h'),
    (by simp), rfl, rfl, rfl, fun r hr _ => heap_alloc_lt hr⟩
  ok := by
    have old : ∀ n c, (s.fresh b).heap.get n = some c → n ≠ s.next → s.heap.get n = some c := fun n c g e => by
      rw [← T.get_put_ne s.heap (some b) e]; exact g
    have gnew : ∀ c, (s.fresh b).heap.get s.next = some c → c = b := fun c g => by
      have : (s.heap.put s.next (some b)).get s.next = some c := g
      rw [T.get_put_same] at this; cases this; rfl
    have dold : ∀ n, (D n ∨ (s.next ≤ n ∧ n < (s.fresh b).next)) → n ≠ s.next → D n := fun n h e => h.resolve_right fun ⟨h1, h2⟩ => by
      have : n < s.next + 1 := h2
      omega
    refine ⟨fun n c d g => ?_, fun n m c c' l k d1 d2 hne g1 g2 e1 e2 => ?_⟩
    · by_cases e : n = s.next
      · subst e
        cases gnew c g
        exact ⟨_, Mu.add_same _ _ _, hr⟩
      · obtain ⟨l, h1, h2⟩ := ok.rel n c (dold n d e) (old n c g e)
        exact ⟨l, Mu.le_add hF n l h1, h2.congr (Mu.le_add hF) (heap_alloc_lt h2.lt)⟩
    · by_cases en : n = s.next
      · have em : m ≠ s.next := fun e => hne (en.trans e.symm)
        subst en
        rw [Mu.add_same] at e1; cases e1
        obtain ⟨k', h1, h2⟩ := ok.rel m c' (dold m d2 em) (old m c' g2 em)
        have : k' = k := by have := Mu.le_add hF (l := ⟨w.heap.size, 0, sz⟩) m k' h1; rw [e2] at this; exact (Option.some.inj this).symm
        subst this
        exact Nat.ne_of_gt h2.lt
      · by_cases em : m = s.next
        · subst em
          rw [Mu.add_same] at e2; cases e2
          obtain ⟨l', h1, h2⟩ := ok.rel n c (dold n d1 en) (old n c g1 en)
          have : l' = l := by have := Mu.le_add hF (l := ⟨w.heap.size, 0, sz⟩) n l' h1; rw [e1] at this; exact (Option.some.inj this).symm
          subst this
          exact Nat.ne_of_lt h2.lt
        · refine ok.sep n m c c' l k (dold n d1 en) (dold m d2 em) hne (old n c g1 en) (old m c' g2 em) ?_ ?_
          · simpa [Mu.add, en] using e1
          · simpa [Mu.add, em] using e2

/-- A block's content gives way to another. -/
theorem Step.write {low : Nat} {D : Nat → Prop} {s : St} {μ : Mu} {w w' : World} {n : Nat} {b0 b : B} {l : Loc} (ok : Ok D μ s.heap w) (hD : D n) (hlow : low ≤ n)
    (hg : s.heap.get n = some b0) (hb : Bnd s) (hl : μ n = some l) (hw : ∀ r, r ≠ l.blk → w'.heap[r]? = w.heap[r]?) (hsz : w'.heap.size = w.heap.size)
    (ho : w'.os = w.os) (ht : w'.tape = w.tape) (hu : w'.output = w.output) (hr : BRel μ l w' b) : Step low D s (s.write n b) μ μ w w' where
  keep := ⟨Nat.le_refl _, fun k h => testBit_lor_pow.2 (.inl h), fun k h => testBit_lor_pow.2 (.inl h),
    fun k h => (testBit_lor_pow.1 h).imp id fun e => testBit_lor_pow.2 (.inr e),
    fun k h => (testBit_lor_pow.1 h).imp id fun e => by rw [e]; exact hlow,
    fun k c h _ g => by
      have g' : (s.heap.put n (some b)).get k = some c := g
      rw [T.get_put_ne _ _ (fun e => by
        have : (s.write n b).wr.testBit k = true := testBit_lor_pow.2 (.inr e)
        rw [h] at this; cases this)] at g'
      exact g',
    fun k h => (testBit_lor_pow.1 h).imp id fun e => .inr ⟨b0, by rw [e]; exact hg⟩, rfl, fun k hk _ => T.get_put_ne _ _ (by omega),
    fun hb k c g => by
      by_cases e : k = n
      · subst e; exact hb k b0 hg
      · exact hb k c (by rw [← T.get_put_ne s.heap (some b) e]; exact g)⟩
  ext := ⟨Mu.le_refl μ, fun k x h => .inl h, fun k x h h' => (by rw [h] at h'; cases h'), (by omega), ho, ht, hu,
    fun r hr' hno => hw r fun e => hno n l (testBit_lor_pow.2 (.inr rfl)) hl e.symm⟩
  ok := by
    have dold : ∀ k, (D k ∨ (s.next ≤ k ∧ k < (s.write n b).next)) → D k := fun k h => h.resolve_right fun ⟨h1, h2⟩ => by
      have : k < s.next := h2
      omega
    have old : ∀ k c, (s.write n b).heap.get k = some c → k ≠ n → s.heap.get k = some c := fun k c g e => by
      rw [← T.get_put_ne s.heap (some b) e]; exact g
    have some_at : ∀ k c, (s.write n b).heap.get k = some c → ∃ c0, s.heap.get k = some c0 := fun k c g => by
      by_cases e : k = n
      · subst e; exact ⟨b0, hg⟩
      · exact ⟨c, old k c g e⟩
    refine ⟨fun k c d g => ?_, fun k m c c' x y d1 d2 hne g1 g2 e1 e2 => ?_⟩
    · by_cases e : k = n
      · subst e
        have : (s.heap.put k (some b)).get k = some c := g
        rw [T.get_put_same] at this; cases this
        exact ⟨l, hl, hr⟩
      · obtain ⟨x, h1, h2⟩ := ok.rel k c (dold k d) (old k c g e)
        exact ⟨x, h1, h2.congr (Mu.le_refl μ) (hw _ (ok.sep k n c b0 x l (dold k d) hD e (old k c g e) hg h1 hl))⟩
    · obtain ⟨c0, h1⟩ := some_at k c g1
      obtain ⟨c1, h2⟩ := some_at m c' g2
      exact ok.sep k m c0 c1 x y (dold k d1) (dold m d2) hne h1 h2 e1 e2

end Go.Rv

/-
  What the program's tables say; single cells, rows of cells; loads and stores.
-/
namespace Go.Rv
open Go Go.RowKit

def DRel : D → TypeDesc → Prop
  | .bool, d => d = .bool
  | .int k, d => d = .int k
  | .str, d => d = .string
  | .ptr e, d => d = .pointer e
  | .slice e, d => d = .slice e
  | .map k e, d => d = .map k e
  | .struct fs, d => ∃ fields : Array Field, d = .struct fields ∧ fs = fields.toList.map fun f => (f.offset, f.type)
  | .arr n e, d => d = .array n e
  | .func, d => ∃ a b c, d = .func a b c
  | .iface, d => ∃ m, d = .interface m
  | .uptr, d => d = .unsafePointer
  | .other, d => (∀ fs, d ≠ .struct fs) ∧ ∀ n e, d ≠ .array n e

structure TyOk (P : Program) (t : Nat) (ti : TI) : Prop where
  info : ∃ i z, P.info? t = some i ∧ i.size = ti.size ∧ i.bytes = ti.bytes ∧ i.zero = some z ∧ RelL (fun _ => none) ti.zero z.cells.toList
  und : ∃ d, P.underlying t = some d ∧ DRel ti.d d
  zlen : ti.zero.length = ti.size
  zval : ∀ i z, P.info? t = some i → i.zero = some z → Rel (fun _ => none) (zeroV ti) z
  fields : ∀ fs, ti.d = .struct fs → ∀ f ∈ fs, ∃ i, P.info? f.2 = some i

def Glob (μ : Mu) : Prop := ∀ g, g < low0 → ∃ sz, μ g = some ⟨g, 0, sz⟩

theorem Glob.mono {μ μ' : Mu} (h : Glob μ) (k : μ.le μ') : Glob μ' := fun g hg => let ⟨sz, e⟩ := h g hg; ⟨sz, k _ _ e⟩

structure ERel (μ : Mu) (e : Env) (nt : Nat) (tm : Array Value) : Prop where
  size : nt ≤ tm.size
  at_ : ∀ t, Rel μ (e.at t) (tm.getD t undef)

theorem ERel.mono {μ μ' : Mu} {e : Env} {nt : Nat} {tm : Array Value} (h : ERel μ e nt tm) (k : μ.le μ') : ERel μ' e nt tm := ⟨h.size, fun t => (h.at_ t).mono k⟩

mutual
theorem absV_ok (μ : Mu) : ∀ (X : Value) (v : V), absV X = some v → Rel μ v X := by
  intro X v h
  unfold absV at h
  split at h <;> first
    | (cases h; simp [Rel]; done)
    | (rename_i l
       obtain ⟨xs, h1, rfl⟩ := om_eq h
       exact (by simp only [Rel]; exact ⟨l, rfl, absL_ok μ l xs h1⟩))
    | (cases h; simp only [Rel]; exact ⟨[], [], rfl, RelL.nil, RelL.nil⟩)
    | cases h
theorem absL_ok (μ : Mu) : ∀ (l : List Value) (xs : List V), absL l = some xs → RelL μ xs l := by
  intro l xs h
  unfold absL at h
  split at h
  · cases h; exact RelL.nil
  · obtain ⟨x, h1, h2⟩ := ob_eq h
    obtain ⟨ys, h3, rfl⟩ := om_eq h2
    exact RelL.cons (absV_ok μ _ x h1) (absL_ok μ _ ys h3)
end

theorem ev_ok {μ : Mu} {e : Env} {nt : Nat} {a : Act} (hE : ERel μ e nt a.tmps) (hG : Glob μ) {x : Operand} {v : V} (h : ev e x = some v) : Rel μ v (a.eval x) := by
  cases x with
  | tmp t => simp only [ev] at h; cases h; exact hE.at_ t
  | const c => exact absV_ok μ c v h
  | global g =>
    simp only [ev] at h
    obtain ⟨h1, h2⟩ := sel_some h
    cases h2
    obtain ⟨sz, hs⟩ := hG g (by simpa [Nat.blt_eq] using h1)
    simp only [Rel]
    exact ⟨_, hs, by simp [Act.eval]⟩
  | func f => simp only [ev] at h; cases h; simp only [Rel]; exact ⟨[], [], rfl, RelL.nil, RelL.nil⟩

theorem evs_ok {μ : Mu} {e : Env} {nt : Nat} {a : Act} (hE : ERel μ e nt a.tmps) (hG : Glob μ) : ∀ {l : List Operand} {vs : List V}, evs e l = some vs → RelL μ vs (l.map a.eval)
  | [], vs, h => by simp only [evs] at h; cases h; exact RelL.nil
  | x :: l, vs, h => by
    simp only [evs] at h
    obtain ⟨v, h1, h2⟩ := ob_eq h
    obtain ⟨ws, h3, rfl⟩ := om_eq h2
    exact RelL.cons (ev_ok hE hG h1) (evs_ok hE hG h3)

theorem read_eq {s s' : St} {n : Nat} {b : B} (h : s.read n = some (b, s')) : s.heap.get n = some b ∧ s' = { s with acc := s.acc ||| 2 ^ n } := by
  unfold St.read at h
  split at h
  · rename_i b' hb; cases h; exact ⟨hb, rfl⟩
  · cases h

theorem cells_eq {α : Type} {s : St} {n : Nat} {k : Nat → List V → Bool → Bool → St → Option α} {r : α} (h : s.cells n k = some r) :
    ∃ e cs ext ro, s.heap.get n = some (.cells e cs ext ro) ∧ k e cs ext ro { s with acc := s.acc ||| 2 ^ n } = some r := by
  unfold St.cells at h
  split at h
  · rename_i e cs ext ro s' hr
    obtain ⟨h1, rfl⟩ := read_eq hr
    exact ⟨e, cs, ext, ro, h1, h⟩
  · cases h

theorem add_plain (b o j : Nat) : (⟨b, o, none⟩ : Addr).add j = ⟨b, o + j, none⟩ := by
  unfold Addr.add
  split
  · rename_i h; subst h; rfl
  · rfl

theorem cell_of {μ : Mu} {l : Loc} {w : World} {e : Nat} {cs : List V} {ext ro : Bool} (h : BRel μ l w (.cells e cs ext ro)) {i : Nat} {v : V} (hi : cs[i]? = some v) :
    ∃ X, w.cell? ⟨l.blk, l.off + i, none⟩ = some X ∧ Rel μ v X := by
  obtain ⟨C, fz, h1, _, _, _, h5, _⟩ := h
  obtain ⟨X, hX, hr⟩ := h5 i v hi
  exact ⟨X, by simp [World.cell?, h1, hX], hr⟩

theorem slCells_eq {cs l : List V} {o n : Nat} (h : slCells cs o n = some l) : l.length = n ∧ ∀ (j : Nat) (v : V), l[j]? = some v → cs[o + j]? = some v := by
  unfold slCells at h
  obtain ⟨h1, h2⟩ := sel_some h
  cases h2
  refine ⟨by simpa [Nat.beq_eq] using h1, fun j v hj => ?_⟩
  by_cases hjn : j < n
  · simpa [List.getElem?_take, hjn, List.getElem?_drop] using hj
  · simp [List.getElem?_take, hjn] at hj

/-- Cells of a known row, loaded. -/
theorem loadCells_ok {P : Program} {μ : Mu} {l : Loc} {w : World} {e : Nat} {cs vs : List V} {ext ro : Bool} {o n : Nat} (h : BRel μ l w (.cells e cs ext ro))
    (hs : slCells cs o n = some vs) : ∃ xs, (loadCells ⟨l.blk, l.off + o, none⟩ n).run P w = .ok ⟨xs⟩ w ∧ RelL μ vs xs ∧ xs.length = n := by
  obtain ⟨h1, h2⟩ := slCells_eq hs
  have key : ∀ j, j < n → ∃ X v, w.cell? ⟨l.blk, l.off + o + j, none⟩ = some X ∧ vs[j]? = some v ∧ Rel μ v X := fun j hj => by
    obtain ⟨v, hv⟩ : ∃ v, vs[j]? = some v := ⟨vs[j]'(by omega), List.getElem?_eq_getElem _⟩
    obtain ⟨X, hX, hr⟩ := cell_of h (h2 j v hv)
    exact ⟨X, v, by rw [Nat.add_assoc]; exact hX, hv, hr⟩
  let f : Nat → Value := fun j => (w.cell? ⟨l.blk, l.off + o + j, none⟩).getD undef
  refine ⟨(List.range n).map f, ?_, ?_, by simp⟩
  · exact run_loadCells (P := P) w _ n f fun j hj => by
      obtain ⟨X, v, hX, _, _⟩ := key j hj
      rw [add_plain]
      simp [f, hX]
  · refine RelL.of_get (by simp [h1]) fun i v hi => ?_
    have hin : i < n := by
      rcases Nat.lt_or_ge i n with h' | h'
      · exact h'
      · rw [List.getElem?_eq_none (by omega)] at hi; cases hi
    obtain ⟨X, v', hX, hv, hr⟩ := key i hin
    rw [hv] at hi; cases hi
    exact ⟨X, by simp [hin, f, hX], hr⟩

theorem isAgg_run {P : Program} {t : Nat} {ti : TI} (h : TyOk P t ti) (w : World) : (isAgg t).run P w = .ok ti.d.agg w := by
  obtain ⟨d, h1, h2⟩ := h.und
  simp only [isAgg, Sem.run_bind, run_underlying h1, Result.andThen_ok]
  cases hdd : ti.d <;> rw [hdd] at h2 <;> simp only [DRel] at h2 <;> first
    | (subst h2; rfl)
    | (obtain ⟨_, rfl, _⟩ := h2; rfl)
    | (obtain ⟨_, _, _, rfl⟩ := h2; rfl)
    | (obtain ⟨_, rfl⟩ := h2; rfl)
    | (obtain ⟨h3, h4⟩ := h2
       cases d <;> first
         | rfl
         | exact absurd rfl (h3 _)
         | exact absurd rfl (h4 _ _))

theorem size_run {P : Program} {t : Nat} {ti : TI} (h : TyOk P t ti) (w : World) : (sizeOf t).run P w = .ok ti.size w := by
  obtain ⟨i, z, h1, h2, _⟩ := h.info
  simp [sizeOf, typeInfo, h1, h2]

structure SameBut (b : Nat) (w w' : World) : Prop where
  size : w'.heap.size = w.heap.size
  os : w'.os = w.os
  tape : w'.tape = w.tape
  output : w'.output = w.output
  block : ∀ r, r ≠ b → w'.heap[r]? = w.heap[r]?

theorem SameBut.refl (b : Nat) (w : World) : SameBut b w w := ⟨rfl, rfl, rfl, rfl, fun _ _ => rfl⟩
theorem SameBut.trans {b : Nat} {w w' w'' : World} (h : SameBut b w w') (k : SameBut b w' w'') : SameBut b w w'' :=
  ⟨k.size.trans h.size, k.os.trans h.os, k.tape.trans h.tape, k.output.trans h.output, fun r hr => (k.block r hr).trans (h.block r hr)⟩
theorem SameBut.setCell (b o : Nat) (v : Value) (w : World) : SameBut b w (w.setCell ⟨b, o, none⟩ v) :=
  ⟨by simp [World.setCell], rfl, rfl, rfl, fun r hr => Below.heap_setCell w _ _ r hr⟩

theorem setCell_at {w : World} {b o e : Nat} {C : Array Value} {fz : Nat × Nat} (h : w.heap[b]? = some (.cells C e fz)) (v : Value) :
    (w.setCell ⟨b, o, none⟩ v).heap[b]? = some (.cells (C.setIfInBounds o v) e fz) := by
  simp [World.setCell, Array.getElem?_modify, h]

/-- A row of values, stored. -/
theorem storeCells_ok (P : Program) (b o e : Nat) (fz : Nat × Nat) : ∀ (vs : List Value) (i : Nat) (C : Array Value) (w : World), w.heap[b]? = some (.cells C e fz) →
    o + i + vs.length ≤ C.size → (∀ v ∈ vs, v.oneCell' = true) → (∀ j, o ≤ j → j < C.size → ¬ (fz.1 ≤ j ∧ j < fz.2)) →
    ∃ C' w', (storeCells ⟨b, o, none⟩ vs i).run P w = .ok () w' ∧ C'.size = C.size ∧
      (∀ j, C'[j]? = if o + i ≤ j ∧ j < o + i + vs.length then vs[j - (o + i)]? else C[j]?) ∧ SameBut b w w' ∧ w'.heap[b]? = some (.cells C' e fz)
  | [], i, C, w, hg, _, _, _ => by
    refine ⟨C, w, rfl, rfl, fun j => ?_, SameBut.refl b w, hg⟩
    rw [if_neg (by simp only [List.length_nil]; omega)]
  | v :: vs, i, C, w, hg, hl, h1, hf => by
    have hi : o + i < C.size := by simp at hl; omega
    have hcell : w.cell? ⟨b, o + i, none⟩ = some C[o + i] := by simp [World.cell?, hg, hi]
    have hfro : w.frozen? ⟨b, o + i, none⟩ = false := by
      have := hf (o + i) (by omega) hi
      simp only [World.frozen?, hg]
      by_cases h1 : fz.1 ≤ o + i
      · have h2 : ¬ o + i < fz.2 := fun h => this ⟨h1, h⟩
        simp [h2]
      · simp [h1]
    have hst : (store ((⟨b, o, none⟩ : Addr).add i) v).run P w = .ok () (w.setCell ⟨b, o + i, none⟩ v) := by
      rw [add_plain, run_store P w _ v _ (h1 v (by simp)), hcell]
      simp [hfro]
    obtain ⟨C', w', r1, r2, r3, r4, r5⟩ := storeCells_ok P b o e fz vs (i + 1) (C.setIfInBounds (o + i) v) (w.setCell ⟨b, o + i, none⟩ v)
      (setCell_at hg v) (by simp at hl ⊢; omega) (fun x hx => h1 x (by simp [hx])) (fun j hj hj' => hf j hj (by simpa using hj'))
    refine ⟨C', w', by simp only [storeCells, Sem.run_bind, hst, Result.andThen_ok, r1], by simpa using r2, fun j => ?_, (SameBut.setCell b _ v w).trans r4, r5⟩
    rw [r3 j]
    by_cases hj : j = o + i
    · subst hj
      rw [if_neg (by omega), if_pos (by simp), Array.getElem?_setIfInBounds]
      simp [hi]
    · by_cases hj2 : o + (i + 1) ≤ j ∧ j < o + (i + 1) + vs.length
      · rw [if_pos hj2, if_pos (by simp; omega)]
        rw [show j - (o + i) = (j - (o + (i + 1))) + 1 from by omega]
        simp
      · rw [if_neg hj2, if_neg (by simp; omega), Array.getElem?_setIfInBounds]
        rw [if_neg (fun h => hj h.symm)]

theorem putAt_eq : ∀ {cs : List V} {o : Nat} {vs l : List V}, putAt cs o vs = some l →
    (vs ≠ [] → o + vs.length ≤ cs.length) ∧ l.length = cs.length ∧ ∀ j, l[j]? = if o ≤ j ∧ j < o + vs.length then vs[j - o]? else cs[j]?
  | cs, o, [], l, h => by
    unfold putAt at h; cases h
    exact ⟨fun h => absurd rfl h, rfl, fun j => by rw [if_neg (by simp)]⟩
  | [], o, v :: vs, l, h => by unfold putAt at h; cases h
  | c :: cs, 0, v :: vs, l, h => by
    unfold putAt at h
    obtain ⟨m, h1, rfl⟩ := om_eq h
    obtain ⟨a1, a2, a3⟩ := putAt_eq h1
    refine ⟨fun _ => ?_, by simp [a2], fun j => ?_⟩
    · by_cases e : vs = []
      · subst e; simp
      · have := a1 e; simp at this ⊢; omega
    · cases j with
      | zero => simp
      | succ j =>
        have := a3 j
        simp only [List.getElem?_cons_succ]
        rw [this]
        by_cases hj : j < vs.length
        · rw [if_pos (by omega), if_pos (by simp; omega)]; simp
        · rw [if_neg (by omega), if_neg (by simp; omega)]
  | c :: cs, o + 1, v :: vs, l, h => by
    unfold putAt at h
    obtain ⟨m, h1, rfl⟩ := om_eq h
    obtain ⟨a1, a2, a3⟩ := putAt_eq h1
    refine ⟨fun _ => ?_, by simp [a2], fun j => ?_⟩
    · have := a1 (by simp); simp at this ⊢; omega
    · cases j with
      | zero => rw [if_neg (by omega)]; rfl
      | succ j =>
        have := a3 j
        simp only [List.getElem?_cons_succ]
        rw [this]
        by_cases hj : o ≤ j ∧ j < o + (v :: vs).length
        · rw [if_pos hj, if_pos (by omega)]; rw [show j + 1 - (o + 1) = j - o from by omega]
        · rw [if_neg hj, if_neg (by omega)]

end Go.Rv

/-
  One operation at a time: what the evaluator says of it is what the model does.
-/
namespace Go.Rv
open Go Go.RowKit

def Done (D : Nat → Prop) (s s' : St) (μ : Mu) (w : World) (r : Result Next) (v : V) : Prop :=
  ∃ μ' w' n X, r = .ok n w' ∧ (n = .value X ∨ (n = .skip ∧ X = undef)) ∧ Step low0 D s s' μ μ' w w' ∧ Rel μ' v X

theorem Done.wp {P : Program} {D : Nat → Prop} {s s' : St} {μ : Mu} {w : World} {o : Oper} {a : Act} {v : V} {K : Act → World → Prop} {Q : Exit → Act → World → Prop}
    (h : Done D s s' μ w ((execOp a.eval o).run P w) v) (hK : ∀ μ' w' X, Step low0 D s s' μ μ' w w' → Rel μ' v X → K (a.put o.dst X) w') : o.wp P a w K Q := by
  obtain ⟨μ', w', n, X, hr, hn, hs, hv⟩ := h
  unfold Oper.wp
  rw [hr]
  rcases hn with rfl | ⟨rfl, rfl⟩
  · exact hK μ' w' X hs hv
  · exact hK μ' w' undef hs hv

structure Cx (P : Program) (tab : Tab) (D : Nat → Prop) (s : St) (μ : Mu) (e : Env) (nt : Nat) (a : Act) (w : World) : Prop where
  ty : ∀ t ti, tab.ty t = some ti → TyOk P t ti
  env : ERel μ e nt a.tmps
  glob : Glob μ
  bnd : Bnd s
  ok : Ok D μ s.heap w

section
variable {P : Program} {tab : Tab} {D : Nat → Prop} {s s' : St} {μ : Mu} {e : Env} {nt : Nat} {a : Act} {w : World} {v : V} {o : Oper}

theorem Cx.ev (c : Cx P tab D s μ e nt a w) {x : Operand} {v : V} (h : ev e x = some v) : Rel μ v (a.eval x) := ev_ok c.env c.glob h
theorem Cx.evs (c : Cx P tab D s μ e nt a w) {l : List Operand} {vs : List V} (h : evs e l = some vs) : RelL μ vs (l.map a.eval) := evs_ok c.env c.glob h

theorem Cx.at_ (c : Cx P tab D s μ e nt a w) {n : Nat} {b : B} (hg : s.heap.get n = some b) (hacc : s'.acc.testBit n = true)
    (hA : ∀ n, s'.acc.testBit n = true → n < s.next → D n) : D n ∧ ∃ l, μ n = some l ∧ BRel μ l w b := by
  have hD := hA n hacc (c.bnd n b hg)
  exact ⟨hD, c.ok.rel n b hD hg⟩

/-- Nothing turns. -/
theorem Cx.same (c : Cx P tab D s μ e nt a w) : Step low0 D s s μ μ w w := Step.same c.ok rfl rfl (fun _ h => h) rfl
theorem Cx.read (c : Cx P tab D s μ e nt a w) (n : Nat) : Step low0 D s { s with acc := s.acc ||| 2 ^ n } μ μ w w :=
  Step.same c.ok rfl rfl (fun _ h => testBit_lor_pow.2 (.inl h)) rfl
theorem acc_bit (s : St) (n : Nat) : ({ s with acc := s.acc ||| 2 ^ n } : St).acc.testBit n = true := testBit_lor_pow.2 (.inr rfl)

theorem rel_ptr {n o : Nat} {X : Value} {l : Loc} (h : Rel μ (.ptr n o) X) (hl : μ n = some l) : X = .pointer (some ⟨l.blk, l.off + o, none⟩) := by
  simp only [Rel] at h
  obtain ⟨l', h1, h2⟩ := h
  rw [hl] at h1; cases h1
  exact h2

theorem part_load {t : Nat} {ti : TI} (ht : TyOk P t ti) {l : Loc} {u : Nat} {cs : List V} {ext ro : Bool} {k : Nat} (hb : BRel μ l w (.cells u cs ext ro))
    (h : partAt ti cs k = some v) : ∃ X, (loadVar t ⟨l.blk, l.off + k, none⟩).run P w = .ok X w ∧ Rel μ v X := by
  unfold partAt at h
  simp only [loadVar, Sem.run_bind, isAgg_run ht, Result.andThen_ok]
  cases ha : ti.d.agg with
  | true =>
    rw [ha, sel_true] at h
    obtain ⟨vs, h1, rfl⟩ := om_eq h
    obtain ⟨xs, h2, h3, _⟩ := loadCells_ok (P := P) hb h1
    refine ⟨.agg ⟨xs⟩, ?_, by simp only [Rel]; exact ⟨xs, rfl, h3⟩⟩
    simp [size_run ht, h2]
  | false =>
    rw [ha, sel_false] at h
    obtain ⟨X, h1, h2⟩ := cell_of hb h
    refine ⟨X, ?_, h2⟩
    simp [run_load, h1]

theorem oLoad_ok (c : Cx P tab D s μ e nt a w) {t : Nat} {x : Operand} (ho : o.op = .load t x) (h : oLoad tab e t x s = some (v, s'))
    (hA : ∀ n, s'.acc.testBit n = true → n < s.next → D n) : Done D s s' μ w ((execOp a.eval o).run P w) v := by
  unfold oLoad at h
  split at h
  · rename_i n k hev
    obtain ⟨u, cs, ext, ro, hg, h⟩ := cells_eq h
    obtain ⟨ti, ht, h⟩ := ob_eq h
    obtain ⟨v', hp, h⟩ := om_eq h
    cases h
    obtain ⟨_, l, hl, hb⟩ := c.at_ hg (acc_bit s n) hA
    obtain ⟨X, hX, hr⟩ := part_load (c.ty t ti ht) hb hp
    refine ⟨μ, w, .value X, X, ?_, .inl rfl, c.read n, hr⟩
    simp [execOp, ho, Instr.loadAt, rel_ptr (c.ev hev) hl, Instr.sureAddr, hX]
  · cases h

theorem cells_rel {X : Value} (h : Rel μ v X) : RelL μ v.cells X.cells.toList := by
  cases v <;> simp only [Rel] at h <;> first
    | (subst h; exact RelL.cons (by simp [Rel]) RelL.nil)
    | (obtain ⟨xs, rfl, h2⟩ := h
       first
         | exact h2
         | exact RelL.cons (by simp only [Rel]; exact ⟨xs, rfl, h2⟩) RelL.nil)
    | (obtain ⟨l, h1, rfl⟩ := h; exact RelL.cons (by simp only [Rel]; exact ⟨l, h1, rfl⟩) RelL.nil)
    | (obtain ⟨l, k, h1, rfl, h3⟩ := h; exact RelL.cons (by simp only [Rel]; exact ⟨l, k, h1, rfl, h3⟩) RelL.nil)
    | (obtain ⟨A, B, rfl, h3⟩ := h; exact RelL.cons (by simp only [Rel]; exact ⟨A, B, rfl, h3⟩) RelL.nil)
    | (obtain ⟨x, rfl, h3⟩ := h; exact RelL.cons (by simp only [Rel]; exact ⟨x, rfl, h3⟩) RelL.nil)

theorem one_rel {X : Value} (h : Rel μ v X) (hv : v.one = true) : X.oneCell' = true := by
  cases v <;> simp only [Rel] at h <;> first
    | (simp [V.one] at hv; done)
    | (subst h; rfl)
    | (obtain ⟨l, h1, rfl⟩ := h; rfl)
    | (obtain ⟨l, k, h1, rfl, h3⟩ := h; rfl)
    | (obtain ⟨A, B, rfl, h3⟩ := h; rfl)
    | (obtain ⟨x, rfl, h3⟩ := h; rfl)

theorem ones_rel : ∀ {vs : List V} {xs : List Value}, RelL μ vs xs → vs.all V.one = true → ∀ x ∈ xs, x.oneCell' = true
  | [], xs, h, _, x, hx => by simp only [RelL] at h; subst h; cases hx
  | v :: vs, xs, h, ha, x, hx => by
    simp only [RelL] at h
    obtain ⟨y, ys, rfl, h2, h3⟩ := h
    simp only [List.all_cons, Bool.and_eq_true] at ha
    rcases List.mem_cons.1 hx with rfl | hx
    · exact one_rel h2 ha.1
    · exact ones_rel h3 ha.2 x hx

/-- Values put into a block that may be written: the world behind it, and the block's new content. -/
theorem put_ok {l : Loc} {u : Nat} {cs cs' : List V} {ext : Bool} {k : Nat} {vs : List V} {xs : List Value} (hb : BRel μ l w (.cells u cs ext false))
    (hp : putAt cs k vs = some cs') (hr : RelL μ vs xs) (ho : vs.all V.one = true) :
    ∃ w', (storeCells ⟨l.blk, l.off + k, none⟩ xs).run P w = .ok () w' ∧ SameBut l.blk w w' ∧ BRel μ l w' (.cells u cs' ext false) := by
  obtain ⟨C, fz, h1, h2, h3, h4, h5, h6⟩ := hb
  obtain ⟨p1, p2, p3⟩ := putAt_eq hp
  have hlen := hr.length
  have hle : l.off + k + 0 + xs.length ≤ C.size ∨ xs = [] := by
    by_cases e : vs = []
    · subst e; right; exact List.length_eq_zero_iff.1 (by simpa using hlen)
    · left; have := p1 e; omega
  rcases hle with hle | rfl
  · obtain ⟨C', w', r1, r2, r3, r4, r5⟩ := storeCells_ok P l.blk (l.off + k) u fz xs 0 C w h1 hle (ones_rel hr ho) (fun j hj hj' => h6 rfl j (by omega) hj')
    refine ⟨w', r1, r4, C', fz, r5, by omega, by omega, fun he => ?_, fun i v hi => ?_, fun _ j hj hj' => h6 rfl j hj (by omega)⟩
    · have := h4 he; omega
    · rw [p3 i] at hi
      by_cases hin : k ≤ i ∧ i < k + vs.length
      · rw [if_pos hin] at hi
        obtain ⟨X, hX, hx⟩ := hr.get hi
        refine ⟨X, ?_, hx⟩
        rw [r3, if_pos (by omega)]
        rw [show l.off + i - (l.off + k + 0) = i - k from by omega]
        exact hX
      · rw [if_neg hin] at hi
        obtain ⟨X, hX, hx⟩ := h5 i v hi
        exact ⟨X, by rw [r3, if_neg (by omega)]; exact hX, hx⟩
  · have hv : vs = [] := by cases vs with | nil => rfl | cons => simp at hlen
    subst hv
    have : cs' = cs := by
      apply List.ext_getElem?
      intro j
      rw [p3 j, if_neg (by simp)]
    subst this
    exact ⟨w, rfl, SameBut.refl _ _, C, fz, h1, h2, h3, h4, h5, h6⟩

theorem may_eq {n : Nat} {ro : Bool} {vs : List V} (h : may tab n ro vs = true) : ro = false ∧ low0 ≤ n ∧ vs.all V.one = true := by
  unfold may at h
  simp only [Bool.and_eq_true, Bool.not_eq_true', Nat.ble_eq] at h
  exact ⟨h.1.1, h.1.2, h.2⟩

/-- A block that was read, written. -/
theorem Cx.write (c : Cx P tab D s μ e nt a w) {n : Nat} {b0 b : B} {l : Loc} {w' : World} (hD : D n) (hlow : low0 ≤ n) (hg : s.heap.get n = some b0) (hl : μ n = some l)
    (hs : SameBut l.blk w w') (hr : BRel μ l w' b) : Step low0 D s (({ s with acc := s.acc ||| 2 ^ n } : St).write n b) μ μ w w' := by
  have h1 := c.read n
  have h2 := Step.write (low := low0) (D := fun k => D k ∨ (s.next ≤ k ∧ k < ({ s with acc := s.acc ||| 2 ^ n } : St).next)) (s := { s with acc := s.acc ||| 2 ^ n }) (b := b) h1.ok (.inl hD) hlow hg
    (h1.keep.bnd c.bnd) hl hs.block hs.size hs.os hs.tape hs.output hr
  exact h1.trans h2

theorem oStore_ok (c : Cx P tab D s μ e nt a w) {t : Nat} {x y : Operand} (ho : o.op = .store t x y) (h : oStore tab e t x y s = some (v, s'))
    (hA : ∀ n, s'.acc.testBit n = true → n < s.next → D n) : Done D s s' μ w ((execOp a.eval o).run P w) v := by
  unfold oStore at h
  split at h
  · rename_i n k hev
    obtain ⟨y', hy, h⟩ := ob_eq h
    obtain ⟨ti, ht, h⟩ := ob_eq h
    obtain ⟨u, cs, ext, ro, hg, h⟩ := cells_eq h
    obtain ⟨hc, h⟩ := sel_some h
    obtain ⟨cs', hp, h⟩ := om_eq h
    cases h
    simp only [Bool.and_eq_true, Nat.beq_eq] at hc
    obtain ⟨hro, hlow, hone⟩ := may_eq hc.2
    subst hro
    obtain ⟨hD, l, hl, hb⟩ := c.at_ hg (s' := _) (testBit_lor_pow.2 (.inl (acc_bit s n))) hA
    have hY := c.ev hy
    obtain ⟨w', r1, r2, r3⟩ := put_ok (P := P) hb hp (cells_rel hY) hone
    refine ⟨μ, w', .skip, undef, ?_, .inr ⟨rfl, rfl⟩, c.write hD hlow hg hl r2 r3, by simp [Rel, undefV, undef, RelL]⟩
    have hsz : (a.eval y).cells.size = ti.size := by
      have := (cells_rel hY).length
      simp only [Array.length_toList] at this
      omega
    simp [execOp, ho, Instr.storeAt, rel_ptr (c.ev hev) hl, Instr.sureAddr, storeVar, size_run (c.ty t ti ht), hsz, r1]
  · cases h
end
end Go.Rv
