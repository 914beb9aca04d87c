/-
  Drawn regions and the control code. Conditions: those that each statement below names, and no other.
-/
import Derived.Test.YtdicpkjblflgbaaGreatDoorRunG
import Derived.Scope
import Derived.LoopN
set_option linter.all false

/-
  Regions that draw their order: one operation more.
-/
namespace Go.Rv
open Go Go.RowKit
section
variable {P : Program} {tab : Tab} {g0 : T B} {call : Call} {nt : Nat} {ops : Array Oper} {E : Nat → Env} {S : Nat → St} {W : Nat → V} {S1 : Nat → St} {wt : Nat → Nat → Prop}
variable {D : Nat → Prop} {μ0 : Mu}
variable {w0 : World} {ds : List Deferred} {L : Array Bool} {μ μ' : Mu} {a : Act} {w w' : World} {i : Nat} {o : Oper} {X : Value}

theorem Rg.wt_lt (R : Rg P tab g0 call nt ops E S W S1 wt D μ0) : ∀ m, m < ops.size → ∀ q, wt m q → q < m := by
  intro m
  induction m using Nat.strongRecOn with
  | _ m ih =>
    intro hm q hq
    obtain ⟨om, hom⟩ := op_at (ops := ops) hm
    obtain ⟨e, he, hb, hh⟩ := R.tr.waits m om q hom hq
    have hlt := R.tr.back m om e hom he hb
    rcases hh with rfl | hh
    · exact hlt
    · exact Nat.lt_trans (ih e.on hlt (by omega) q hh) hlt

variable (R : Rg P tab g0 call nt ops E S W S1 wt D μ0) (I : Inv ops nt E S S1 wt D μ0 w0 ds L μ a w)
include R I

theorem Inv.later (hi : i < ops.size) (hiL : ¬ inL L i) {j : Nat} (hij : i < j) (hj : j < ops.size) (hjL : inL L j) {n : Nat} (ht : tch S S1 i n) : ¬ tch S S1 j n := by
  intro hu
  have h1 : ¬ wt j i := fun h => hiL (I.closed j i hjL h)
  have h2 : ¬ wt i j := fun h => by have := R.wt_lt i hi j h; omega
  exact R.meet hj hi (by omega) h1 h2 ⟨ht, R.tch_use hj hu⟩

theorem Inv.live_new (hi : i < ops.size) (hiL : ¬ inL L i) {n : Nat} {b : B} (ht : tch S S1 i n) (h : Live S S1 ops.size (L.setIfInBounds i true) n b) : (S1 i).heap.get n = some b := by
  have hsz : i < L.size := by rw [I.size]; exact hi
  obtain ⟨q, hq, ⟨h1, h2⟩, hg⟩ := h
  have hqi : i < q := by
    rcases Nat.lt_or_ge i q with h | h
    · exact h
    · exact absurd ht (h2 i h hi ((inL_set hsz).2 (.inl rfl)))
  rcases h1 with rfl | ⟨j, rfl, hj, hjt⟩
  · omega
  · by_cases hji : j = i
    · subst hji; rw [← R.hp hi]; exact hg
    · have hjL := ((inL_set hsz).1 hj).resolve_left hji
      exact absurd hjt (I.later R hi hiL (by omega) (by omega) hjL ht)

omit R in
theorem Inv.live_old (hi : i < ops.size) {n : Nat} {b : B} (ht : ¬ tch S S1 i n) (h : Live S S1 ops.size (L.setIfInBounds i true) n b) : Live S S1 ops.size L n b := by
  have hsz : i < L.size := by rw [I.size]; exact hi
  obtain ⟨q, hq, ⟨h1, h2⟩, hg⟩ := h
  refine ⟨q, hq, ⟨?_, fun j h3 h4 h5 => h2 j h3 h4 ((inL_set hsz).2 (.inr h5))⟩, hg⟩
  rcases h1 with rfl | ⟨j, rfl, hj, hjt⟩
  · exact .inl rfl
  · refine .inr ⟨j, rfl, ((inL_set hsz).1 hj).resolve_left (fun h => ht (h ▸ hjt)), hjt⟩

omit R in
theorem Inv.dom_old (hi : i < ops.size) {n : Nat} (h : Dom D S S1 ops.size (L.setIfInBounds i true) n) : Dom D S S1 ops.size L n ∨ ((S i).next ≤ n ∧ n < (S1 i).next) := by
  have hsz : i < L.size := by rw [I.size]; exact hi
  rcases h with h | ⟨j, hj, hjL, h1⟩
  · exact .inl (.inl h)
  · rcases (inL_set hsz).1 hjL with rfl | hjL
    · exact .inr h1
    · exact .inl (.inr ⟨j, hj, hjL, h1⟩)

theorem Inv.wr_old (hi : i < ops.size) (hiL : ¬ inL L i) (hw : ∀ j, wt i j → inL L j) {n : Nat} {l : Loc} (h : (S1 i).wr.testBit n = true) (hm : μ n = some l) : Dom D S S1 ops.size L n ∧ ∃ b, Live S S1 ops.size L n b := by
  rcases (R.kp hi).had n h with h1 | h1 | ⟨b, h1⟩
  · simp [z0] at h1
  · exfalso
    have h1' : (S i).next ≤ n ∧ n < (S1 i).next := h1
    have h2 := R.next_le (i := 0) (j := i) (by omega) (by omega)
    have h3 := R.next_le (i := i + 1) (j := ops.size) (by omega) (by omega)
    rw [R.nx hi] at h3
    obtain ⟨j, hj, hjL, h4⟩ := I.dom n l hm (by omega) (by omega)
    have := R.fresh_apart hi hj h1' h4
    exact hiL (this ▸ hjL)
  · have hlt : n < (S i).next := R.bnd_at (by omega) n b h1
    have := I.uses R hi hiL hw (.inl (R.wr_use hi h)) hlt
    exact ⟨this.1, b, this.2 b h1⟩

theorem Inv.next (ho : ops[i]? = some o) (hiL : ¬ inL L i) (hr : ∀ e ∈ o.after, Region.binds .any e = true → inL L e.on)
    (hs : Step low0 (Di D S S1 ops.size L i) (z0 (S i)) (S1 i) μ μ' w w') (hv : Rel μ' (W i) X) :
    Inv ops nt E S S1 wt D μ0 w0 ds (L.setIfInBounds i true) μ' (a.put o.dst X) w' := by
  have hi : i < ops.size := (Array.getElem?_eq_some_iff.1 ho).1
  have hsz : i < L.size := by rw [I.size]; exact hi
  have hw : ∀ j, wt i j → inL L j := fun j h => I.waits R ho hr h
  have hn0 := R.next_le (i := 0) (j := i) (by omega) (by omega)
  have hn1 := R.next_le (i := i + 1) (j := ops.size) (by omega) (by omega)
  rw [R.nx hi] at hn1
  have hbs : ∀ n b, (S1 i).heap.get n = some b → n < (S1 i).next := fun n b h => by
    rw [← R.nx hi]
    exact R.bnd_at (i := i + 1) (by omega) n b (by rw [R.hp hi]; exact h)
  have tdom : ∀ n b, tch S S1 i n → (S1 i).heap.get n = some b → Di D S S1 ops.size L i n ∨ ((z0 (S i)).next ≤ n ∧ n < (S1 i).next) := fun n b ht hg => by
    rcases ht with ht | ht
    · by_cases hlt : n < (S i).next
      · exact .inl (I.uses R hi hiL hw (.inl (R.wr_use hi ht)) hlt)
      · exact .inr ⟨Nat.le_of_not_lt hlt, hbs n b hg⟩
    · exact .inr ht
  have fnone : ∀ n l, (S i).next ≤ n ∧ n < (S1 i).next → ¬ μ n = some l := fun n l h1 hm => by
    obtain ⟨j, hj, hjL, h4⟩ := I.dom n l hm (by omega) (by omega)
    have := R.fresh_apart hi hj h1 h4
    exact hiL (this ▸ hjL)
  have udom : ∀ n, ¬ tch S S1 i n → Dom D S S1 ops.size (L.setIfInBounds i true) n → Dom D S S1 ops.size L n := fun n ht h => (I.dom_old hi h).resolve_right fun h => ht (.inr h)
  have old : ∀ n b l, ¬ tch S S1 i n → Dom D S S1 ops.size L n → Live S S1 ops.size L n b → μ n = some l → BRel μ l w b → BRel μ' l w' b := fun n b l ht hd hl hm hb => by
    refine hb.congr hs.ext.le (hs.ext.block l.blk hb.lt fun m lm hmw hmm => ?_)
    obtain ⟨hmd, c, hmc⟩ := I.wr_old R hi hiL hw hmw hmm
    exact I.sep m n c b lm l hmd hd (fun e => ht (e ▸ .inl hmw)) hmc hl hmm hm
  have fix : ∀ n l l', μ n = some l → μ' n = some l' → l' = l := fun n l l' h1 h2 => by
    have := hs.ext.le n l h1
    rw [h2] at this
    exact Option.some.inj this
  -- a touched name against one that is not
  have mixed : ∀ n m b c l k, tch S S1 i n → ¬ tch S S1 i m → Dom D S S1 ops.size (L.setIfInBounds i true) n → Dom D S S1 ops.size (L.setIfInBounds i true) m → n ≠ m →
      Live S S1 ops.size (L.setIfInBounds i true) n b → Live S S1 ops.size (L.setIfInBounds i true) m c → μ' n = some l → μ' m = some k → l.blk ≠ k.blk := fun n m b c l k tn tm dn dm hne ln lm e1 e2 => by
    have dm' := udom m tm dm
    have lm' := I.live_old hi tm lm
    obtain ⟨k0, hk0, hkb⟩ := I.rel m c dm' lm'
    have := fix m k0 k hk0 e2
    subst this
    cases hmn : μ n with
    | some l0 =>
      have := fix n l0 l hmn e1
      subst this
      have hwr : (S1 i).wr.testBit n = true := by
        rcases tn with h | h
        · exact h
        · exact absurd hmn (fnone n _ h)
      obtain ⟨hd, b', hl'⟩ := I.wr_old R hi hiL hw hwr hmn
      exact I.sep n m b' c _ _ hd dm' hne hl' lm' hmn hk0
    | none =>
      rcases hs.ext.new n l e1 hmn with h1 | ⟨m', q, h1, h2, h3⟩
      · have := hkb.lt
        omega
      · obtain ⟨hd, b', hl'⟩ := I.wr_old R hi hiL hw h2 h1
        rw [← h3]
        exact I.sep m' m b' c _ _ hd dm' (fun e => tm (e ▸ .inl h2)) hl' lm' h1 hk0
  refine ⟨by simp [I.size], fun p j hp hwt => ?_, ?_, fun n l e h1 h2 => ?_, fun n b hd hl => ?_, fun n m b c l k dn dm hne ln lm e1 e2 => ?_, ?_, fun t q hq hc => ?_, by rw [put_defers]; exact I.dfr⟩
  · rcases (inL_set hsz).1 hp with rfl | hp
    · exact (inL_set hsz).2 (.inr (hw j hwt))
    · exact (inL_set hsz).2 (.inr (I.closed p j hp hwt))
  · exact I.ext.comp hs.ext hn0 hn1 fun n h => R.wr_one hi h
  · rcases hs.ext.dom n l e with e | e
    · obtain ⟨j, hj, hjL, h4⟩ := I.dom n l e h1 h2
      exact ⟨j, hj, (inL_set hsz).2 (.inr hjL), h4⟩
    · exact ⟨i, hi, (inL_set hsz).2 (.inl rfl), e⟩
  · by_cases ht : tch S S1 i n
    · have hg := I.live_new R hi hiL ht hl
      exact hs.ok.rel n b (tdom n b ht hg) hg
    · have hd' := udom n ht hd
      have hl' := I.live_old hi ht hl
      obtain ⟨l, hm, hb⟩ := I.rel n b hd' hl'
      exact ⟨l, hs.ext.le n l hm, old n b l ht hd' hl' hm hb⟩
  · by_cases tn : tch S S1 i n
    · by_cases tm : tch S S1 i m
      · have gn := I.live_new R hi hiL tn ln
        have gm := I.live_new R hi hiL tm lm
        exact hs.ok.sep n m b c l k (tdom n b tn gn) (tdom m c tm gm) hne gn gm e1 e2
      · exact mixed n m b c l k tn tm dn dm hne ln lm e1 e2
    · by_cases tm : tch S S1 i m
      · exact (mixed m n c b k l tm tn dm dn hne.symm lm ln e2 e1).symm
      · have dn' := udom n tn dn
        have dm' := udom m tm dm
        have ln' := I.live_old hi tn ln
        have lm' := I.live_old hi tm lm
        obtain ⟨l0, hl0, _⟩ := I.rel n b dn' ln'
        obtain ⟨k0, hk0, _⟩ := I.rel m c dm' lm'
        have := fix n l0 l hl0 e1
        subst this
        have := fix m k0 k hk0 e2
        subst this
        exact I.sep n m b c _ _ dn' dm' hne ln' lm' hl0 hk0
  · cases hd : o.dst <;> simp [Act.put, I.esz]
  · obtain ⟨h1, h2⟩ := hc
    by_cases hdt : o.dst = some t
    · have hqi : i < q := by
        rcases Nat.lt_or_ge i q with h | h
        · exact h
        · exact absurd hdt (h2 i o h ho ((inL_set hsz).2 (.inl rfl)))
      rcases h1 with rfl | ⟨j, oj, rfl, hj, hoj, hjd⟩
      · omega
      · by_cases hji : j = i
        · subst hji
          have he := (R.tr.step j o ho).env
          rw [hdt] at he
          unfold putV at he
          obtain ⟨hlt, he⟩ := sel_some he
          have he' := Option.some.inj he
          rw [← he', env_put, if_pos rfl]
          rw [Nat.blt_eq] at hlt
          have : t < a.tmps.size := Nat.lt_of_lt_of_le hlt I.esz
          simpa [hdt, Act.put, this] using hv
        · have hjL := ((inL_set hsz).1 hj).resolve_left hji
          have hij : i < j := by omega
          have w1 : ¬ wt j i := fun h => hiL (I.closed j i hjL h)
          have w2 : ¬ wt i j := fun h => by have := R.wt_lt i hi j h; omega
          exact absurd hdt ((R.tmp_apart ho hoj (by omega) w2 w1).2 t hjd)
    · have hcur : CurT ops L t q := by
        refine ⟨?_, fun j oj h3 h4 h5 => h2 j oj h3 h4 ((inL_set hsz).2 (.inr h5))⟩
        rcases h1 with rfl | ⟨j, oj, rfl, hj, hoj, hjd⟩
        · exact .inl rfl
        · refine .inr ⟨j, oj, rfl, ((inL_set hsz).1 hj).resolve_left (fun h => ?_), hoj, hjd⟩
          subst h
          rw [ho] at hoj; cases hoj
          exact hdt hjd
      have := (I.env t q hq hcur).mono hs.ext.le
      cases hd : o.dst with
      | none => simpa [Act.put, hd] using this
      | some d =>
        have hne : d ≠ t := fun e => hdt (by rw [hd, e])
        simpa [Act.put, hd, Array.getElem?_setIfInBounds_ne hne] using this

omit I in
theorem Rg.env_back {t q j : Nat} (hqj : q ≤ j) (hj : j ≤ ops.size) (h : ∀ m om, q ≤ m → m < j → ops[m]? = some om → om.dst ≠ some t) : (E j).at t = (E q).at t := by
  induction j with
  | zero => have : q = 0 := by omega
            subst this; rfl
  | succ j ih =>
    by_cases he : q = j + 1
    · subst he; rfl
    · obtain ⟨om, hom⟩ := op_at (ops := ops) (i := j) (by omega)
      have h1 := ih (by omega) (by omega) fun m om h1 h2 => h m om h1 (by omega)
      have h2 := h j om (by omega) (by omega) hom
      have h3 := (R.tr.step j om hom).env
      unfold putV at h3
      cases hd : om.dst with
      | none =>
        rw [hd] at h3
        have h3' := Option.some.inj h3
        rw [← h3']; exact h1
      | some d =>
        rw [hd] at h3
        obtain ⟨_, h3⟩ := sel_some h3
        have h3' := Option.some.inj h3
        rw [← h3', env_put, if_neg (fun e => h2 (by rw [hd, e]))]
        exact h1

theorem Inv.look (ho : ops[i]? = some o) (hiL : ¬ inL L i) (hr : ∀ e ∈ o.after, Region.binds .any e = true → inL L e.on) {t : Nat} (ht : t ∈ o.looksAt ops) : Rel μ ((E i).at t) (a.tmps.getD t undef) := by
  have hi : i < ops.size := (Array.getElem?_eq_some_iff.1 ho).1
  have hw : ∀ j, wt i j → inL L j := fun j h => I.waits R ho hr h
  have early : ∀ j oj, j < i → ops[j]? = some oj → oj.dst = some t → inL L j := fun j oj hj hoj hd => by
    by_cases h1 : wt i j
    · exact hw j h1
    · have h2 : ¬ wt j i := fun h => by have := R.wt_lt j (by omega) i h; omega
      exact absurd ht ((R.tmp_apart ho hoj (by omega) h1 h2).1 t hd)
  have late : ∀ j oj, i ≤ j → ops[j]? = some oj → inL L j → oj.dst ≠ some t := fun j oj hij hoj hjL hd => by
    have hj : j < ops.size := (Array.getElem?_eq_some_iff.1 hoj).1
    have hne : i ≠ j := fun h => hiL (h ▸ hjL)
    have h1 : ¬ wt j i := fun h => hiL (I.closed j i hjL h)
    have h2 : ¬ wt i j := fun h => by have := R.wt_lt i hi j h; omega
    exact (R.tmp_apart ho hoj hne h2 h1).1 t hd ht
  rcases last_of (fun j => ∃ oj, ops[j]? = some oj ∧ oj.dst = some t) i with ⟨j, hj, ⟨oj, hoj, hd⟩, hl⟩ | h
  · have hc : CurT ops L t (j + 1) := by
      refine ⟨.inr ⟨j, oj, rfl, early j oj hj hoj hd, hoj, hd⟩, fun m om h1 h2 h3 => ?_⟩
      by_cases hm : m < i
      · exact fun h => hl m (by omega) hm ⟨om, h2, h⟩
      · exact late m om (by omega) h2 h3
    rw [R.env_back (q := j + 1) (by omega) (by omega) fun m om h1 h2 h3 h4 => hl m (by omega) h2 ⟨om, h3, h4⟩]
    exact I.env t (j + 1) (by omega) hc
  · have hc : CurT ops L t 0 := by
      refine ⟨.inl rfl, fun m om h1 h2 h3 => ?_⟩
      by_cases hm : m < i
      · exact fun h4 => h m hm ⟨om, h2, h4⟩
      · exact late m om (by omega) h2 h3
    rw [R.env_back (q := 0) (by omega) (by omega) fun m om h1 h2 h3 h4 => h m h2 ⟨om, h3, h4⟩]
    exact I.env t 0 (by omega) hc

theorem Inv.done (hall : ∀ j, j < ops.size → inL L j) : Step low0 D (S 0) (S ops.size) μ0 μ w0 w ∧ ERel μ (E ops.size) nt a.tmps := by
  have live : ∀ n b, (S ops.size).heap.get n = some b → Live S S1 ops.size L n b := fun n b hg => by
    rcases last_of (fun j => tch S S1 j n) ops.size with ⟨j, hj, ht, hl⟩ | h
    · exact ⟨j + 1, by omega, ⟨.inr ⟨j, rfl, hall j hj, ht⟩, fun m h1 h2 _ => hl m (by omega) h2⟩, R.heap_back (by omega) (Nat.le_refl _) (fun m h1 h2 => hl m (by omega) h2) hg⟩
    · exact ⟨0, by omega, ⟨.inl rfl, fun m _ h2 _ => h m h2⟩, R.heap_back (by omega) (Nat.le_refl _) (fun m h1 h2 => h m h2) hg⟩
  have dom : ∀ n, (D n ∨ ((S 0).next ≤ n ∧ n < (S ops.size).next)) → Dom D S S1 ops.size L n := fun n h => by
    rcases h with h | ⟨h1, h2⟩
    · exact .inl h
    · right
      rcases last_of (fun j => (S j).next ≤ n) ops.size with ⟨j, hj, hq, hl⟩ | h
      · have hn : n < (S1 j).next := by
          rw [← R.nx hj]
          by_cases hjk : j + 1 = ops.size
          · rw [hjk]; exact h2
          · exact Nat.lt_of_not_le (hl (j + 1) (by omega) (by omega))
        exact ⟨j, hj, hall j hj, hq, hn⟩
      · by_cases hk : ops.size = 0
        · rw [hk] at h2; omega
        · exact absurd h1 (h 0 (by omega))
  refine ⟨⟨R.keep_to (Nat.le_refl _), I.ext, fun n b d g => I.rel n b (dom n d) (live n b g), fun n m b c l k d1 d2 hne g1 g2 => I.sep n m b c l k (dom n d1) (dom m d2) hne (live n b g1) (live m c g2)⟩, I.esz, fun t => ?_⟩
  rcases last_of (fun j => ∃ oj, ops[j]? = some oj ∧ oj.dst = some t) ops.size with ⟨j, hj, ⟨oj, hoj, hd⟩, hl⟩ | h
  · have hc : CurT ops L t (j + 1) :=
      ⟨.inr ⟨j, oj, rfl, hall j hj, hoj, hd⟩, fun m om h1 h2 h3 h4 => hl m (by omega) (Array.getElem?_eq_some_iff.1 h2).1 ⟨om, h2, h4⟩⟩
    rw [R.env_back (q := j + 1) (by omega) (Nat.le_refl _) fun m om h1 h2 h3 h4 => hl m (by omega) h2 ⟨om, h3, h4⟩]
    exact I.env t (j + 1) (by omega) hc
  · have hc : CurT ops L t 0 := ⟨.inl rfl, fun m om h1 h2 h3 h4 => h m (Array.getElem?_eq_some_iff.1 h2).1 ⟨om, h2, h4⟩⟩
    rw [R.env_back (q := 0) (by omega) (Nat.le_refl _) fun m om h1 h2 h3 h4 => h m h2 ⟨om, h3, h4⟩]
    exact I.env t 0 (by omega) hc

end
end Go.Rv

/-
  Regions that draw their order: sound.
-/
namespace Go.Rv
open Go Go.RowKit

/-- How many are not listed. -/
def unl (L : Array Bool) : Nat → Nat
  | 0 => 0
  | k + 1 => unl L k + (if L.getD k false = true then 0 else 1)

theorem unl_le (L : Array Bool) (i : Nat) : ∀ k, unl (L.setIfInBounds i true) k ≤ unl L k
  | 0 => Nat.le_refl _
  | k + 1 => by
    have ih := unl_le L i k
    unfold unl
    by_cases h : i = k
    · subst h
      by_cases hs : i < L.size
      · have : (L.setIfInBounds i true).getD i false = true := by simp [hs]
        rw [if_pos this]
        split <;> omega
      · have : (L.setIfInBounds i true).getD i false = L.getD i false := by simp [hs]
        rw [this]; omega
    · rw [getD_set_ne false h]; omega

theorem unl_lt (L : Array Bool) {i : Nat} (hi : i < L.size) (h : ¬ L.getD i false = true) : ∀ k, i < k → unl (L.setIfInBounds i true) k < unl L k
  | 0, hk => by omega
  | k + 1, hk => by
    have ih := unl_le L i k
    unfold unl
    by_cases hik : i = k
    · subst hik
      have : (L.setIfInBounds i true).getD i false = true := by simp [hi]
      rw [if_pos this, if_neg h]
      omega
    · have := unl_lt L hi h k (by omega)
      rw [getD_set_ne false hik]
      omega

theorem unl_zero (L : Array Bool) : ∀ k, unl L k = 0 → ∀ j, j < k → L.getD j false = true
  | 0, _, j, hj => by omega
  | k + 1, h, j, hj => by
    unfold unl at h
    by_cases hjk : j = k
    · subst hjk
      by_cases h1 : L.getD j false = true
      · exact h1
      · rw [if_neg h1] at h; omega
    · exact unl_zero L k (by omega) j (by omega)

theorem unl_rep (k : Nat) : unl (Array.replicate k false) k ≤ k := by
  have : ∀ m, unl (Array.replicate k false) m ≤ m := fun m => by
    induction m with
    | zero => exact Nat.le_refl _
    | succ m ih =>
      unfold unl
      split <;> omega
  exact this k

section
variable {P : Program} {tab : Tab} {g0 : T B} {call : Call} {nt : Nat} {ops : Array Oper} {E : Nat → Env} {S : Nat → St} {W : Nat → V} {S1 : Nat → St} {wt : Nat → Nat → Prop}
variable {D : Nat → Prop} {μ0 : Mu}
variable {w0 : World} {ds : List Deferred} {L : Array Bool} {μ μ' : Mu} {a : Act} {w w' : World} {i : Nat} {o : Oper} {X : Value}
variable (R : Rg P tab g0 call nt ops E S W S1 wt D μ0)
include R

theorem Inv.gdI (I : Inv ops nt E S S1 wt D μ0 w0 ds L μ a w) (hi : i < ops.size) : Gd g0 (Di D S S1 ops.size L i) (z0 (S i)) := by
  have hk := R.keep_to (i := i) (by omega)
  refine ⟨Nat.le_trans R.gd.next hk.next, fun n hn => ⟨.inl (R.gd.dom n hn), fun b hb => ?_⟩, fun n hn => ?_⟩
  · have hn0 : n < (S 0).next := Nat.lt_of_lt_of_le hn R.gd.next
    rw [hk.glob n hn hn0] at hb
    rcases last_of (fun j => inL L j ∧ tch S S1 j n) ops.size with ⟨j, hj, ⟨h1, h2⟩, hl⟩ | h
    · refine ⟨j + 1, by omega, ⟨.inr ⟨j, rfl, h1, h2⟩, fun m h3 h4 h5 h6 => hl m (by omega) h4 ⟨h5, h6⟩⟩, ?_⟩
      rw [(R.keep_to (i := j + 1) (by omega)).glob n hn hn0]; exact hb
    · exact ⟨0, by omega, ⟨.inl rfl, fun m h3 h4 h5 h6 => h m h4 ⟨h5, h6⟩⟩, hb⟩
  · show (S i).heap.get n = _
    rw [hk.glob n hn (Nat.lt_of_lt_of_le hn R.gd.next)]
    exact R.gd.heap n hn

theorem draw_one {Q : Exit → Act → World → Prop} {K : Act → World → Prop} (I : Inv ops nt E S S1 wt D μ0 w0 ds L μ a w) (ho : ops[i]? = some o) (hiL : ¬ inL L i)
    (hr : ∀ e ∈ o.after, Region.binds .any e = true → inL L e.on)
    (hK : ∀ μ' a' w', Inv ops nt E S S1 wt D μ0 w0 ds (L.setIfInBounds i true) μ' a' w' → K a' w') : wpOp P ops Q i K a w := by
  have hi : i < ops.size := (Array.getElem?_eq_some_iff.1 ho).1
  have hlook : ∀ t ∈ o.looksAt ops, Rel μ ((E i).at t) (a.tmps.getD t undef) := fun t ht => I.look R ho hiL hr ht
  have hwant := wanted_looks (ops := ops) hlook
  have hrun := (R.tr.step i o ho).run
  have hok := I.okI R (i := i)
  unfold wpOp
  simp only [ho]
  rw [sel_eq, hwant] at hrun
  split at hrun
  · rename_i hw
    rw [if_pos hw]
    left
    have hops : ∀ t, Operand.tmp t ∈ o.op.operands → t ∈ o.looksAt ops := fun t ht => looks_op ht
    have he : evOp tab call (keepT (E i) (o.looksAt ops)) o.op (z0 (S i)) = some (W i, S1 i) := by
      rw [evOp_congr o.op fun x hx => keep_ev hops x hx]; exact hrun
    have cx : Cx P tab (Di D S S1 ops.size L i) (z0 (S i)) μ (keepT (E i) (o.looksAt ops)) nt (keepA a (o.looksAt ops)) w :=
      ⟨R.tk.ty, keep_env I.esz hlook, R.glob.mono I.ext.le, R.bnd_at (by omega), hok⟩
    have hsel : ∀ cs b, o.op ≠ .select cs b := fun cs b h => by rw [h] at hrun; simp [evOp] at hrun
    have hex : execOp (keepA a (o.looksAt ops)).eval o = execOp a.eval o := execOp_congr o hsel fun x hx => keep_eval hops x hx
    have hg := evOp_good (o := o) R.tk R.hc cx (I.gdI R hi) he (fun n hn hlt => I.uses R hi hiL (fun j h => I.waits R ho hr h) (.inl hn) hlt) (fun n h1 h2 => ?_) a K Q fun μ' w' X hs hv => hK _ _ _ (I.next R ho hiL hr hs hv)
    · rw [hex] at hg
      exact hg
    · cases hm : μ n with
      | none => rfl
      | some l =>
        exfalso
        have h1' : (S i).next ≤ n := h1
        have hn0 := R.next_le (i := 0) (j := i) (by omega) (by omega)
        have hn1 := R.next_le (i := i + 1) (j := ops.size) (by omega) (by omega)
        rw [R.nx hi] at hn1
        obtain ⟨j, hj, hjL, h4⟩ := I.dom n l hm (by omega) (by omega)
        have := R.fresh_apart hi hj ⟨h1', h2⟩ h4
        exact hiL (this ▸ hjL)
  · rename_i hw
    rw [if_neg hw]
    have h2 := Prod.mk.inj (Option.some.inj hrun)
    refine hK μ _ w (I.next R ho hiL hr (μ' := μ) (X := undef) ?_ ?_)
    · rw [← h2.2]
      exact Step.same (s := z0 (S i)) hok rfl rfl (fun _ h => h) rfl
    · rw [← h2.1]; exact rel_undef μ

theorem draw_any {Q : Exit → Act → World → Prop} (hQ : ∀ μ a w, Step low0 D (S 0) (S ops.size) μ0 μ w0 w → ERel μ (E ops.size) nt a.tmps → a.defers = ds → Q .normal a w) :
    ∀ (fuel : Nat) (L : Array Bool) (μ : Mu) (a : Act) (w : World), Inv ops nt E S S1 wt D μ0 w0 ds L μ a w → unl L ops.size ≤ fuel → wpAny P .any ops Q fuel L a w := by
  intro fuel
  have some_ready : ∀ (L : Array Bool), L.size = ops.size → ¬ (∀ j, j < ops.size → inL L j) → ∃ i, i ∈ Region.ready .any ops L := fun L hsz hn => by
    have : ∃ j, j < ops.size ∧ ¬ inL L j := Classical.byContradiction fun h => hn fun j hj => Classical.byContradiction fun h' => h ⟨j, hj, h'⟩
    obtain ⟨j, hj, hjn⟩ := this
    induction j using Nat.strongRecOn with
    | _ j ih =>
      obtain ⟨o, ho⟩ := op_at (ops := ops) hj
      by_cases hd : ∀ e ∈ o.after, Region.binds .any e = true → inL L e.on
      · refine ⟨j, mem_ready.2 ⟨?_, o, ho, fun e he hb => hd e he hb⟩⟩
        have hlt : j < L.size := by rw [hsz]; exact hj
        unfold inL at hjn
        simp [hlt] at hjn ⊢
        exact hjn
      · have : ∃ e, e ∈ o.after ∧ Region.binds .any e = true ∧ ¬ inL L e.on := Classical.byContradiction fun h => hd fun e he hb => Classical.byContradiction fun h' => h ⟨e, he, hb, h'⟩
        obtain ⟨e, he, hb, hen⟩ := this
        have hlt := R.tr.back j o e ho he hb
        exact ih e.on hlt (by omega) hen
  have fin : ∀ (L : Array Bool) (μ : Mu) (a : Act) (w : World), Inv ops nt E S S1 wt D μ0 w0 ds L μ a w → Region.ready .any ops L = [] → Q .normal a w := fun L μ a w I h0 => by
    have hall : ∀ j, j < ops.size → inL L j := Classical.byContradiction fun hn => by
      obtain ⟨i, hi⟩ := some_ready L I.size hn
      rw [h0] at hi; cases hi
    obtain ⟨h1, h2⟩ := I.done R hall
    exact hQ μ a w h1 h2 I.dfr
  induction fuel with
  | zero =>
    intro L μ a w I hu
    have hall := unl_zero L ops.size (by omega)
    have h0 : Region.ready .any ops L = [] := by
      cases hr : Region.ready .any ops L with
      | nil => rfl
      | cons i l =>
        have hi : i ∈ Region.ready .any ops L := by rw [hr]; exact List.mem_cons_self ..
        obtain ⟨h1, o, ho, _⟩ := mem_ready.1 hi
        have hlt : i < ops.size := (Array.getElem?_eq_some_iff.1 ho).1
        have h2 := hall i hlt
        have hls : i < L.size := by rw [I.size]; exact hlt
        simp [hls] at h1 h2
        rw [h1] at h2; cases h2
    exact ⟨h0, fin L μ a w I h0⟩
  | succ fuel ih =>
    intro L μ a w I hu
    refine ⟨fun h0 => fin L μ a w I h0, fun i hi => ?_⟩
    obtain ⟨h1, o, ho, hd⟩ := mem_ready.1 hi
    have hlt : i < ops.size := (Array.getElem?_eq_some_iff.1 ho).1
    have hls : i < L.size := by rw [I.size]; exact hlt
    have hiL : ¬ inL L i := fun h => by
      unfold inL at h
      simp [hls] at h h1
      rw [h1] at h; cases h
    refine draw_one R I ho hiL hd fun μ' a' w' I' => ih _ μ' a' w' I' ?_
    have := unl_lt L hls hiL ops.size hlt
    omega

omit R in
theorem evDraw_wp {e e' : Env} {s s' : St} (T : TOk P tab g0) (hc : CallOk P g0 call) (hk : CallKeep call) (hmix : P.follows .mixedOrders = true) {Q : Exit → Act → World → Prop} {id : Nat}
    (cx : Cx P tab D s μ e nt a w) (G : Gd g0 D s) (h : evDraw tab call nt ops.toList e s = some (e', s'))
    (hA : ∀ n, s'.acc.testBit n = true → n < s.next → D n) (hF : ∀ n, s.next ≤ n → n < s'.next → μ n = none)
    (hQ : ∀ μ' a' w', Step low0 D s s' μ μ' w w' → ERel μ' e' nt a'.tmps → a'.defers = a.defers → Q .normal a' w') : (Code.region id ops true).wp P Q a w := by
  obtain ⟨E, S, W, S1, wt, rfl, rfl, rfl, rfl, tr⟩ := evDraw_trace h
  have R : Rg P tab g0 call nt ops E S W S1 wt D μ := ⟨T, hc, hk, tr, cx.glob, cx.bnd, G, hA, hF⟩
  have hno : ∀ j, ¬ inL (Array.replicate ops.size false) j := fun j h => by
    unfold inL at h
    by_cases hj : j < ops.size
    · simp [hj] at h
    · simp [hj] at h
  refine wp_region_any hmix (draw_any R (w0 := w) (ds := a.defers) (fun μ' a' w' hs he hd => hQ μ' a' w' hs he hd) ops.size _ μ a _ ?_ (unl_rep _))
  have cur0 : ∀ n q, Cur S S1 ops.size (Array.replicate ops.size false) n q → q = 0 := fun n q h => by
    rcases h.1 with h | ⟨j, _, hj, _⟩
    · exact h
    · exact absurd hj (hno j)
  have hok : Ok D μ (S 0).heap { w with drawn := w.drawn + 1 } := ⟨fun n b d g => let ⟨l, h1, h2⟩ := cx.ok.rel n b d g; ⟨l, h1, h2.congr (Mu.le_refl _) rfl⟩, cx.ok.sep⟩
  have dom0 : ∀ n, Dom D S S1 ops.size (Array.replicate ops.size false) n → D n := fun n h => by
    rcases h with h | ⟨j, _, hj, _⟩
    · exact h
    · exact absurd hj (hno j)
  refine ⟨by simp, fun i j hi => absurd hi (hno i), ⟨Mu.le_refl _, fun n l h => .inl h, fun n l h h' => (by rw [h] at h'; cases h'), Nat.le_refl _, rfl, rfl, rfl, fun _ _ _ => rfl⟩,
    fun n l h h1 h2 => ?_, fun n b hd hl => ?_, fun n m b c l k dn dm hne ln lm e1 e2 => ?_, cx.env.size, fun t q hq hc => ?_, rfl⟩
  · have := hF n h1 h2
    rw [h] at this; cases this
  · obtain ⟨q, _, hc, hg⟩ := hl
    have := cur0 n q hc
    subst this
    exact hok.rel n b (dom0 n hd) hg
  · obtain ⟨q, _, hc, hg⟩ := ln
    obtain ⟨q', _, hc', hg'⟩ := lm
    have := cur0 n q hc
    subst this
    have := cur0 m q' hc'
    subst this
    exact hok.sep n m b c l k (dom0 n dn) (dom0 m dm) hne hg hg' e1 e2
  · have : q = 0 := by
      rcases hc.1 with h | ⟨j, _, _, hj, _⟩
      · exact h
      · exact absurd hj (hno j)
    subst this
    exact cx.env.at_ t

end
end Go.Rv

/-
  Code.
-/
namespace Go.Rv
open Go Go.RowKit

def Ex.out : Ex → Exit
  | .normal => .normal
  | .ret => .ret
  | .exit id => .exit id

section
variable {P : Program} {tab : Tab} {g0 : T B} {D : Nat → Prop} {s0 s s' : St} {μ0 μ : Mu} {e e' : Env} {nt : Nat} {a : Act} {w0 w : World} {v : V} {o : Oper} {call : Call}

theorem keep_merge {s s1 : St} (k : Keep low0 (z0 s) s1) : Keep low0 s { s1 with acc := Nat.lor s.acc s1.acc, wr := Nat.lor s.wr s1.wr } := by
  have hz : ∀ n, ¬ (z0 s).wr.testBit n = true := fun n h => by simp [z0] at h
  exact ⟨k.next, fun n h => testBit_lor_iff.2 (.inl h), fun n h => testBit_lor_iff.2 (.inl h),
    fun n h => (testBit_lor_iff.1 h).imp id fun h => testBit_lor_iff.2 (.inr ((k.wracc n h).resolve_left (hz n))),
    fun n h => (testBit_lor_iff.1 h).imp id fun h => (k.low n h).resolve_left (hz n),
    fun n b h hn g => k.heap n b (bool_false_of (fun h => testBit_lor_iff.2 (.inr h)) h) hn g,
    fun n h => (testBit_lor_iff.1 h).imp id fun h => (k.had n h).resolve_left (hz n),
    k.dfr, k.glob, fun hb n b g => k.bnd hb n b g⟩

theorem evDrawGo_keep (hc : CallKeep call) (hx : ExtKeep tab) {all : List Oper} : ∀ {l : List Oper} {ws : List Nat} {feet : List (Nat × Nat)} {e : Env} {s : St},
    evDrawGo tab call nt all l ws feet e s = some (e', s') → Keep low0 s s'
  | [], ws, feet, e, s, h => by unfold evDrawGo at h; cases h; exact Keep.refl _ _
  | o :: l, [], feet, e, s, h => by unfold evDrawGo at h; cases h
  | o :: l, w :: ws, feet, e, s, h => by
    unfold evDrawGo at h
    split at h
    · rename_i v s1 hrun
      obtain ⟨hap, h⟩ := sel_some h
      split at h
      · have k1 : Keep low0 (z0 s) s1 := by
          rw [sel_eq] at hrun
          split at hrun
          · exact evOp_keep hc hx hrun
          · cases hrun; exact Keep.refl _ _
        exact (keep_merge k1).trans (evDrawGo_keep hc hx h)
      · cases h
    · cases h

theorem evDraw_keep (hc : CallKeep call) (hx : ExtKeep tab) {all : List Oper} (h : evDraw tab call nt all e s = some (e', s')) : Keep low0 s s' := by
  unfold evDraw at h
  split at h
  · exact evDrawGo_keep hc hx h
  · cases h

theorem evCode_keep (hc : CallKeep call) (hx : ExtKeep tab) : ∀ (n : Nat) {c : Code} {e : Env} {s : St} {x : Ex} {e' : Env} {s' : St}, evCode tab call nt n c e s = some (x, e', s') → Keep low0 s.nd s'.nd := by
  intro n
  induction n with
  | zero => intro c e s x e' s' h; unfold evCode at h; cases h
  | succ n ih =>
    intro c e s x e' s' h
    unfold evCode at h
    split at h
    · cases h; exact Keep.refl _ _
    · split at h
      · rename_i h1; cases h; exact evOps_keep hc hx h1
      · cases h
    · split at h
      · rename_i h1; cases h; exact (evDraw_keep hc hx h1).nd
      · cases h
    · split at h
      · rename_i h1; exact (ih h1).trans (ih h)
      · exact ih h
    · split at h
      · exact ih h
      · exact ih h
      · cases h
    · split at h
      · rename_i h1
        split at h <;> (cases h; exact ih h1)
      · exact ih h
    · split at h
      · rename_i h1; exact (ih h1).trans (ih h)
      · exact ih h
    · cases h; exact Keep.refl _ _
    · exact ih h
    · cases h; exact Keep.refl _ _
    · cases h; exact Keep.refl _ _
    · cases h

theorem evCode_wp (b : Base P tab g0 D s0 μ0) (hc : CallOk P g0 call) (hk : CallKeep call) (hmix : P.follows .mixedOrders = true) :
    ∀ (n : Nat) {c : Code} {e : Env} {s : St} {μ : Mu} {a : Act} {w : World} {Q : Exit → Act → World → Prop} {x : Ex} {e' : Env} {s' : St}, evCode tab call nt n c e s = some (x, e', s') →
      At P D s0 μ0 w0 nt e s μ a w → (∀ n, s'.acc.testBit n = true → n < s0.next → D n) → (∀ n, s0.next ≤ n → n < s'.next → μ0 n = none) →
      (∀ μ' a' w', At P D s0 μ0 w0 nt e' s' μ' a' w' → Q x.out a' w') → c.wp P Q a w ∧ ∀ d, c = .loop d → Code.rounds P d Q n a w := by
  intro n
  induction n with
  | zero => intro c e s μ a w Q x e' s' h; unfold evCode at h; cases h
  | succ n ih =>
    intro c e s μ a w Q x e' s' h hat hA hF hQ
    have hA' : ∀ {s1 : St}, Keep low0 s1.nd s'.nd → ∀ n, s1.acc.testBit n = true → n < s0.next → D n := fun k n h1 h2 => hA n (k.acc n h1) h2
    have hF' : ∀ {s1 : St}, Keep low0 s1.nd s'.nd → ∀ n, s0.next ≤ n → n < s1.next → μ0 n = none := fun k n h1 h2 => hF n h1 (Nat.lt_of_lt_of_le h2 k.next)
    unfold evCode at h
    split at h
    · cases h
      exact ⟨wp_skip (hQ _ _ _ hat), fun d hd => by cases hd⟩
    · rename_i id ops
      split at h
      · rename_i h1
        cases h
        refine ⟨wp_region ?_, fun d hd => by cases hd⟩
        have := evOps_wp b hc hk (Q := Q) h1 (i := 0) rfl hat hA hF fun μ' a' w' h => hQ μ' a' w' h
        simpa using this
      · cases h
    · rename_i id ops
      split at h
      · rename_i h1
        cases h
        refine ⟨?_, fun d hd => by cases hd⟩
        have hkd := evDraw_keep hk b.T.extKeep h1
        have hnx := hat.step.keep.next
        have hn0 : s.nd.next = s.next := rfl
        rw [hn0] at hnx
        refine evDraw_wp b.T hc hk hmix (hat.cx b) (hat.gd b) h1 (fun n hn hlt => ?_) (fun n h1 h2 => ?_) fun μ' a' w' hs he hd => hQ μ' a' w' ⟨hat.step.trans hs.nd, he, ?_⟩
        · by_cases hn0 : n < s0.next
          · exact .inl (hA n hn hn0)
          · exact .inr ⟨by omega, hlt⟩
        · exact hat.step.ext.free (m := s'.next) hF hnx n h1 h2
        · rw [hd, hkd.dfr]; exact hat.dfr.mono hs.ext.le
      · cases h
    · rename_i c1 c2
      refine ⟨wp_seq ?_, fun d hd => by cases hd⟩
      split at h
      · rename_i e1 s1 h1
        have hk2 := evCode_keep hk b.T.extKeep n h
        refine (ih h1 hat (hA' hk2) (hF' hk2) fun μ' a' w' hat' => ?_).1
        exact (ih h hat' hA hF hQ).1
      · rename_i hne
        refine (ih h hat hA hF fun μ' a' w' hat' => ?_).1
        have := hQ μ' a' w' hat'
        cases x with
        | normal => exact absurd h (hne _ _)
        | ret => exact this
        | exit id => exact this
    · rename_i xo c1 c2
      refine ⟨?_, fun d hd => by cases hd⟩
      split at h
      · rename_i hev
        have := (hat.cx b).ev hev
        simp only [Rel] at this
        exact wp_cond_true this (ih h hat hA hF hQ).1
      · rename_i hev
        have := (hat.cx b).ev hev
        simp only [Rel] at this
        exact wp_cond_false this (ih h hat hA hF hQ).1
      · cases h
    · rename_i id c1
      refine ⟨wp_block ?_, fun d hd => by cases hd⟩
      split at h
      · rename_i k e1 s1 h1
        split at h
        · rename_i hid
          cases h
          refine (ih h1 hat hA hF fun μ' a' w' hat' => ?_).1
          simp only [Ex.out, Exit.inBlock, hid, if_true]
          exact hQ μ' a' w' hat'
        · rename_i hid
          cases h
          refine (ih h1 hat hA hF fun μ' a' w' hat' => ?_).1
          simp only [Ex.out, Exit.inBlock, hid, if_false]
          exact hQ μ' a' w' hat'
      · rename_i hne
        refine (ih h hat hA hF fun μ' a' w' hat' => ?_).1
        have := hQ μ' a' w' hat'
        cases x with
        | normal => exact this
        | ret => exact this
        | exit id => exact absurd h (hne _ _ _)
    · rename_i c1
      have key : Code.rounds P c1 Q (n + 1) a w := by
        rw [rounds_succ]
        split at h
        · rename_i e1 s1 h1
          have hk2 := evCode_keep hk b.T.extKeep n h
          refine (ih h1 hat (hA' hk2) (hF' hk2) fun μ' a' w' hat' => ?_).1
          exact (ih h hat' hA hF hQ).2 c1 rfl
        · rename_i hne
          refine (ih h hat hA hF fun μ' a' w' hat' => ?_).1
          have := hQ μ' a' w' hat'
          cases x with
          | normal => exact absurd h (hne _ _)
          | ret => exact this
          | exit id => exact this
      exact ⟨wp_loop_rounds _ key, fun d hd => by cases hd; exact key⟩
    · cases h
      exact ⟨wp_exit (hQ _ _ _ hat), fun d hd => by cases hd⟩
    · rename_i c1
      refine ⟨wp_scope_straight (ih h hat hA hF fun μ' a' w' hat' => ?_).1, fun d hd => by cases hd⟩
      have := hQ μ' a' w' hat'
      cases x <;> exact this
    · cases h
      exact ⟨wp_label (hQ _ _ _ hat), fun d hd => by cases hd⟩
    · cases h
      exact ⟨wp_ret (hQ _ _ _ hat), fun d hd => by cases hd⟩
    · cases h

end
end Go.Rv
