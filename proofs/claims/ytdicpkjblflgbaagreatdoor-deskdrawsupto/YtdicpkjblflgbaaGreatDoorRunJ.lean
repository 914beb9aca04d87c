/-
  Pieces of a run put one behind the other; how the tables are held against the program. Conditions: those that each statement below names, and no other.
-/
import Derived.Test.YtdicpkjblflgbaaGreatDoorRunI
import Derived.Laws.StructEq
set_option linter.all false

/-
  A long run in pieces: where it stands between two of them.
-/
namespace Go.Rv
open Go Go.RowKit

theorem onlyT_get (h : T B) (m : Nat) : ∀ (l : List Nat) (t : T B), (onlyT h l t).get m = if m ∈ l then h.get m else t.get m
  | [], t => by simp [onlyT]
  | n :: l, t => by
    unfold onlyT
    rw [onlyT_get h m l, T.get_put]
    by_cases h1 : m ∈ l
    · simp [h1]
    · by_cases h2 : m = n
      · subst h2; simp [h1]
      · simp [h1, h2]

/-- Some names alone; nothing looked at yet. -/
noncomputable def St.trim (s : St) (keep : List Nat) : St := ⟨onlyT s.heap keep .nil, s.next, 0, 0, s.dfr⟩

section
variable {P : Program} {tab : Tab} {g0 : T B} {wS : World} {nt : Nat} {s s' : St} {μ : Mu} {e e' : Env} {a : Act} {w : World} {v : V} {call : Call}

/-- The heap of a run between two pieces, and the world it stands in. -/
structure Mid (g0 : T B) (wS : World) (s : St) (μ : Mu) (w : World) : Prop where
  glob : Glob μ
  bnd : Bnd s
  ok : Ok (fun n => n < s.next) μ s.heap w
  next : low0 ≤ s.next
  heap : ∀ n, n < low0 → s.heap.get n = g0.get n
  fresh : ∀ n, s.next ≤ n → μ n = none
  wr : s.wr = 0
  grew : Grew wS w
  high : ∀ n l, low0 ≤ n → μ n = some l → wS.heap.size ≤ l.blk

theorem trim_less {keep : List Nat} {n : Nat} {b : B} (h : (s.trim keep).heap.get n = some b) : s.heap.get n = some b := by
  have := onlyT_get s.heap n keep .nil
  rw [show (s.trim keep).heap = onlyT s.heap keep .nil from rfl, this] at h
  split at h
  · exact h
  · cases h

theorem Mid.step {keep : List Nat} {D : Nat → Prop} {s1 : St} {μ' : Mu} {w' : World} (m : Mid g0 wS s μ w) (hD : ∀ n, n < s.next → D n) (hn : s1.next = s.next) (hw : s1.wr = s.wr) (hh : s1.heap = s.heap)
    (h : Step low0 D s1 s' μ μ' w w') (hk : ∀ n b, n < low0 → g0.get n = some b → n ∈ keep) : Mid g0 wS (s'.trim keep) μ' w' := by
  have hnx : s.next ≤ s'.next := by have := h.keep.next; omega
  refine ⟨m.glob.mono h.ext.le, fun n b g => (h.keep.bnd (fun n b g => by rw [hn]; rw [hh] at g; exact m.bnd n b g)) n b (trim_less g), ?_, Nat.le_trans m.next hnx, fun n hl => ?_, fun n hl => ?_, rfl, ?_, fun n l hl hq => ?_⟩
  · refine (h.ok.sub fun n hl => ?_).less fun n b g => trim_less g
    by_cases h1 : n < s.next
    · exact .inl (hD n h1)
    · exact .inr ⟨by omega, hl⟩
  · have hg := h.keep.glob n hl (by have := m.next; omega)
    rw [show (s'.trim keep).heap = onlyT s'.heap keep .nil from rfl, onlyT_get]
    rw [hh, m.heap n hl] at hg
    split
    · exact hg
    · rename_i hne
      cases hc : g0.get n with
      | none => rfl
      | some b => exact absurd (hk n b hl hc) hne
  · have hl' : s'.next ≤ n := hl
    cases hc : μ' n with
    | none => rfl
    | some l =>
      rcases h.ext.dom n l hc with h1 | h1
      · rw [m.fresh n (by omega)] at h1; cases h1
      · omega
  · refine ⟨Nat.le_trans m.grew.size h.ext.size, h.ext.os.trans m.grew.os, h.ext.tape.trans m.grew.tape, h.ext.output.trans m.grew.output, fun r hr => ?_⟩
    rw [h.ext.block r (Nat.lt_of_lt_of_le hr m.grew.size) (fun n l h1 h2 he => ?_)]
    · exact m.grew.block r hr
    · rcases h.keep.low n h1 with h3 | h3
      · rw [hw, m.wr] at h3; simp at h3
      · have := m.high n l h3 h2; omega
  · cases hc : μ n with
    | some k =>
      have := h.ext.le n k hc
      rw [this] at hq
      cases hq
      exact m.high n _ hl hc
    | none =>
      rcases h.ext.new n l hq hc with h1 | ⟨p, k, h1, h2, h3⟩
      · exact Nat.le_trans m.grew.size h1
      · rw [← h3]
        rcases h.keep.low p h2 with h4 | h4
        · rw [hw, m.wr] at h4; simp at h4
        · exact m.high p k h4 h1

structure Here (g0 : T B) (wS : World) (nt : Nat) (e : Env) (s : St) (μ : Mu) (a : Act) (w : World) : Prop where
  mid : Mid g0 wS s μ w
  env : ERel μ e nt a.tmps
  dfr : RelDf μ s.dfr a.defers

theorem Here.piece (T : TOk P tab g0) (hc : CallOk P g0 call) (hk : CallKeep call) (hmix : P.follows .mixedOrders = true) {n : Nat} {c : Code} {x : Ex} {keep : List Nat}
    (h : evCode tab call nt n c e s = some (x, e', s')) (m : Here g0 wS nt e s μ a w) (hkeep : ∀ n b, n < low0 → g0.get n = some b → n ∈ keep) {Q : Exit → Act → World → Prop}
    (hQ : ∀ μ' a' w', Here g0 wS nt e' (s'.trim keep) μ' a' w' → Q x.out a' w') : c.wp P Q a w := by
  have b : Base P tab g0 (fun n => n < s.next) s.nd μ := ⟨T, m.mid.glob, fun n b g => m.mid.bnd n b g, ⟨m.mid.next, fun n hn => Nat.lt_of_lt_of_le hn m.mid.next, m.mid.heap⟩⟩
  have hat : At P (fun n => n < s.next) s.nd μ w nt e s μ a w := ⟨Step.same (s := s.nd) (s' := s.nd) m.mid.ok rfl rfl (fun _ h => h) rfl, m.env, m.dfr⟩
  refine (evCode_wp b hc hk hmix n h hat (fun n _ hn => hn) (fun n hn _ => m.mid.fresh n hn) fun μ' a' w' h => hQ μ' a' w' ⟨?_, h.env, h.dfr⟩).1
  have k := m.mid.step (D := fun n => n < s.next) (s1 := s.nd) (s' := s'.nd) (fun n hn => hn) rfl rfl rfl h.step hkeep
  exact ⟨k.glob, k.bnd, k.ok, k.next, k.heap, k.fresh, k.wr, k.grew, k.high⟩

end
end Go.Rv

/-
  Tables that fit a program: what is asked of each entry.
-/
namespace Go.Rv
open Go Go.RowKit

def dOf : TypeDesc → D
  | .bool => .bool
  | .int k => .int k
  | .string => .str
  | .pointer e => .ptr e
  | .slice e => .slice e
  | .map k e => .map k e
  | .struct fs => .struct (fs.toList.map fun f => (f.offset, f.type))
  | .array n e => .arr n e
  | .func _ _ _ => .func
  | .interface _ => .iface
  | .unsafePointer => .uptr
  | _ => .other

theorem dOf_rel (u : TypeDesc) : DRel (dOf u) u := by
  cases u <;> first
    | rfl
    | exact ⟨_, rfl, rfl⟩
    | exact ⟨_, _, _, rfl⟩
    | exact ⟨_, rfl⟩
    | exact ⟨fun _ h => (by cases h), fun _ _ h => (by cases h)⟩

def aggVal : Value → Bool
  | .agg _ => true
  | _ => false
def tupVal : Value → Bool
  | .tuple _ => true
  | _ => false

/-- A type's entry, as the program has it. -/
noncomputable def tiOf (P : Program) (t : Nat) : Option TI :=
  (P.info? t).ob fun i => (P.underlying t).ob fun u => i.zero.ob fun z => (absL z.cells.toList).ob fun zs =>
    sel (Nat.beq zs.length i.size && (aggVal z == (dOf u).agg) && !tupVal z && (match u with | .struct fs => fs.toList.all fun f => (P.info? f.type).isSome | _ => true))
      (some ⟨dOf u, i.size, i.bytes, zs⟩) none

theorem tiOf_ok {P : Program} {t : Nat} {ti : TI} (h : tiOf P t = some ti) : TyOk P t ti := by
  unfold tiOf at h
  obtain ⟨i, hi, h⟩ := ob_eq h
  obtain ⟨u, hu, h⟩ := ob_eq h
  obtain ⟨z, hz, h⟩ := ob_eq h
  obtain ⟨zs, hzs, h⟩ := ob_eq h
  obtain ⟨hc, h⟩ := sel_some h
  cases h
  simp only [Bool.and_eq_true, Nat.beq_eq, beq_iff_eq, Bool.not_eq_true'] at hc
  obtain ⟨⟨⟨h1, h2⟩, h3⟩, h4⟩ := hc
  refine ⟨⟨i, z, hi, rfl, rfl, hz, absL_ok _ _ _ hzs⟩, ⟨u, hu, dOf_rel u⟩, h1, fun i' z' hi' hz' => ?_, fun fs hd f hf => ?_⟩
  · rw [hi] at hi'; cases hi'
    rw [hz] at hz'; cases hz'
    have hr := absL_ok (fun _ => none) _ _ hzs
    cases z with
    | agg l =>
      have : (dOf u).agg = true := by rw [← h2]; rfl
      simp only [zeroV, this, sel_true, Rel]
      exact ⟨l.toList, rfl, hr⟩
    | tuple l => simp [tupVal] at h3
    | _ =>
      have : (dOf u).agg = false := by rw [← h2]; rfl
      simp only [zeroV, this, sel_false]
      obtain ⟨v, vs, rfl, hx⟩ : ∃ v vs, zs = v :: vs ∧ Rel (fun _ => none) v _ := by
        cases zs with
        | nil => simp only [RelL] at hr; simp [Value.cells] at hr
        | cons v vs =>
          simp only [RelL] at hr
          obtain ⟨y, ys, he, h5, _⟩ := hr
          simp [Value.cells] at he
          exact ⟨v, vs, rfl, he.1 ▸ h5⟩
      exact hx
  · cases u with
    | struct fields =>
      simp only [dOf, D.struct.injEq] at hd
      subst hd
      obtain ⟨g, hg, rfl⟩ := List.mem_map.1 hf
      exact Option.isSome_iff_exists.1 (List.all_eq_true.1 h4 g hg)
    | _ => simp [dOf] at hd

/-- Of every entry of a tree. -/
def AllT {α : Type} (p : Nat → α → Prop) : T α → Nat → Nat → Prop
  | .nil, _, _ => True
  | .node v l r, a, b => (∀ x, v = some x → p b x) ∧ AllT p l (2 * a) (a + b) ∧ AllT p r (2 * a) (2 * a + b)

theorem AllT.get {α : Type} {p : Nat → α → Prop} : ∀ {t : T α} {a b n : Nat} {x : α}, AllT p t a b → t.get n = some x → p (a * n + b) x
  | .nil, a, b, n, x, _, h => by rw [T.get_nil] at h; cases h
  | .node v l r, a, b, 0, x, hA, h => by
    rw [T.get_zero] at h
    have := hA.1 x h
    simpa using this
  | .node v l r, a, b, m + 1, x, hA, h => by
    rw [T.get_succ] at h
    by_cases hm : m % 2 = 0
    · rw [if_pos hm] at h
      have := AllT.get hA.2.1 h
      have e : 2 * a * (m / 2) + (a + b) = a * (m + 1) + b := by
        have h2 : m = 2 * (m / 2) := by omega
        calc 2 * a * (m / 2) + (a + b) = a * (2 * (m / 2)) + (a + b) := by rw [Nat.mul_comm 2 a, Nat.mul_assoc]
          _ = a * m + (a + b) := by rw [← h2]
          _ = a * (m + 1) + b := by rw [Nat.mul_succ]; omega
      rw [e] at this
      exact this
    · rw [if_neg hm] at h
      have := AllT.get hA.2.2 h
      have e : 2 * a * (m / 2) + (2 * a + b) = a * (m + 1) + b := by
        have h2 : m = 2 * (m / 2) + 1 := by omega
        calc 2 * a * (m / 2) + (2 * a + b) = a * (2 * (m / 2)) + (2 * a + b) := by rw [Nat.mul_comm 2 a, Nat.mul_assoc]
          _ = a * (2 * (m / 2) + 1) + (a + b) := by rw [Nat.mul_succ]; omega
          _ = a * m + (a + b) := by rw [← h2]
          _ = a * (m + 1) + b := by rw [Nat.mul_succ]; omega
      rw [e] at this
      exact this

theorem AllT.root {α : Type} {p : Nat → α → Prop} {t : T α} (h : AllT p t 1 0) {n : Nat} {x : α} (hx : t.get n = some x) : p n x := by
  have := AllT.get h hx
  simpa using this

end Go.Rv

/-
  Structs whose '==' is cell by cell.
-/
namespace Go.Rv
open Go Go.RowKit

theorem kindNo_inj {k k' : IntKind} (h : kindNo k = kindNo k') : k = k' := by cases k <;> cases k' <;> first | rfl | cases h

/-- What the fields must be, told by numbers: 3: int, 9: bool. -/
def FitF (P : Program) : List Field → Nat → List Nat → Prop
  | [], _, [] => True
  | f :: fs, i, n :: ns => f.name ≠ "_" ∧ f.offset = i ∧ ((n = 3 ∧ P.underlying f.type = some (.int .i64)) ∨ (n = 9 ∧ P.underlying f.type = some .bool)) ∧ FitF P fs (i + 1) ns
  | _, _, _ => False

theorem code3 {v : V} (h : codeV v = 3) : ∃ n, v = .int .i64 n := by
  cases v <;> simp only [codeV] at h <;> first
    | (cases h; done)
    | (rename_i k n; exact ⟨n, by rw [kindNo_inj (k := k) (k' := .i64) h]⟩)
theorem code9 {v : V} (h : codeV v = 9) : ∃ b, v = .bool b := by
  cases v <;> simp only [codeV] at h <;> first
    | (cases h; done)
    | exact ⟨_, rfl⟩
    | (rename_i k n; cases k <;> cases h)

theorem part_plain {P : Program} {t : Nat} {d : TypeDesc} {xs : List Value} {i : Nat} {X : Value} {w : World} (hu : P.underlying t = some d) (hd : d = .int .i64 ∨ d = .bool) (hX : xs[i]? = some X) :
    (part t ⟨xs⟩ i).run P w = .ok X w := by
  have h1 : (⟨xs⟩ : Array Value)[i]? = some X := by simpa using hX
  rcases hd with rfl | rfl <;> simp [part, isAgg, run_underlying hu, hX]

theorem eqFields_ok {P : Program} {μ : Mu} {d : Nat} {w : World} : ∀ {fs : List Field} {i : Nat} {ns : List Nat} {l m : List V} {xs ys : List Value} {b : Bool}, FitF P fs i ns → codesV l ns = true →
    RelL μ l (xs.drop i) → RelL μ m (ys.drop i) → eqL l m = some b → (Op.eqFields (d + 1) ⟨xs⟩ ⟨ys⟩ fs).run P w = .ok b w
  | [], i, ns, l, m, xs, ys, b, hf, hc, hl, hm, he => by
    cases ns with
    | cons n ns => simp [FitF] at hf
    | nil =>
      cases l with
      | cons v l => simp [codesV] at hc
      | nil =>
        cases m with
        | cons u m => simp [eqL] at he
        | nil =>
          simp only [eqL] at he
          cases he
          simp [Op.eqFields]
  | f :: fs, i, ns, l, m, xs, ys, b, hf, hc, hl, hm, he => by
    cases ns with
    | nil => simp [FitF] at hf
    | cons n ns =>
      obtain ⟨f1, f2, f3, f4⟩ := hf
      cases l with
      | nil => simp [codesV] at hc
      | cons v l =>
        simp only [codesV, Bool.and_eq_true, Nat.beq_eq] at hc
        obtain ⟨c1, c2⟩ := hc
        simp only [RelL] at hl
        obtain ⟨X, xt, hxs, hx, hxt⟩ := hl
        have hX : xs[i]? = some X := by
          have : (xs.drop i)[0]? = some X := by rw [hxs]; rfl
          simpa using this
        have hxd : xs.drop (i + 1) = xt := by rw [← List.tail_drop, hxs]; rfl
        have step : ∀ {u : V} {m' : List V} {Y : Value} {yt : List Value} {q : Bool}, ys.drop i = Y :: yt → RelL μ m' yt →
            (∀ d, P.underlying f.type = some d → (d = .int .i64 ∨ d = .bool)) → (Op.equalIn (d + 1) f.type X Y).run P w = .ok q w → (if q then eqL l m' else some false) = some b →
            (Op.eqFields (d + 1) ⟨xs⟩ ⟨ys⟩ (f :: fs)).run P w = .ok b w := fun {u m' Y yt q} hys hyt hd heq hq => by
          have hY : ys[i]? = some Y := by
            have : (ys.drop i)[0]? = some Y := by rw [hys]; rfl
            simpa using this
          have hyd : ys.drop (i + 1) = yt := by rw [← List.tail_drop, hys]; rfl
          obtain ⟨dd, hdd⟩ : ∃ dd, P.underlying f.type = some dd := by rcases f3 with ⟨_, h⟩ | ⟨_, h⟩ <;> exact ⟨_, h⟩
          have p1 := part_plain (w := w) hdd (hd dd hdd) hX
          have p2 := part_plain (w := w) hdd (hd dd hdd) hY
          unfold Op.eqFields
          rw [if_pos f1, f2]
          simp only [Sem.run_bind, p1, p2, heq, Result.andThen_ok]
          cases q with
          | false =>
            simp only [Bool.false_eq_true, if_false] at hq
            cases hq
            simp
          | true =>
            simp only [if_true] at hq
            have := eqFields_ok (d := d) (w := w) f4 c2 (hxd ▸ hxt) (hyd ▸ hyt) hq
            simpa using this
        rcases f3 with ⟨rfl, hu⟩ | ⟨rfl, hu⟩
        · obtain ⟨p, rfl⟩ := code3 c1
          simp only [Rel] at hx
          subst hx
          unfold eqL at he
          split at he
          · rename_i h1; cases h1
          · rename_i k q l1 k' q' m' h1
            cases h1
            obtain ⟨hk, he2⟩ := sel_some he
            have := kind_eq hk
            subst this
            simp only [RelL] at hm
            obtain ⟨Y, yt, hys, hy, hyt⟩ := hm
            simp only [Rel] at hy
            subst hy
            refine step (u := .int .i64 q') (q := (p == q')) hys hyt (fun d hd => by rw [hu] at hd; cases hd; exact .inl rfl) (run_equalIn_int w d _ _ _ _ _ hu) ?_
            rw [sel_eq] at he2
            exact he2
          · rename_i h1; cases h1
          · cases he
        · obtain ⟨p, rfl⟩ := code9 c1
          simp only [Rel] at hx
          subst hx
          unfold eqL at he
          split at he
          · rename_i h1; cases h1
          · rename_i h1; cases h1
          · rename_i p1 l1 q' m' h1
            cases h1
            simp only [RelL] at hm
            obtain ⟨Y, yt, hys, hy, hyt⟩ := hm
            simp only [Rel] at hy
            subst hy
            refine step (u := .bool q') (q := (p == q')) hys hyt (fun d hd => by rw [hu] at hd; cases hd; exact .inr rfl) (run_equalIn_bool' w d _ _ _ hu) ?_
            rw [sel_eq] at he
            exact he
          · cases he

def fitB (P : Program) : List Field → Nat → List Nat → Bool
  | [], _, [] => true
  | f :: fs, i, n :: ns => (f.name != "_") && Nat.beq f.offset i && (match P.underlying f.type with | some (.int .i64) => Nat.beq n 3 | some .bool => Nat.beq n 9 | _ => false) && fitB P fs (i + 1) ns
  | _, _, _ => false

theorem fitB_ok {P : Program} : ∀ {fs : List Field} {i : Nat} {ns : List Nat}, fitB P fs i ns = true → FitF P fs i ns
  | [], i, [], _ => trivial
  | [], i, n :: ns, h => by simp [fitB] at h
  | f :: fs, i, [], h => by simp [fitB] at h
  | f :: fs, i, n :: ns, h => by
    simp only [fitB, Bool.and_eq_true, bne_iff_ne, Nat.beq_eq] at h
    obtain ⟨⟨⟨h1, h2⟩, h3⟩, h4⟩ := h
    refine ⟨h1, h2, ?_, fitB_ok h4⟩
    split at h3
    · rename_i hu; exact .inl ⟨by simpa [Nat.beq_eq] using h3, hu⟩
    · rename_i hu; exact .inr ⟨by simpa [Nat.beq_eq] using h3, hu⟩
    · cases h3

theorem eqs_struct {P : Program} {t : Nat} {ns : List Nat} {l : List V} (hu : P.underlying t = some (.struct (P.fieldsOf t))) (hp : P.stoodInHeld t = false) (hf : fitB P (P.fieldsOf t).toList 0 ns = true) (hc : codesV l ns = true)
    {μ : Mu} {m : List V} {b : Bool} {xs ys : List Value} {w : World} (he : eqL l m = some b) (hl : RelL μ l xs) (hm : RelL μ m ys) : (Op.equal t (.agg ⟨xs⟩) (.agg ⟨ys⟩)).run P w = .ok b w := by
  unfold Op.equal
  obtain ⟨dep, hdep⟩ : ∃ d, Op.maxDepth = d + 1 + 1 := ⟨9998, rfl⟩
  rw [hdep, run_equalIn_struct w (dep + 1) t ⟨xs⟩ ⟨ys⟩ hu hp]
  exact eqFields_ok (fitB_ok hf) hc (by simpa using hl) (by simpa using hm) he

end Go.Rv
