/-
  The law's argument, opened. Conditions: those that each statement below names, and no other.
-/
import Derived.Test.YtdicpkjblflgbaaGreatDoorWlkF
import Derived.Test.YtdicpkjblflgbaaGreatDoorRows
import Derived.Deep.Slices
import Derived.ChangeArms
set_option linter.all false

/-
  The argument opened: slices of structs.
-/
namespace Go.Proofs.YtdicpkjblflgbaaGreatDoor
open Go Go.RowKit Go.ChangeShapes Go.WideShapes Go.Deep

theorem list_of {α : Type} {p : Nat → α → Prop} : ∀ n : Nat, (∀ i, i < n → ∃ a, p i a) → ∃ l : List α, l.length = n ∧ ∀ (i : Nat) (a : α), l[i]? = some a → p i a
  | 0, _ => ⟨[], rfl, fun i a h => by simp at h⟩
  | n + 1, h => by
    obtain ⟨l, hl, hp⟩ := list_of n fun i hi => h i (Nat.lt_succ_of_lt hi)
    obtain ⟨a, ha⟩ := h n (Nat.lt_succ_self n)
    refine ⟨l ++ [a], by simp [hl], fun i b hb => ?_⟩
    by_cases hi : i < n
    · rw [List.getElem?_append_left (by omega)] at hb
      exact hp i b hb
    · rw [List.getElem?_append_right (by omega)] at hb
      have : i - l.length = 0 := by
        rcases Nat.eq_zero_or_pos (i - l.length) with h0 | h0
        · exact h0
        · rw [List.getElem?_eq_none (by simp; omega)] at hb; cases hb
      rw [this] at hb
      cases hb
      obtain rfl : i = n := by omega
      exact ha

theorem bulk_sum {α H : Type} {m : α → Nat} : ∀ (l : List α) (ds : List (DataW H)), l.length = ds.length → (∀ (i : Nat) (a : α) (d : DataW H), l[i]? = some a → ds[i]? = some d → m a ≤ Rows.uptoBulk d) → (l.map m).sum ≤ Rows.uptoBulkAll ds
  | [], ds, _, _ => by simp
  | a :: l, [], h, _ => by simp at h
  | a :: l, d :: ds, h, hm => by
    have h1 := hm 0 a d rfl rfl
    have h2 := bulk_sum l ds (by simpa using h) fun i a d ha hd => hm (i + 1) a d ha hd
    rw [List.map_cons, List.sum_cons, Rows.uptoBulkAll]
    omega

section
variable {H : Type} {enc : TypeId × Value → H} {P : Program} {w : World} {base : Nat} {spare : Nat → Bool} {held : Bool}

theorem rd_slice {α : Type} {t e C : Nat} {Q : α → List Value → Prop} {m : α → Nat} (ht : P.underlying t = some (.slice e)) (hC : P.cellsOf e = C) (h0 : 0 < C)
    (rd : ∀ {fuel : Nat} {cs : List Value} {x : DataW H × List MemPlace}, DataW.trod enc P w base spare held fuel e cs = some x → ∃ a : α, Q a cs ∧ m a ≤ Rows.uptoBulk x.1)
    {fuel : Nat} {cs : List Value} {x : DataW H × List MemPlace} (h : DataW.trod enc P w base spare held fuel t cs = some x) :
    ∃ (at0 : Option Addr) (l : List α) (cap : Nat), cs = [.slice at0 l.length cap] ∧ (l.map m).sum ≤ Rows.uptoBulk x.1 ∧
      (0 < l.length → ∃ b off, at0 = some ⟨b, off, none⟩ ∧ b < w.heap.size ∧ ∀ (k : Nat) (a : α), l[k]? = some a → ∃ cs', Q a cs' ∧ ∀ j, j < C → w.cell? ⟨b, off + k * C + j, none⟩ = cs'[j]?) ∧ ∀ a ∈ l, ∃ cs', Q a cs' := by
  rcases open_slice ht h with ⟨rfl, rfl⟩ | ⟨a, len, cap, mm, n, D, Pl, rfl, hb, hl, hm, hmm, rfl, hi⟩
  · exact ⟨none, [], 0, rfl, by simp, fun h => by simp at h, fun a h => by simp at h⟩
  · have hlm : len ≤ mm := by rw [hmm]; split <;> omega
    rw [hC] at hi
    obtain ⟨l, hll, hlp⟩ := list_of (α := α) (p := fun i y => ∃ cs', Q y cs' ∧ m y ≤ Rows.uptoBulk (D i) ∧ ∀ j, j < C → w.cell? (a.add (i * C + j)) = cs'[j]?) len fun i hil => by
      obtain ⟨cs', h1, h2⟩ := hi i (by omega)
      obtain ⟨y, hy, hmy⟩ := rd h2
      obtain ⟨_, hlen, hat⟩ := World.cells?_some h1
      exact ⟨y, cs', hy, hmy, fun j hj => by rw [← Go.Deep.add_add]; exact hat j hj⟩
    subst hll
    refine ⟨some a, l, cap, rfl, ?_, fun hpos => ?_, fun y hy => ?_⟩
    · rw [Rows.uptoBulk]
      have := bulk_sum (m := m) l ((List.range l.length).map D) (by simp) fun i y d hy hd => by
        obtain ⟨cs', _, h2, _⟩ := hlp i y hy
        rw [List.getElem?_map, List.getElem?_range (List.getElem?_eq_some_iff.1 hy).1] at hd
        cases hd
        exact h2
      omega
    · obtain ⟨blk, off, sp⟩ := a
      have hsp : sp = none ∧ blk < w.heap.size := by
        obtain ⟨y, hy⟩ : ∃ y, l[0]? = some y := ⟨_, List.getElem?_eq_getElem hpos⟩
        obtain ⟨cs', h1, h2⟩ := hi 0 (by omega)
        obtain ⟨_, hlen, hat⟩ := World.cells?_some h1
        have hc := hat 0 h0
        rw [List.getElem?_eq_getElem (by omega)] at hc
        simp only [Nat.zero_mul, Addr.add, if_true] at hc
        unfold World.cell? at hc
        simp only at hc
        split at hc
        · rename_i c e' f hblk
          refine ⟨?_, lt_of_block hblk⟩
          cases sp with
          | none => rfl
          | some s => simp at hc
        · cases hc
      obtain ⟨rfl, hlt⟩ := hsp
      refine ⟨blk, off, rfl, hlt, fun k y hy => ?_⟩
      obtain ⟨cs', h1, _, h2⟩ := hlp k y hy
      refine ⟨cs', h1, fun j hj => ?_⟩
      rw [← h2 j hj]
      unfold Addr.add
      split
      · rename_i h; rw [Nat.add_assoc, h]; rfl
      · rw [Nat.add_assoc]
    · obtain ⟨i, hi⟩ := List.mem_iff_getElem?.1 hy
      obtain ⟨cs', h1, _⟩ := hlp i y hi
      exact ⟨cs', h1⟩
end
end Go.Proofs.YtdicpkjblflgbaaGreatDoor

/-
  The argument opened: glyphs, boxes, lines.
-/
namespace Go.Proofs.YtdicpkjblflgbaaGreatDoor
open Go Go.RowKit Go.ChangeShapes Go.WideShapes Go.Deep

section
variable {H : Type} {enc : TypeId × Value → H} {w : World} {base : Nat} {spare : Nat → Bool} {held : Bool}

theorem cells3 : Tryz.prog.cellsOf 3 = 1 := by kernel_rfl
theorem cells4 : Tryz.prog.cellsOf 4 = 1 := by kernel_rfl
theorem cells29 : Tryz.prog.cellsOf 29 = 1 := by kernel_rfl
theorem cells26 : Tryz.prog.cellsOf 26 = 1 := by kernel_rfl
theorem cells22 : Tryz.prog.cellsOf 22 = 1 := by kernel_rfl
theorem cells43 : Tryz.prog.cellsOf 43 = 4 := by kernel_rfl
theorem cells31 : Tryz.prog.cellsOf 31 = 6 := by kernel_rfl
theorem cells28 : Tryz.prog.cellsOf 28 = 8 := by kernel_rfl
theorem cells24 : Tryz.prog.cellsOf 24 = 2 := by kernel_rfl

theorem rd_int {fuel : Nat} {c : Value} {y : DataW H × List MemPlace} (h : DataW.trod enc Tryz.prog w base spare held fuel 3 [c] = some y) : ∃ n, c = .int .i64 n ∧ R64 n ∧ y = (.lit (.int .i64 n), []) := by
  obtain ⟨n, h1, h2, h3⟩ := DataW.trod_int Tryz.underlying3 h
  simp only [List.cons.injEq, and_true] at h1
  refine ⟨n, h1, ?_, h2⟩
  simp [Lit.wf] at h3
  have e1 : IntKind.i64.min = -9223372036854775808 := rfl
  rw [e1] at h3
  exact h3

theorem len2 {α : Type} : ∀ {l : List α}, l.length = 2 → ∃ a0 a1, l = [a0, a1]
  | [_, _], _ => ⟨_, _, rfl⟩
theorem len4 {α : Type} : ∀ {l : List α}, l.length = 4 → ∃ a0 a1 a2 a3, l = [a0, a1, a2, a3]
  | [_, _, _, _], _ => ⟨_, _, _, _, rfl⟩
theorem len6 {α : Type} : ∀ {l : List α}, l.length = 6 → ∃ a0 a1 a2 a3 a4 a5, l = [a0, a1, a2, a3, a4, a5]
  | [_, _, _, _, _, _], _ => ⟨_, _, _, _, _, _, rfl⟩
theorem len8 {α : Type} : ∀ {l : List α}, l.length = 8 → ∃ a0 a1 a2 a3 a4 a5 a6 a7, l = [a0, a1, a2, a3, a4, a5, a6, a7]
  | [_, _, _, _, _, _, _, _], _ => ⟨_, _, _, _, _, _, _, _, rfl⟩
theorem field_at {fs : Array Field} {n i : Nat} {f : Field} {cs : List Value} {xs : List (DataW H × List MemPlace)}
    (hg : ∀ (i : Nat) (f : Field), fs[i]? = some f → DataW.trod enc Tryz.prog w base spare held n f.type ((cs.drop f.offset).take (Tryz.prog.cellsOf f.type)) = xs[i]?)
    (hf : fs[i]? = some f) (ho : f.offset = i) (hk : Tryz.prog.cellsOf f.type = 1) {c : Value} (hc : cs[i]? = some c) {y : DataW H × List MemPlace} (hy : xs[i]? = some y) :
    DataW.trod enc Tryz.prog w base spare held n f.type [c] = some y := by
  have h := hg i f hf
  rw [ho, hk, hy] at h
  obtain ⟨hlt, rfl⟩ := List.getElem?_eq_some_iff.1 hc
  rw [List.drop_eq_getElem_cons hlt] at h
  exact h

def Qg (g : Gl) (cs : List Value) : Prop := cs = [.int .i64 g.f, .int .i64 g.i, .int .i64 g.x, .int .i64 g.y] ∧ g.ok
theorem rd_gl {fuel : Nat} {cs : List Value} {x : DataW H × List MemPlace} (h : DataW.trod enc Tryz.prog w base spare held fuel 43 cs = some x) : ∃ g : Gl, Qg g cs ∧ 1 ≤ Rows.uptoBulk x.1 := by
  obtain ⟨xs, n, _, rfl, hl, hxn, hg⟩ := DataW.trod_struct Tryz.underlying43 h
  rw [cells43] at hl
  obtain ⟨c0, c1, c2, c3, rfl⟩ := len4 hl
  obtain ⟨y0, y1, y2, y3, rfl⟩ := len4 (hxn.trans rfl)
  obtain ⟨n0, rfl, r0, rfl⟩ := rd_int (field_at hg (i := 0) rfl rfl cells3 rfl rfl)
  obtain ⟨n1, rfl, r1, rfl⟩ := rd_int (field_at hg (i := 1) rfl rfl cells3 rfl rfl)
  obtain ⟨n2, rfl, r2, rfl⟩ := rd_int (field_at hg (i := 2) rfl rfl cells3 rfl rfl)
  obtain ⟨n3, rfl, r3, rfl⟩ := rd_int (field_at hg (i := 3) rfl rfl cells3 rfl rfl)
  exact ⟨⟨n0, n1, n2, n3⟩, ⟨rfl, r0, r1, r2, r3⟩, by rw [Rows.uptoBulk]; omega⟩

theorem sum_one {α : Type} (l : List α) : (l.map fun _ => 1).sum = l.length := by
  induction l with
  | nil => rfl
  | cons a l ih => rw [List.map_cons, List.sum_cons, ih, List.length_cons]; omega

def Qb (w : World) (B : Bx) (cs : List Value) : Prop := ∃ atg cap, cs = [.int .i64 B.a, .int .i64 B.b, .int .i64 B.c, .int .i64 B.d, .int .i64 B.e, .slice atg B.gs.length cap] ∧ B.ok ∧ GsAt w atg B.gs
theorem rd_gs {fuel : Nat} {c : Value} {y : DataW H × List MemPlace} (h : DataW.trod enc Tryz.prog w base spare held fuel 29 [c] = some y) :
    ∃ (atg : Option Addr) (gs : List Gl) (cap : Nat), c = .slice atg gs.length cap ∧ gs.length ≤ Rows.uptoBulk y.1 ∧ GsAt w atg gs ∧ ∀ g ∈ gs, g.ok := by
  obtain ⟨atg, gs, cap, h1, h2, h3, h4⟩ := rd_slice (m := fun _ => 1) Tryz.underlying29 cells43 (by decide) (fun h => rd_gl h) h
  simp only [List.cons.injEq, and_true] at h1
  rw [sum_one] at h2
  refine ⟨atg, gs, cap, h1, h2, fun hp => ?_, fun g hg => (h4 g hg).elim fun _ q => q.2⟩
  obtain ⟨b, off, ha, hlt, hc⟩ := h3 hp
  refine ⟨b, off, ha, hlt, fun k g hk => ?_⟩
  obtain ⟨cs', ⟨rfl, _⟩, hj⟩ := hc k g hk
  exact ⟨hj 0 (by decide), hj 1 (by decide), hj 2 (by decide), hj 3 (by decide)⟩
theorem rd_bx {fuel : Nat} {cs : List Value} {x : DataW H × List MemPlace} (h : DataW.trod enc Tryz.prog w base spare held fuel 31 cs = some x) : ∃ B : Bx, Qb w B cs ∧ 1 + B.gs.length ≤ Rows.uptoBulk x.1 := by
  obtain ⟨xs, n, _, rfl, hl, hxn, hg⟩ := DataW.trod_struct Tryz.underlying31 h
  rw [cells31] at hl
  obtain ⟨c0, c1, c2, c3, c4, c5, rfl⟩ := len6 hl
  obtain ⟨y0, y1, y2, y3, y4, y5, rfl⟩ := len6 (hxn.trans rfl)
  obtain ⟨n0, rfl, r0, rfl⟩ := rd_int (field_at hg (i := 0) rfl rfl cells3 rfl rfl)
  obtain ⟨n1, rfl, r1, rfl⟩ := rd_int (field_at hg (i := 1) rfl rfl cells3 rfl rfl)
  obtain ⟨n2, rfl, r2, rfl⟩ := rd_int (field_at hg (i := 2) rfl rfl cells3 rfl rfl)
  obtain ⟨n3, rfl, r3, rfl⟩ := rd_int (field_at hg (i := 3) rfl rfl cells3 rfl rfl)
  obtain ⟨n4, rfl, r4, rfl⟩ := rd_int (field_at hg (i := 4) rfl rfl cells3 rfl rfl)
  obtain ⟨atg, gs, cap, rfl, hb, hgs, hok⟩ := rd_gs (field_at hg (i := 5) rfl rfl cells29 rfl rfl)
  refine ⟨⟨n0, n1, n2, n3, n4, gs⟩, ⟨atg, cap, rfl, ⟨⟨r0, r1, r2, r3, r4⟩, hok⟩, hgs⟩, ?_⟩
  simp only [List.map_cons, List.map_nil, Rows.uptoBulk, Rows.uptoBulkAll]
  omega

theorem sum_plus {α : Type} (f : α → Nat) (l : List α) : (l.map fun a => 1 + f a).sum = l.length + (l.map f).sum := by
  induction l with
  | nil => rfl
  | cons a l ih => rw [List.map_cons, List.sum_cons, ih, List.length_cons, List.map_cons, List.sum_cons]; omega

def Ql (w : World) (L : Ln) (cs : List Value) : Prop := ∃ atb cap, cs = [.int .i64 L.p0, .int .i64 L.p1, .int .i64 L.p2, .int .i64 L.p3, .int .i64 L.p4, .int .i64 L.p5, .bool L.hy, .slice atb L.bs.length cap] ∧ L.sane ∧ BsAt w atb L.bs
theorem rd_bs {fuel : Nat} {c : Value} {y : DataW H × List MemPlace} (h : DataW.trod enc Tryz.prog w base spare held fuel 26 [c] = some y) :
    ∃ (atb : Option Addr) (bs : List Bx) (cap : Nat), c = .slice atb bs.length cap ∧ cnt bs bs.length ≤ Rows.uptoBulk y.1 ∧ BsAt w atb bs ∧ ∀ B ∈ bs, B.ok := by
  obtain ⟨atb, bs, cap, h1, h2, h3, h4⟩ := rd_slice (m := fun B : Bx => 1 + B.gs.length) Tryz.underlying26 cells31 (by decide) (fun h => rd_bx h) h
  simp only [List.cons.injEq, and_true] at h1
  rw [sum_plus] at h2
  refine ⟨atb, bs, cap, h1, by unfold cnt; rw [List.take_length]; exact h2, fun hp => ?_, fun B hB => (h4 B hB).elim fun _ q => q.elim fun _ q => q.elim fun _ q => q.2.1⟩
  obtain ⟨b, off, ha, hlt, hc⟩ := h3 hp
  refine ⟨b, off, ha, hlt, fun k B hk => ?_⟩
  obtain ⟨cs', ⟨atg, capg, rfl, _, hgs⟩, hj⟩ := hc k B hk
  exact ⟨hj 0 (by decide), hj 1 (by decide), hj 2 (by decide), hj 3 (by decide), hj 4 (by decide), atg, capg, hj 5 (by decide), hgs⟩
theorem rd_ln {fuel : Nat} {cs : List Value} {x : DataW H × List MemPlace} (h : DataW.trod enc Tryz.prog w base spare held fuel 28 cs = some x) : ∃ L : Ln, Ql w L cs ∧ 1 + cnt L.bs L.bs.length ≤ Rows.uptoBulk x.1 := by
  obtain ⟨xs, n, _, rfl, hl, hxn, hg⟩ := DataW.trod_struct Tryz.underlying28 h
  rw [cells28] at hl
  obtain ⟨c0, c1, c2, c3, c4, c5, c6, c7, rfl⟩ := len8 hl
  obtain ⟨y0, y1, y2, y3, y4, y5, y6, y7, rfl⟩ := len8 (hxn.trans rfl)
  obtain ⟨n0, rfl, r0, rfl⟩ := rd_int (field_at hg (i := 0) rfl rfl cells3 rfl rfl)
  obtain ⟨n1, rfl, r1, rfl⟩ := rd_int (field_at hg (i := 1) rfl rfl cells3 rfl rfl)
  obtain ⟨n2, rfl, r2, rfl⟩ := rd_int (field_at hg (i := 2) rfl rfl cells3 rfl rfl)
  obtain ⟨n3, rfl, r3, rfl⟩ := rd_int (field_at hg (i := 3) rfl rfl cells3 rfl rfl)
  obtain ⟨n4, rfl, r4, rfl⟩ := rd_int (field_at hg (i := 4) rfl rfl cells3 rfl rfl)
  obtain ⟨n5, rfl, r5, rfl⟩ := rd_int (field_at hg (i := 5) rfl rfl cells3 rfl rfl)
  obtain ⟨hy, h6, rfl⟩ := DataW.trod_bool Tryz.underlying4 (field_at hg (i := 6) rfl rfl cells4 rfl rfl)
  simp only [List.cons.injEq, and_true] at h6
  subst h6
  obtain ⟨atb, bs, cap, rfl, hb, hbs, hok⟩ := rd_bs (field_at hg (i := 7) rfl rfl cells26 rfl rfl)
  refine ⟨⟨n0, n1, n2, n3, n4, n5, hy, bs⟩, ⟨atb, cap, rfl, ⟨⟨r0, r1, r3, r4, r5⟩, hok⟩, hbs⟩, ?_⟩
  simp only [List.map_cons, List.map_nil, Rows.uptoBulk, Rows.uptoBulkAll]
  omega
theorem rd_ls {fuel : Nat} {c : Value} {y : DataW H × List MemPlace} (h : DataW.trod enc Tryz.prog w base spare held fuel 22 [c] = some y) :
    ∃ (at0 : Option Addr) (ls : List Ln) (cap : Nat), c = .slice at0 ls.length cap ∧ (ls.map fun L => 1 + cnt L.bs L.bs.length).sum ≤ Rows.uptoBulk y.1 ∧ LsAt w at0 ls ∧ ∀ L ∈ ls, L.sane := by
  obtain ⟨at0, ls, cap, h1, h2, h3, h4⟩ := rd_slice (m := fun L : Ln => 1 + cnt L.bs L.bs.length) Tryz.underlying22 cells28 (by decide) (fun h => rd_ln h) h
  simp only [List.cons.injEq, and_true] at h1
  refine ⟨at0, ls, cap, h1, h2, fun hp => ?_, fun L hL => (h4 L hL).elim fun _ q => q.elim fun _ q => q.elim fun _ q => q.2.1⟩
  obtain ⟨b, off, ha, hlt, hc⟩ := h3 hp
  refine ⟨b, off, ha, hlt, fun k L hk => ?_⟩
  obtain ⟨cs', ⟨atb, capb, rfl, _, hbs⟩, hj⟩ := hc k L hk
  exact ⟨hj 0 (by decide), hj 1 (by decide), hj 2 (by decide), hj 3 (by decide), hj 4 (by decide), hj 5 (by decide), hj 6 (by decide), atb, capb, hj 7 (by decide), hbs⟩
theorem sum_mem {α : Type} (f : α → Nat) {l : List α} {a : α} (h : a ∈ l) : f a ≤ (l.map f).sum := by
  induction l with
  | nil => cases h
  | cons x l ih =>
    rw [List.map_cons, List.sum_cons]
    rcases List.mem_cons.1 h with rfl | h
    · omega
    · have := ih h; omega
/-- A layout. -/
theorem rd_ly {fuel : Nat} {cs : List Value} {x : DataW H × List MemPlace} (h : DataW.trod enc Tryz.prog w base spare held fuel 24 cs = some x) (hx : Rows.uptoBulk x.1 ≤ 1048576) :
    ∃ (b0 : Int) (at0 : Option Addr) (ls : List Ln) (cap : Nat), cs = [.int .i64 b0, .slice at0 ls.length cap] ∧ R64 b0 ∧ LsAt w at0 ls ∧ (∀ L ∈ ls, L.sane) ∧ (∀ L ∈ ls, cnt L.bs L.bs.length ≤ 1048576) ∧ ls.length ≤ 1048576 := by
  obtain ⟨xs, n, _, rfl, hl, hxn, hg⟩ := DataW.trod_struct Tryz.underlying24 h
  rw [cells24] at hl
  obtain ⟨c0, c1, rfl⟩ := len2 hl
  obtain ⟨y0, y1, rfl⟩ := len2 (hxn.trans rfl)
  obtain ⟨n0, rfl, r0, rfl⟩ := rd_int (field_at hg (i := 0) rfl rfl cells3 rfl rfl)
  obtain ⟨at0, ls, cap, rfl, hb, hls, hok⟩ := rd_ls (field_at hg (i := 1) rfl rfl cells22 rfl rfl)
  simp only [List.map_cons, List.map_nil, Rows.uptoBulk, Rows.uptoBulkAll] at hx
  refine ⟨n0, at0, ls, cap, rfl, r0, hls, hok, fun L hL => ?_, ?_⟩
  · have := sum_mem (fun L : Ln => 1 + cnt L.bs L.bs.length) hL
    omega
  · rw [sum_plus] at hb
    omega
end
end Go.Proofs.YtdicpkjblflgbaaGreatDoor
