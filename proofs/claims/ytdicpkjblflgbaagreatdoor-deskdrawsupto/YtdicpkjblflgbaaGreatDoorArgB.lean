/-
  What the row gives of the world; what reads, reads on behind a call that only adds memory. Conditions: those that each statement below names, and no other.
-/
import Derived.Test.YtdicpkjblflgbaaGreatDoorArgA
import Derived.Lib.LaidTab
import Derived.Deep.DeepHandedRow
import Derived.Shelf.Vars
set_option linter.all false

/-
  What the row gives of the world.
-/
namespace Go.Proofs.YtdicpkjblflgbaaGreatDoor
open Go Go.RowKit Go.ChangeShapes Go.WideShapes Go.Deep

def VarReads (P : Program) (w : World) (n : String) (d : DataW Unit) : Prop :=
  ∃ g t cs fuel p, P.globalNamed n = some g ∧ (P.globals[g]?).map (·.type) = some t ∧ w.var? P n = some cs ∧ DataW.trod (fun _ => ()) P w 0 (fun _ => true) false fuel t cs.toList = some (d, p)
theorem laidVars_reads {P : Program} {w : World} : ∀ {l : List (String × DataW Unit)} {ps : List MemPlace}, DataW.LaidVars P w l ps → ∀ n d, (n, d) ∈ l → VarReads P w n d
  | [], _, _, _, _, hm => by cases hm
  | (n', d') :: r, ps, h, n, d, hm => by
    obtain ⟨g, t, cs, fuel, p, q, h1, h2, h3, h4, h5, _⟩ := h
    rcases List.mem_cons.1 hm with e | e
    · cases e
      exact ⟨g, t, cs, fuel, p, h1, h2, h3, h4⟩
    · exact laidVars_reads h5 n d e

theorem block_of {P : Program} {W : World} {name : String} {k : IntKind} {zs : List Int} {g : Nat} {t e : TypeId} {n : Nat}
    (hg : P.globalNamed name = some g) (hty : (P.globals[g]?).map (·.type) = some t) (ht : P.underlying t = some (.array n e)) (he : P.underlying e = some (.int k)) (hce : P.cellsOf e = 1) (hct : P.cellsOf t = n)
    (h : VarReads P W name (Lib.tabData k zs)) : ∃ el fz, W.heap[g]? = some (.cells (zs.map (Value.int k)).toArray el fz) := by
  obtain ⟨g', t', cs, fuel, p, hg', ht', hvar, hd⟩ := h
  obtain rfl := Option.some.inj (hg.symm.trans hg')
  obtain rfl := Option.some.inj (hty.symm.trans ht')
  have hcs := Lib.cells_of_tab ht he hce hct hd
  unfold World.var? at hvar
  rw [hg] at hvar
  simp only [Option.bind_some] at hvar
  split at hvar
  · rename_i cs' el fz hb
    cases hvar
    refine ⟨el, fz, ?_⟩
    rw [hb]
    have : cs = (zs.map (Value.int k)).toArray := by
      apply Array.toList_inj.1
      rw [hcs]
    rw [this]
  · cases hvar

theorem g6 : Tryz.prog.globalNamed "typecase/props.lasts" = some 6 := by kernel_rfl
theorem gt3 : (Tryz.prog.globals[3]?).map (·.type) = some 169 := by kernel_rfl
theorem gt6 : (Tryz.prog.globals[6]?).map (·.type) = some 476 := by kernel_rfl
theorem ua169 : Tryz.prog.underlying 169 = some (.array 20 79) := by kernel_rfl
theorem ua476 : Tryz.prog.underlying 476 = some (.array 13 21) := by kernel_rfl
theorem ui79 : Tryz.prog.underlying 79 = some (.int .u64) := by kernel_rfl
theorem ui21 : Tryz.prog.underlying 21 = some (.int .i32) := by kernel_rfl
theorem cs79 : Tryz.prog.cellsOf 79 = 1 := by kernel_rfl
theorem cs21 : Tryz.prog.cellsOf 21 = 1 := by kernel_rfl
theorem cs169 : Tryz.prog.cellsOf 169 = 20 := by kernel_rfl
theorem cs476 : Tryz.prog.cellsOf 476 = 13 := by kernel_rfl

theorem laid_of {W : World} (h : laidMetH Tryz.prog Rows.deskDrawsUptoRow.laid W) : ∃ e3 e6, Laid e3 e6 W := by
  have h' : laidMet Tryz.prog Rows.deskDrawsUptoRow.laid W := h
  obtain ⟨ps, hv, _⟩ := h'
  obtain ⟨e3, f3, h3⟩ := block_of g3 gt3 ua169 ui79 cs79 cs169 (k := .u64) (zs := l3) (laidVars_reads hv "internal/strconv.uint64pow10" _ (.head _))
  obtain ⟨e6, f6, h6⟩ := block_of g6 gt6 ua476 ui21 cs21 cs476 (k := .i32) (zs := l6) (laidVars_reads hv "typecase/props.lasts" _ (.tail _ (.tail _ (.tail _ (.tail _ (.tail _ (.tail _ (.tail _ (.tail _ (.head _))))))))))
  exact ⟨e3, e6, ⟨f3, h3⟩, ⟨f6, h6⟩⟩

theorem ml_of {W : World} (h : W.ShapedOpen Tryz.prog) : ∃ m, W.cell? ⟨0, 0, none⟩ = some (.int .i64 m) :=
  cell_of_shapedOpen_int (g := 0) (t := 3) (zero := #[.int .i64 0]) h (by decide +kernel) (by kernel_rfl) rfl (by kernel_rfl) (by kernel_rfl) Tryz.underlying3
end Go.Proofs.YtdicpkjblflgbaaGreatDoor

/-
  What reads, reads behind a call that only adds memory.
-/
namespace Go.Proofs.YtdicpkjblflgbaaGreatDoor
open Go Go.RowKit Go.ChangeShapes Go.WideShapes Go.Deep

section
variable {H : Type} {enc : TypeId × Value → H} {P : Program} {W W' : World} {sp : Nat → Bool}

def Stays (enc : TypeId × Value → H) (P : Program) (W W' : World) (sp : Nat → Bool) (t : TypeId) : Prop :=
  ∀ (fuel : Nat) (cs : List Value) (x : DataW H × List MemPlace), DataW.trod enc P W 0 (fun _ => true) true fuel t cs = some x → (∀ p ∈ x.2, sp p.block = true) → DataW.trod enc P W' 0 sp true fuel t cs = some x

theorem fuel_pos {t : TypeId} {fuel : Nat} {cs : List Value} {x : DataW H × List MemPlace} {w : World} {b : Nat} {s : Nat → Bool} {hd : Bool} (h : DataW.trod enc P w b s hd fuel t cs = some x) : ∃ n, fuel = n + 1 := by
  cases fuel with
  | zero => simp [DataW.trod] at h
  | succ n => exact ⟨n, rfl⟩
theorem stays_int {t : TypeId} {k : IntKind} (ht : P.underlying t = some (.int k)) : Stays enc P W W' sp t := by
  intro fuel cs x h _
  obtain ⟨n, rfl⟩ := fuel_pos h
  obtain ⟨m, rfl, rfl, hw⟩ := DataW.trod_int ht h
  exact trod_int_mk n ht hw
theorem stays_bool {t : TypeId} (ht : P.underlying t = some .bool) : Stays enc P W W' sp t := by
  intro fuel cs x h _
  obtain ⟨n, rfl⟩ := fuel_pos h
  obtain ⟨b, rfl, rfl⟩ := DataW.trod_bool ht h
  simp [DataW.trod, ht]

theorem mapM_keeps {α β : Type} {f g : α → Option β} : ∀ {l : List α} {r : List β}, l.mapM f = some r → (∀ a ∈ l, ∀ y, f a = some y → y ∈ r → g a = some y) → l.mapM g = some r
  | [], r, h, _ => h
  | a :: l, r, h, hs => by
    simp only [List.mapM_cons, Option.bind_eq_bind, Option.bind_eq_some_iff, Option.pure_def, Option.some.injEq] at h ⊢
    obtain ⟨y, hy, r', hr', rfl⟩ := h
    exact ⟨y, hs a (.head _) y hy (.head _), r', mapM_keeps hr' (fun a ha y hy hm => hs a (.tail _ ha) y hy (.tail _ hm)), rfl⟩

theorem stays_struct {t : TypeId} {fs : Array Field} (ht : P.underlying t = some (.struct fs)) (hf : ∀ f ∈ fs.toList, Stays enc P W W' sp f.type) : Stays enc P W W' sp t := by
  intro fuel cs x h hp
  obtain ⟨n, rfl⟩ := fuel_pos h
  simp only [DataW.trod, ht] at h ⊢
  split at h
  · rename_i hl
    rw [if_pos hl]
    rw [Option.map_eq_some_iff] at h ⊢
    obtain ⟨xs, hx, rfl⟩ := h
    exact ⟨xs, mapM_keeps hx (fun f hm y hy hmem => hf f hm n _ y hy fun p hq => hp p (List.mem_flatMap.2 ⟨y, hmem, hq⟩)), rfl⟩
  · cases h

theorem cells_stays (hB : Below W.heap.size W W') {a : Addr} {n : Nat} {cs : List Value} (h : W.cells? 0 a n = some cs) : W'.cells? 0 a n = some cs := by
  unfold World.cells? at h ⊢
  split at h
  · rename_i hb
    rw [if_pos hb]
    exact mapM_keeps h fun i _ y hy _ => cell_below hB hy
  · cases h

theorem stays_slice {t e : TypeId} (ht : P.underlying t = some (.slice e)) (hC : 0 < P.cellsOf e) (hB : Below W.heap.size W W') (he : Stays enc P W W' sp e) : Stays enc P W W' sp t := by
  intro fuel cs x h hp
  obtain ⟨n, rfl⟩ := fuel_pos h
  rcases DataW.trod_slice ht h with ⟨rfl, rfl⟩ | ⟨a, len, cap, _, _, _, _, rfl, _⟩
  · simp [DataW.trod, ht]
  · simp only [DataW.trod, ht] at h ⊢
    split at h
    · rename_i hc
      rw [if_pos hc]
      simp only [if_true, Option.bind_eq_some_iff, Option.map_eq_some_iff] at h ⊢
      obtain ⟨elems, h1, rest, h2, rfl⟩ := h
      have one : ∀ i y, (∀ p ∈ y.2, sp p.block = true) → (W.cells? 0 (a.add (i * P.cellsOf e)) (P.cellsOf e)).bind (DataW.trod enc P W 0 (fun _ => true) true n e) = some y →
          (W'.cells? 0 (a.add (i * P.cellsOf e)) (P.cellsOf e)).bind (DataW.trod enc P W' 0 sp true n e) = some y := by
        intro i y hy hr
        rw [Option.bind_eq_some_iff] at hr ⊢
        obtain ⟨c, hc1, hc2⟩ := hr
        exact ⟨c, cells_stays hB hc1, he n c y hc2 hy⟩
      have hpl : ∀ y ∈ elems ++ rest, ∀ p ∈ y.2, sp p.block = true := fun y hy p hq => hp p (List.mem_append_right _ (List.mem_flatMap.2 ⟨y, hy, hq⟩))
      refine ⟨elems, mapM_keeps h1 fun i _ y hy hm => one i y (hpl y (List.mem_append_left _ hm)) hy, rest, ?_, rfl⟩
      have h2' := mapM_keeps (g := fun j => (W'.cells? 0 (a.add ((len + j) * P.cellsOf e)) (P.cellsOf e)).bind (DataW.trod enc P W' 0 sp true n e)) h2 fun j _ y hy hm => one (len + j) y (hpl y (List.mem_append_right _ hm)) hy
      by_cases hs : sp a.block = true
      · rw [if_pos hs]; exact h2'
      · rw [if_neg hs]
        have hrl := mapM_some_length h2
        cases rest with
        | nil => rfl
        | cons r0 rs =>
          exfalso
          exact hs (hp (.cell a.block (a.off + 0)) (List.mem_append_left _ (List.mem_map.2 ⟨0, List.mem_range.2 (Nat.mul_pos (by rw [List.length_cons]; omega) hC), rfl⟩)))
    · cases h
theorem stays24 (hB : Below W.heap.size W W') : Stays enc Tryz.prog W W' sp 24 := by
  have i3 : Stays enc Tryz.prog W W' sp 3 := stays_int Tryz.underlying3
  have b4 : Stays enc Tryz.prog W W' sp 4 := stays_bool Tryz.underlying4
  have s43 : Stays enc Tryz.prog W W' sp 43 := stays_struct Tryz.underlying43 fun f hf => by
    simp only [List.mem_cons, List.not_mem_nil, or_false] at hf
    rcases hf with rfl | rfl | rfl | rfl <;> exact i3
  have s29 : Stays enc Tryz.prog W W' sp 29 := stays_slice Tryz.underlying29 (by rw [cells43]; decide) hB s43
  have s31 : Stays enc Tryz.prog W W' sp 31 := stays_struct Tryz.underlying31 fun f hf => by
    simp only [List.mem_cons, List.not_mem_nil, or_false] at hf
    rcases hf with rfl | rfl | rfl | rfl | rfl | rfl <;> first | exact i3 | exact s29
  have s26 : Stays enc Tryz.prog W W' sp 26 := stays_slice Tryz.underlying26 (by rw [cells31]; decide) hB s31
  have s28 : Stays enc Tryz.prog W W' sp 28 := stays_struct Tryz.underlying28 fun f hf => by
    simp only [List.mem_cons, List.not_mem_nil, or_false] at hf
    rcases hf with rfl | rfl | rfl | rfl | rfl | rfl | rfl | rfl <;> first | exact i3 | exact b4 | exact s26
  have s22 : Stays enc Tryz.prog W W' sp 22 := stays_slice Tryz.underlying22 (by rw [cells28]; decide) hB s28
  exact stays_struct Tryz.underlying24 fun f hf => by
    simp only [List.mem_cons, List.not_mem_nil, or_false] at hf
    rcases hf with rfl | rfl <;> first | exact i3 | exact s22
end
end Go.Proofs.YtdicpkjblflgbaaGreatDoor
