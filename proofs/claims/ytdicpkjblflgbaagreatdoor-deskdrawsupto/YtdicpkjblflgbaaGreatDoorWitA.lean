/-
  The row's witness: a world whose nine listed variables hold what their initialisers lay. Conditions: those that each statement below names, and no other.
-/
import Derived.Lay
import Derived.Lib.LaidCaseMet
import Derived.PinnedBridge
import Derived.Test.YtdicpkjblflgbaaGreatDoorProg
import Derived.Test.YtdicpkjblflgbaaGreatDoorFctE
import Derived.Test.YtdicpkjblflgbaaGreatDoorRows
set_option linter.all false

/-
  The witness: unicode.CaseRanges reads as its datum where its cell holds a slice over the table's cells.
-/
namespace Go.Proofs.YtdicpkjblflgbaaGreatDoor
open Go Go.Lib

theorem cs709 : Tryz.prog.cellsOf 709 = 5 := by kernel_rfl
theorem cs707 : Tryz.prog.cellsOf 707 = 3 := by kernel_rfl
theorem cs170 : Tryz.prog.cellsOf 170 = 1 := by kernel_rfl
theorem ci21 : Tryz.prog.cellsOf 21 = 1 := by kernel_rfl
theorem nCase : Tryz.prog.globalNamed "unicode.CaseRanges" = some 9 := by kernel_rfl
theorem tCase : (Tryz.prog.globals[9]?).map (·.type) = some 523 := by kernel_rfl

theorem row_reads {H : Type} {enc : TypeId × Value → H} {w : World} {base : Nat} {sp : Nat → Bool} {held : Bool} (x : CaseRow) (hw : rowWf x = true) (fuel : Nat) :
    DataW.trod enc Tryz.prog w base sp held (fuel + 3) 709 (cells5 x) = some (rowData x, []) := by
  simp only [rowWf, Bool.and_eq_true] at hw
  obtain ⟨⟨⟨⟨w0, w1⟩, w2⟩, w3⟩, w4⟩ := hw
  have r3 : List.range 3 = [0, 1, 2] := rfl
  simp [DataW.trod, Tryz.underlying709, Tryz.underlying170, Tryz.underlying21, Tryz.underlying707, cs709, cs170, ci21, cs707, cells5, rowData, w0, w1, w2, w3, w4, r3]

set_option maxRecDepth 1000000 in
theorem slice_reads {w : World} {R oR : Nat} {T : Array CaseRow} (hT : CaseTab R oR T w) (hwf : ∀ i, i < T.size → rowWf (T.getD i (0, 0, 0, 0, 0)) = true) (hn : T.size ≤ maxLen) (fuel : Nat) :
    DataW.trod (fun _ => ()) Tryz.prog w 0 (fun _ => true) false (fuel + 4) 523 [.slice (some ⟨R, oR, none⟩) T.size T.size] =
      some (.slice ((List.range T.size).map fun i => rowData (T.getD i (0, 0, 0, 0, 0))) [], MemPlace.row ⟨R, oR, none⟩ (T.size * 5)) := by
  have helem : ∀ i ∈ List.range T.size, (w.cells? 0 ((⟨R, oR, none⟩ : Addr).add (i * 5)) 5).bind (DataW.trod (fun _ => ()) Tryz.prog w 0 (fun _ => true) false (fuel + 3) 709) = some ((fun i => ((rowData (T.getD i (0, 0, 0, 0, 0)) : DataW Unit), ([] : List MemPlace))) i) := by
    intro i hi
    have hi' := List.mem_range.1 hi
    rw [case_cells5 hT i hi']
    exact row_reads _ (hwf i hi') fuel
  show DataW.trod _ _ _ _ _ _ ((fuel + 3) + 1) _ _ = _
  unfold DataW.trod
  simp only [Tryz.underlying523, cs709]
  rw [if_pos ⟨Nat.zero_le _, Nat.le_refl _, hn⟩, Lib.mapM_some _ _ _ helem]
  simp [Function.comp_def]

set_option maxRecDepth 1000000 in
theorem laidIn_case {w : World} {R : Nat} {te : TypeId}
    (hvar : w.heap[9]? = some (.cells #[.slice (some ⟨R, 0, none⟩) caseA.size caseA.size] 523 (0, 0))) (hblk : w.heap[R]? = some (.cells caseCells5 te (0, 0))) (hap : [9, R].Nodup) :
    LaidIn Tryz.prog w [("unicode.CaseRanges", caseData)] [9, R] := by
  have hT := caseTab_of_block hblk
  have hread := slice_reads hT caseA_wf (by rw [caseA_size]; unfold maxLen; omega) 0
  rw [case_rows_data] at hread
  have hv : w.var? Tryz.prog "unicode.CaseRanges" = some #[.slice (some ⟨R, 0, none⟩) caseA.size caseA.size] := by simp [World.var?, nCase, hvar]
  have hshape : MemPlace.row ⟨9, 0, none⟩ (#[Value.slice (some ⟨R, 0, none⟩) caseA.size caseA.size] : Array Value).size ++ MemPlace.row ⟨R, 0, none⟩ (caseA.size * 5) =
      ([((⟨9, 0, none⟩ : Addr), 1), (⟨R, 0, none⟩, caseA.size * 5)] : List (Addr × Nat)).flatMap (fun r => MemPlace.row r.1 r.2) := by simp
  refine LaidIn.one _ nCase tCase hv hread ?_ ?_ ?_
  · rw [hshape]
    exact rows_nodup _ hap
  · rw [hshape]
    intro b off hp
    simp only [List.flatMap_cons, List.flatMap_nil, List.append_nil, List.mem_append] at hp
    rcases hp with hp | hp
    · obtain ⟨i, hi, e'⟩ := MemPlace.mem_row.1 hp
      cases e'
      refine ⟨⟨_, _, hvar⟩, fun u v hc' => ?_⟩
      obtain rfl : i = 0 := by omega
      rw [cell_of_heap hvar] at hc'
      simp at hc'
    · obtain ⟨i, hi, e'⟩ := MemPlace.mem_row.1 hp
      cases e'
      refine ⟨⟨_, _, hblk⟩, fun u v hc => ?_⟩
      obtain ⟨c0, c1, c2, c3, c4⟩ := hT (i / 5) (by omega)
      have hi5 : 0 + i = 0 + i / 5 * 5 + i % 5 := by omega
      simp only at hc
      rw [hi5] at hc
      have hm : i % 5 < 5 := Nat.mod_lt _ (by omega)
      match hk : i % 5, hm with
      | 0, _ => rw [hk, Nat.add_zero, c0] at hc; cases hc
      | 1, _ => rw [hk, c1] at hc; cases hc
      | 2, _ => rw [hk, c2] at hc; cases hc
      | 3, _ => rw [hk, c3] at hc; cases hc
      | 4, _ => rw [hk, c4] at hc; cases hc
  · rw [hshape]
    exact rows_block _
end Go.Proofs.YtdicpkjblflgbaaGreatDoor

/-
  The witness: a world whose nine listed variables hold what their initialisers lay.
-/
namespace Go.Proofs.YtdicpkjblflgbaaGreatDoor
open Go Go.Lib

/-- The start of a program without a function: no variable waits there either. -/
noncomputable def bareP : Program := { Tryz.prog with funcs := #[] }
theorem begin_world_of {P Q : Program} (ht : P.toTables = Q.toTables) (hw : waiting P = waiting Q) (tape : Nat → Question → Nat) (os : Os) : (begin P tape os).world = (begin Q tape os).world := by
  obtain ⟨T, F⟩ := P
  obtain ⟨T', F'⟩ := Q
  cases ht
  unfold begin
  rw [hw]
  rfl
theorem waiting_bare : waiting bareP = Array.replicate Tryz.prog.globals.size false := by kernel_rfl
theorem tables_bare : Tryz.prog.toTables = bareP.toTables := by kernel_rfl
theorem begin_world (tape : Nat → Question → Nat) (os : Os) : (begin Tryz.prog tape os).world = (begin bareP tape os).world := begin_world_of tables_bare (waiting_is.trans waiting_bare.symm) tape os
theorem settled_eq (os : Os) : World.settled Tryz.prog os = World.settled bareP os := by
  unfold World.settled
  rw [begin_world]

noncomputable abbrev nBlocks : Nat := (World.settled bareP default).heap.size
/-- The start: three blocks more, of CaseRanges' rows and of the two errors' structs; the variables' cells lead to them. -/
noncomputable def startWorld (os : Os) : World :=
  let w := World.holding bareP os ⟨#[.cells caseCells5 709, .cells #[.string ⟨#[105, 110, 118, 97, 108, 105, 100, 32, 115, 121, 110, 116, 97, 120]⟩] 589, .cells #[.string ⟨#[118, 97, 108, 117, 101, 32, 111, 117, 116, 32, 111, 102, 32, 114, 97, 110, 103, 101]⟩] 589], #[], []⟩
  let put (h : Array Obj) (g : Nat) (cs : Array Value) : Array Obj := h.modify g fun
    | .cells _ t frozen => .cells cs t frozen
    | o => o
  { w with heap := put (put (put w.heap 9 #[.slice (some ⟨nBlocks, 0, none⟩) 336 336]) 7 #[.iface 587 (.pointer (some ⟨nBlocks + 1, 0, none⟩))]) 8 #[.iface 587 (.pointer (some ⟨nBlocks + 2, 0, none⟩))] }
/-- The six others. -/
def sixNames : List String := ["internal/strconv.uint64pow10", "math/bits.deBruijn32tab", "math/bits.deBruijn64tab", "unicode/utf8.first", "unicode/utf8.acceptRanges", "typecase/props.lasts"]
noncomputable def sixOnes : List (String × DataW Unit) := [("internal/strconv.uint64pow10", Rows.laid_internal_strconv_uint64pow10), ("math/bits.deBruijn32tab", Rows.laid_math_bits_deBruijn32tab), ("math/bits.deBruijn64tab", Rows.laid_math_bits_deBruijn64tab), ("unicode/utf8.first", Rows.laid_unicode_utf8_first), ("unicode/utf8.acceptRanges", Rows.laid_unicode_utf8_acceptRanges), ("typecase/props.lasts", Rows.laid_typecase_props_lasts)]
noncomputable def errOnes : List (String × DataW Unit) := [("strconv.ErrSyntax", Rows.laid_strconv_ErrSyntax), ("strconv.ErrRange", Rows.laid_strconv_ErrRange)]
theorem six_are : Rows.deskDrawsUptoRow.laid.filter (fun x => sixNames.contains x.1) = sixOnes := by kernel_rfl
theorem rest_are : Rows.deskDrawsUptoRow.laid.filter (fun x => !sixNames.contains x.1) = errOnes ++ [("unicode.CaseRanges", Go.Pinned.caseRanges)] := by kernel_rfl
noncomputable def laidWorld (os : Os) : World := (startWorld os).layVars Tryz.prog sixOnes
theorem laidWorld_os (os : Os) : (laidWorld os).os = os := World.layVars_os _ _ _
abbrev argV : Value := .agg #[.int .i64 0, .slice none 0 0]
noncomputable abbrev callW (os : Os) : World := (laidWorld os).forCall (fun _ _ => 0) ⟨#[], #[argV], []⟩
noncomputable abbrev restBlocks : List Nat := [7, 8, nBlocks + 1, nBlocks + 2] ++ [9, nBlocks]

theorem six_fit (os : Os) : (startWorld os).layFits Tryz.prog sixOnes restBlocks = true := by kernel_rfl
theorem six_ifaces (os : Os) : (startWorld os).layIfaces Tryz.prog sixOnes (callW os).memory = true := by kernel_rfl
theorem case_var (os : Os) : (callW os).memory.heap[9]? = some (.cells #[.slice (some ⟨nBlocks, 0, none⟩) caseA.size caseA.size] 523 (0, 0)) := by kernel_rfl
theorem case_blk (os : Os) : (callW os).memory.heap[nBlocks]? = some (.cells caseCells5 709 (0, 0)) := by kernel_rfl
theorem errs_in (os : Os) : LaidIn Tryz.prog (callW os).memory errOnes [7, 8, nBlocks + 1, nBlocks + 2] := LaidIn.of_run [7, 8, nBlocks + 1, nBlocks + 2] 8 (by kernel_rfl) (by kernel_rfl) (by kernel_rfl) (by kernel_rfl)
theorem zipB (os : Os) : (callW os).variablesZipB Tryz.prog = true := by
  unfold World.variablesZipB
  rw [begin_world]
  kernel_rfl
theorem restB (os : Os) : ((callW os).heap.toList.drop Tryz.prog.globals.size).take ((begin Tryz.prog (fun _ _ => 0) default).world.heap.size - Tryz.prog.globals.size) = (begin Tryz.prog (fun _ _ => 0) default).world.heap.toList.drop Tryz.prog.globals.size := by
  rw [begin_world]
  kernel_rfl
theorem okB (os : Os) : Input.okWideB Tryz.prog (callW os) 3 ⟨#[], #[argV], []⟩ = true := by kernel_rfl
theorem apart9 : [9, nBlocks].Nodup := of_decide_eq_true (by kernel_rfl)
theorem apartR : ([7, 8, nBlocks + 1, nBlocks + 2].all fun b => !([9, nBlocks].contains b)) = true := by kernel_rfl
theorem reads_arg (os : Os) {H : Type} (enc : TypeId × Value → H) : ∃ places, DataW.whole enc Tryz.prog (callW os).memory Tryz.f3.params.toList Rows.deskDrawsSpec.vars false #[argV].toList 8 = some ([.agg [.lit (.int .i64 0), .nil]], [], places) := ⟨[], by kernel_rfl⟩
theorem laid_met (os : Os) : laidMet Tryz.prog Rows.deskDrawsUptoRow.laid (callW os).memory := by
  refine laidMet_layVars (w0 := startWorld os) sixNames restBlocks ?_ ?_ ?_ ?_
  · rw [six_are]
    simp [World.memory, World.forCall, Input.heap, laidWorld]
  · rw [six_are]
    exact six_fit os
  · rw [six_are]
    exact six_ifaces os
  · rw [rest_are, Go.Pinned.caseRanges_eq]
    exact (errs_in os).append (laidIn_case (case_var os) (case_blk os) apart9) apartR
end Go.Proofs.YtdicpkjblflgbaaGreatDoor
