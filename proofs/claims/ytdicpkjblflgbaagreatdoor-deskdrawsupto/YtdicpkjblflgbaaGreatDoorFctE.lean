/-
  The reach of the law's function; that it starts no goroutine; that no variable waits; the row's forced cells are as the form reckons them. Conditions: those that each statement below names, and no other.
-/
import Derived.Test.YtdicpkjblflgbaaGreatDoorFctB
import Derived.Test.YtdicpkjblflgbaaGreatDoorFctC
import GoSem.ClaimGoes
import Derived.Test.YtdicpkjblflgbaaGreatDoorFctD
import Derived.Test.YtdicpkjblflgbaaGreatDoorRows
import Derived.JoinedCond
set_option linter.all false

/-
  The reach of the law's function, and what the row asks of it.
-/
namespace Go.Proofs.YtdicpkjblflgbaaGreatDoor
open Go

theorem map_rows {α β : Type} {F : β → α} : ∀ (rows : List (List α)) (l : List β), (∀ k, k < rows.length → ((l.drop (100 * k)).take 100).map F = (rows[k]?).getD []) → l.length ≤ 100 * rows.length → l.map F = rows.flatten
  | [], l, _, hl => by
    have : l = [] := List.eq_nil_of_length_eq_zero (by simpa using hl)
    subst this
    rfl
  | r :: rs, l, h, hl => by
    have h0 : (l.take 100).map F = r := by simpa using h 0 (by simp)
    have ih := map_rows rs (l.drop 100) (fun k hk => by
      have := h (k + 1) (by simpa using hk)
      rw [List.drop_drop, show 100 + 100 * k = 100 * (k + 1) by omega]
      simpa using this) (by simp only [List.length_drop, List.length_cons] at hl ⊢; omega)
    rw [List.flatten_cons, ← h0, ← ih, ← List.map_append, List.take_append_drop]

noncomputable abbrev prg : Program := Tryz.prog
def leadsRows : List (List (List Nat × Option String × List Nat × Option String)) := [leadsRow0, leadsRow1, leadsRow2, leadsRow3, leadsRow4, leadsRow5, leadsRow6, leadsRow7, leadsRow8]
abbrev noRow : List Nat × Option String × List Nat × Option String := ([], none, [], none)
theorem leadsRows_are (k : Nat) (hk : k < leadsRows.length) : ((Tryz.prog.funcs.toList.drop (100 * k)).take 100).map rowF = (leadsRows[k]?).getD [] := by
  match k, hk with
  | 0, _ => exact leadsRow0_is
  | 1, _ => exact leadsRow1_is
  | 2, _ => exact leadsRow2_is
  | 3, _ => exact leadsRow3_is
  | 4, _ => exact leadsRow4_is
  | 5, _ => exact leadsRow5_is
  | 6, _ => exact leadsRow6_is
  | 7, _ => exact leadsRow7_is
  | 8, _ => exact leadsRow8_is
theorem funcs_le : Tryz.prog.funcs.toList.length ≤ 100 * leadsRows.length := by rw [funcs_len]; decide
def leadsOf (f : Nat) : List Nat := (atRow noRow leadsRows f).1
theorem row_of (f : Nat) : ((Tryz.prog.funcs[f]?).map rowF).getD noRow = atRow noRow leadsRows f := by
  have := at_row (d := noRow) leadsRows_are funcs_le f
  rw [Array.getElem?_toList] at this
  exact this
theorem leads_of (f : Nat) : (Tryz.prog.funcs[f]?).elim [] Tryz.prog.leadsTo = leadsOf f := by
  unfold leadsOf
  rw [← row_of]
  cases Tryz.prog.funcs[f]? <;> rfl
theorem inPlace_of (f : Nat) : ((Tryz.prog.funcs[f]?).bind fun fn => if fn.ours || fn.body.isNone || fn.name == "runtime.NumGoroutine" then some fn.name else none) = (atRow noRow leadsRows f).2.1 := by
  rw [← row_of]
  cases Tryz.prog.funcs[f]? <;> rfl
theorem globals_of (f : Nat) : (((Tryz.prog.funcs[f]?).bind (·.body)).elim [] Code.globalsNamed) = (atRow noRow leadsRows f).2.2.1 := by
  rw [← row_of]
  cases Tryz.prog.funcs[f]? <;> rfl
theorem reads_of (f : Nat) : ((Tryz.prog.funcs[f]?).bind fun fn => if fn.body.isNone then entryReads.lookup fn.name else none) = (atRow noRow leadsRows f).2.2.2 := by
  rw [← row_of]
  cases Tryz.prog.funcs[f]? <;> rfl

def reach3 : List Nat := [3, 4, 9, 10, 17, 25, 26, 27, 41, 62, 94, 63, 64, 65, 95, 18, 28, 20, 30, 15, 24, 40, 58, 59, 90, 89, 91, 60, 61, 92, 93, 137, 138, 31, 43, 66, 38, 56, 32, 44, 67, 77, 107, 162, 224, 203, 276, 277, 163, 225, 302, 226, 227, 303, 228, 108, 164, 229, 96, 139, 23, 29, 42, 39, 57, 19, 182, 21, 201, 272, 273, 181, 254, 274, 202, 275, 336, 434, 435, 140, 123, 179, 253, 314, 180, 97, 141, 204, 279, 346, 278, 337, 343, 441, 338, 436, 339, 437, 438, 340, 439, 440, 540, 341, 342, 344, 345, 68, 49, 69, 70, 71, 72, 45, 46, 33, 47, 73, 98, 142, 149, 210, 205, 280, 347, 348, 349, 281, 350, 351, 282, 352, 353, 442, 443, 444, 445, 541, 446, 447, 448, 542, 449, 450, 283, 124, 120, 121, 143, 145, 206, 284, 354, 356, 357, 452, 451, 355, 359, 358, 361, 363, 366, 475, 454, 456, 455, 453, 458, 457, 460, 459, 462, 461, 464, 465, 466, 463, 468, 467, 470, 472, 474, 473, 471, 469, 362, 360, 365, 364, 207, 144, 208, 125, 146, 74, 99, 147, 209, 148, 150, 151, 211, 285, 286, 111, 100, 101, 85, 116, 117, 167, 168, 169, 170, 171, 172, 173, 174, 177, 252, 239, 240, 241, 242, 243, 244, 245, 246, 247, 248, 249, 250, 251, 175, 176, 118, 119, 104, 155, 215, 156, 216, 300, 394, 519, 520, 395, 521, 396, 397, 398, 399, 400, 401, 402, 403, 404, 405, 406, 217, 103, 153, 213, 154, 110, 214, 299, 298, 393, 102, 152, 212, 287, 367, 312, 165, 230, 304, 305, 410, 411, 412, 231, 306, 288, 369, 370, 482, 553, 484, 554, 371, 483, 485, 374, 486, 487, 555, 489, 488, 490, 372, 491, 492, 493, 495, 494, 373, 496, 556, 614, 615, 557, 559, 558, 560, 497, 527, 589, 590, 632, 663, 664, 684, 665, 666, 685, 686, 699, 667, 668, 669, 670, 591, 561, 616, 617, 562, 498, 563, 564, 565, 566, 499, 419, 422, 530, 105, 157, 218, 219, 220, 221, 222, 528, 421, 407, 420, 529, 592, 593, 633, 594, 510, 423, 368, 481, 551, 552, 476, 543, 598, 635, 671, 544, 599, 600, 601, 602, 636, 603, 637, 638, 477, 545, 604, 547, 606, 607, 639, 640, 608, 609, 641, 524, 642, 546, 605, 548, 478, 479, 549, 610, 611, 643, 644, 645, 672, 673, 687, 647, 676, 677, 689, 646, 674, 675, 501, 688, 700, 701, 702, 716, 625, 717, 728, 712, 722, 738, 755, 743, 739, 756, 757, 762, 763, 764, 766, 767, 765, 723, 740, 758, 759, 731, 749, 761, 741, 760, 724, 742, 726, 746, 747, 744, 725, 745, 713, 715, 714, 727, 748, 580, 650, 679, 680, 690, 703, 704, 718, 729, 730, 732, 719, 733, 750, 720, 734, 751, 752, 736, 735, 737, 754, 753, 721, 649, 678, 648, 651, 409, 522, 585, 584, 586, 630, 652, 577, 612, 653, 654, 613, 655, 681, 691, 692, 693, 694, 695, 705, 706, 707, 708, 709, 697, 656, 682, 696, 698, 710, 711, 657, 658, 550, 512, 480, 289, 375, 290, 376, 377, 500, 291, 378, 292, 379, 293, 380, 502, 503, 297, 391, 390, 567, 618, 619, 295, 389, 392, 518, 506, 571, 572, 573, 574, 620, 507, 576, 575, 621, 511, 569, 568, 504, 381, 505, 570, 296, 294, 382, 508, 578, 622, 659, 515, 579, 623, 624, 660, 683, 383, 509, 384, 385, 386, 387, 513, 581, 582, 626, 627, 514, 583, 628, 661, 629, 388, 516, 309, 417, 525, 526, 418, 517, 75, 76, 78, 51, 80, 84, 81, 82, 112, 113, 114, 53, 106, 158, 159, 223, 160, 301, 408, 161, 35, 48, 34, 11, 13, 36, 50, 79, 109, 7, 5, 12, 22, 52, 83, 115, 166, 232, 307, 414, 416, 415, 413, 523, 587, 588, 631, 662, 308, 233, 234, 235, 236, 310, 237, 238, 313, 311, 266, 330, 331, 429, 532, 533, 595, 534, 535, 596, 597, 634, 536, 537, 538, 539, 332, 328, 37, 54, 86, 122, 178, 55, 87, 126, 88, 127, 183, 184, 185, 255, 315, 192, 264, 316, 424, 189, 259, 319, 426, 427, 531, 320, 321, 260, 322, 323, 261, 324, 256, 317, 318, 425, 187, 186, 257, 128, 135, 129, 188, 258, 130, 131, 132, 190, 262, 325, 191, 263, 326, 428, 327, 329, 133, 134, 136, 193, 265, 267, 194, 195, 268, 196, 197, 269, 198, 270, 333, 199, 200, 271, 334, 430, 335, 431, 432, 433, 6, 14, 16, 8]
theorem fuel_of : (Tryz.prog.funcs.toList.map fun g => (Tryz.prog.leadsTo g).length + 1).sum = (leadsRows.flatten.map fun x => x.1.length + 1).sum := by
  rw [← map_rows leadsRows _ leadsRows_are funcs_le, List.map_map]
  rfl
theorem reach3_is : reachT leadsOf (1 + (leadsRows.flatten.map fun x => x.1.length + 1).sum) [3] 0 [] = reach3 := by kernel_rfl
theorem closure3 : Tryz.prog.closure 3 = reach3 := by
  unfold Program.closure
  rw [fuel_of, ← reach3_is]
  exact closureVia_eq leads_of _ _ 0 [] (fun g => by simp)

theorem inPlace3 : Tryz.prog.inPlace 3 = reach3.filterMap fun g => (atRow noRow leadsRows g).2.1 := by
  unfold Program.inPlace
  rw [closure3, funext inPlace_of]
theorem varsNamed3 : Tryz.prog.varsNamed 3 = (((reach3.flatMap fun g => (atRow noRow leadsRows g).2.2.1).eraseDups).filterMap (fun g => (Tryz.prog.globals[g]?).map (·.name)) ++ reach3.filterMap fun g => (atRow noRow leadsRows g).2.2.2).eraseDups := by
  unfold Program.varsNamed
  rw [closure3, funext globals_of, funext reads_of]
theorem body32 : (match Tryz.f32.body with | some c => c.unfollowed | none => entryCalls Tryz.f32) = true := by kernel_rfl
set_option maxRecDepth 100000 in
theorem unfollowed3 : Tryz.prog.unfollowed 3 = true := by
  unfold Program.unfollowed
  rw [closure3, List.any_eq_true]
  exact ⟨32, List.contains_iff_mem.1 (by kernel_rfl), by rw [Tryz.func32]; exact body32⟩
theorem recurses3 : Tryz.prog.recurses 3 = true := by
  unfold Program.recurses
  rw [unfollowed3]
  rfl

theorem okFs : Tryz.prog.funcs.toList.all okF = true := all_rows (n := 9) (fun k hk => by
  match k, hk with
  | 0, _ => exact okRow0
  | 1, _ => exact okRow1
  | 2, _ => exact okRow2
  | 3, _ => exact okRow3
  | 4, _ => exact okRow4
  | 5, _ => exact okRow5
  | 6, _ => exact okRow6
  | 7, _ => exact okRow7
  | 8, _ => exact okRow8) (by rw [funcs_len]; decide)
theorem okF_of {fn : Func} (h : fn ∈ Tryz.prog.funcs.toList) : fn.goes = false ∧ (fn.params.all fun t => decide (t < Tryz.prog.types.size)) = true ∧ ((Stop.rowOf fn).isNone || !fn.norace) = true ∧ (fn.body.map readies).getD [] = [] := by
  have := List.all_eq_true.1 okFs fn h
  unfold okF at this
  simp only [Bool.and_eq_true, Bool.not_eq_true'] at this
  rw [types_len]
  exact ⟨this.1.1.1, this.1.1.2, this.1.2, List.isEmpty_iff.1 this.2⟩
theorem params_in : (Tryz.prog.funcs.all fun f => f.params.all fun t => decide (t < Tryz.prog.types.size)) = true := by
  rw [← Array.all_toList, List.all_eq_true]
  exact fun fn h => (okF_of h).2.1
theorem stopsHeard : Tryz.prog.stopsHeard = true := by
  unfold Program.stopsHeard
  rw [← Array.all_toList, List.all_eq_true]
  exact fun fn h => (okF_of h).2.2.1
/-- No variable waits: no function's body readies one. -/
theorem waiting_is : waiting Tryz.prog = Array.replicate Tryz.prog.globals.size false := by
  unfold waiting
  have : (Tryz.prog.funcs.toList.flatMap fun f => (f.body.map readies).getD []) = [] := List.flatMap_eq_nil_iff.2 fun fn h => (okF_of h).2.2.2
  rw [this]
  rfl
theorem goes3 : Tryz.prog.goes 3 = false := by
  have h : ∀ fn ∈ Tryz.prog.funcs.toList, fn.goes = false := fun fn h => (okF_of h).1
  unfold Program.goes
  rw [Bool.or_eq_false_iff, Bool.and_eq_false_iff, List.any_eq_false]
  refine ⟨fun g _ => ?_, .inr ?_⟩
  · cases hg : Tryz.prog.funcs[g]? with
    | none => simp
    | some fn => simpa using h fn (Array.mem_toList_iff.2 (Array.mem_of_getElem? hg))
  · rw [← Array.any_toList, List.any_eq_false]
    exact fun fn hf => by simpa using h fn hf

set_option maxRecDepth 100000 in
theorem okTs : ∀ t, t < 901 → okT t = true := fun t ht => range_all (n := 1000) (k := 10) rfl (fun j hj => by
  match j, hj with
  | 0, _ => exact typesRow0
  | 1, _ => exact typesRow1
  | 2, _ => exact typesRow2
  | 3, _ => exact typesRow3
  | 4, _ => exact typesRow4
  | 5, _ => exact typesRow5
  | 6, _ => exact typesRow6
  | 7, _ => exact typesRow7
  | 8, _ => exact typesRow8
  | 9, _ => exact typesRow9) t (by omega)
theorem laidOut : laidOutB Tryz.prog = true := by
  unfold laidOutB
  rw [params_in, Bool.and_true, Bool.and_eq_true]
  refine ⟨?_, by kernel_rfl⟩
  rw [types_len, List.all_eq_true]
  intro t ht
  have := okTs t (List.mem_range.1 ht)
  unfold okT at this
  rw [Bool.and_eq_true] at this
  exact this.1
theorem rowedMaps : mapsRowed Tryz.prog = true := by
  unfold mapsRowed
  rw [types_len, List.all_eq_true]
  intro t ht
  have := okTs t (List.mem_range.1 ht)
  unfold okT at this
  rw [Bool.and_eq_true] at this
  have h2 := this.2
  generalize Tryz.prog.underlying t = u at h2 ⊢
  cases u with
  | none => rfl
  | some d => cases d <;> first | rfl | exact h2
end Go.Proofs.YtdicpkjblflgbaaGreatDoor

/-
  The row's forced cells: each as the form reckons it.
-/
namespace Go.Proofs.YtdicpkjblflgbaaGreatDoor
open Go
abbrev C : OpenClaim := Rows.deskDrawsUptoRow
abbrev S : ChangeSpec := (Rows.OpenSpec.upto Rows.deskDrawsSpec).bare
theorem and_t {a b : Bool} (ha : a = true) (hb : b = true) : (a && b) = true := by rw [ha, hb]; rfl
set_option maxRecDepth 1000000 in
theorem joined_a01 : (OpenClaim.wf (OpenSpec.ofChange S) C) = true := by kernel_rfl
set_option maxRecDepth 1000000 in
theorem joined_a02 : (laidOutB Tryz.prog) = true := laidOut
set_option maxRecDepth 1000000 in
theorem joined_a03 : (mapsRowed Tryz.prog) = true := rowedMaps
set_option maxRecDepth 1000000 in
theorem joined_a04 : (Tryz.f3.params.all (Tryz.prog.readableRec ·)) = true := by kernel_rfl
set_option maxRecDepth 1000000 in
theorem joined_a05 : (namedTie Tryz.prog C.named S.vars) = true := by kernel_rfl
set_option maxRecDepth 1000000 in
theorem joined_a06 : ((C.stops == [])) = true := by kernel_rfl
set_option maxRecDepth 1000000 in
theorem joined_a07 : ((Tryz.prog.stops == [])) = true := by kernel_rfl
set_option maxRecDepth 1000000 in
theorem joined_a08 : ((C.knobs == [])) = true := by kernel_rfl
set_option maxRecDepth 1000000 in
theorem joined_a09 : ((Tryz.prog.stopKnobs == [])) = true := by kernel_rfl
set_option maxRecDepth 1000000 in
theorem joined_a10 : ((C.inPlace == Tryz.prog.inPlace 3)) = true := by rw [inPlace3]; kernel_rfl
set_option maxRecDepth 1000000 in
theorem joined_a11 : ((C.unfollowed == Tryz.prog.unfollowed 3)) = true := by rw [unfollowed3]; rfl
set_option maxRecDepth 1000000 in
theorem joined_a12 : ((C.recurses == Tryz.prog.recurses 3)) = true := by rw [recurses3]; rfl
set_option maxRecDepth 1000000 in
theorem joined_a13 : ((C.named == Tryz.prog.varsNamed 3)) = true := by rw [varsNamed3]; kernel_rfl
set_option maxRecDepth 1000000 in
theorem joined_a14 : ((C.maps == (Tryz.f3.params.toList ++ S.plain.varTypes Tryz.prog).any (Tryz.prog.mapsRec ·))) = true := by kernel_rfl
set_option maxRecDepth 1000000 in
theorem joined_a15 : ((C.ifaces == (Tryz.f3.params.toList ++ S.plain.varTypes Tryz.prog).any (Tryz.prog.ifacesRec ·))) = true := by kernel_rfl
set_option maxRecDepth 1000000 in
theorem joined_a16 : ((C.mapsOut == Tryz.prog.mapsAmong Tryz.f3.resultTypes.toList)) = true := by kernel_rfl
set_option maxRecDepth 1000000 in
theorem joined_a17 : ((C.loops == (Tryz.f3.params.toList ++ S.plain.varTypes Tryz.prog).any (Tryz.prog.loopsFrom ·))) = true := by kernel_rfl
set_option maxRecDepth 1000000 in
theorem joined_a18 : ((C.wideKeys == (Tryz.f3.params.toList ++ S.plain.varTypes Tryz.prog ++ Tryz.f3.resultTypes.toList).any (Tryz.prog.wideKeysFrom ·))) = true := by kernel_rfl
set_option maxRecDepth 1000000 in
theorem joined_a19 : (S.vars.all (Tryz.prog.varReadable ·)) = true := by kernel_rfl
set_option maxRecDepth 1000000 in
theorem joined_a20 : (Tryz.f3.resultTypes.all (fun t => Tryz.prog.readableRec t && decide (t < Tryz.prog.types.size))) = true := by kernel_rfl
set_option maxRecDepth 1000000 in
theorem joined_a21 : ((C.ifacesOut == Tryz.f3.resultTypes.toList.any (Tryz.prog.ifacesRec ·))) = true := by kernel_rfl
set_option maxRecDepth 1000000 in
theorem joined_a22 : ((C.loopsOut == Tryz.f3.resultTypes.toList.any (Tryz.prog.loopsFrom ·))) = true := by kernel_rfl
set_option maxRecDepth 1000000 in
theorem joined_a23 : ((C.plainKeys == Tryz.prog.plainKeys)) = true := by kernel_rfl
set_option maxRecDepth 1000000 in
theorem joined_a24 : (C.shortTexts.isNone) = true := by kernel_rfl
set_option maxRecDepth 1000000 in
theorem joined_a25 : (Tryz.prog.stopsHeard) = true := stopsHeard
set_option maxRecDepth 1000000 in
theorem joined_a26 : (Tryz.prog.mayEnter) = true := by kernel_rfl
set_option maxRecDepth 1000000 in
theorem joined_a27 : ((C.lifted == Tryz.prog.liftsFinal)) = true := by kernel_rfl
set_option maxRecDepth 1000000 in
theorem joined_a28 : ((Tryz.prog.make == some C.make)) = true := by kernel_rfl
set_option maxRecDepth 1000000 in
theorem joined_a29 : ((C.kinds == (if C.domain.isEmpty then [] else Tryz.f3.params.toList.map fun t => match Tryz.prog.underlying t with | some (.int k) => some k | _ => none))) = true := by kernel_rfl
set_option maxRecDepth 1000000 in
theorem joined_a30 : ((C.pinned == C.pinnedBy)) = true := by kernel_rfl
set_option maxRecDepth 1000000 in
theorem joined_a31 : ((C.veiled == (Tryz.f3.params.toList ++ S.plain.varTypes Tryz.prog ++ Tryz.f3.resultTypes.toList).any (Tryz.prog.veiledRec ·))) = true := by kernel_rfl
set_option maxRecDepth 1000000 in
theorem joined_a32 : (C.veiledFits Tryz.prog Tryz.f3.params.toList (Tryz.f3.params.toList ++ S.plain.varTypes Tryz.prog ++ Tryz.f3.resultTypes.toList)) = true := by kernel_rfl
set_option maxRecDepth 1000000 in
theorem joined : joinedFacts Tryz.prog 3 Tryz.f3 S C = true := by
  unfold joinedFacts
  exact (and_t (and_t (and_t (and_t (and_t (and_t (and_t (and_t (and_t (and_t (and_t (and_t (and_t (and_t (and_t (and_t (and_t (and_t (and_t (and_t (and_t (and_t (and_t (and_t (and_t (and_t (and_t (and_t (and_t (and_t (and_t joined_a01 joined_a02) joined_a03) joined_a04) joined_a05) joined_a06) joined_a07) joined_a08) joined_a09) joined_a10) joined_a11) joined_a12) joined_a13) joined_a14) joined_a15) joined_a16) joined_a17) joined_a18) joined_a19) joined_a20) joined_a21) joined_a22) joined_a23) joined_a24) joined_a25) joined_a26) joined_a27) joined_a28) joined_a29) joined_a30) joined_a31) joined_a32)
theorem lawNamed : Tryz.prog.funcNamed "typecase/typecaselaw59.DeskDraws" = some 3 := law_named
theorem goesFromLaw : Tryz.prog.goesFrom "typecase/typecaselaw59.DeskDraws" = false := by
  unfold Program.goesFrom
  rw [lawNamed, Option.any_some]
  exact goes3
theorem goesBy_of {P : Program} {c : OpenClaim} (hs : c.start = .entering) (h : P.goesFrom c.func = false) : false = c.goesBy P := by
  unfold OpenClaim.goesBy Program.goesAt
  rw [h, hs]
  rfl
theorem goesNot : false = OpenClaim.goesBy C Tryz.prog := goesBy_of rfl goesFromLaw
end Go.Proofs.YtdicpkjblflgbaaGreatDoor
