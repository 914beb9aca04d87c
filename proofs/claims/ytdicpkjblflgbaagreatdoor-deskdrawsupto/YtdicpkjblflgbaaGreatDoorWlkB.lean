/-
  The desk's Boxes and Draw, walked. Conditions: those that each statement below names, and no other.
-/
import Derived.Test.YtdicpkjblflgbaaGreatDoorLawA
import Derived.Test.YtdicpkjblflgbaaGreatDoorWlkA
set_option linter.all false

/-
  The reference's Boxes.
-/
namespace Go.Proofs.YtdicpkjblflgbaaGreatDoor
open Go Go.RowKit

set_option maxRecDepth 100000 in
theorem boxes_any (x0 x1 x2 x3 x4 x5 x6 : Value) (bs : List Bx) (at0 : Option Addr) (cap : Nat) (w : World) (hO : ∀ B ∈ bs, B.fine) (hlen : bs.length ≤ 300) (hb : BsAt w at0 bs) :
    Calls Tryz.prog 6 #[.agg #[x0, x1, x2, x3, x4, x5, x6, .slice at0 bs.length cap]] w fun e w' => e = .returned (.string (boxesS bs)) ∧ Below w.heap.size w w' := by
  have HG := Lib.hid hb
  have HO := Lib.hid hO
  clear hb hO
  go_enter Tryz.func6, Tryz.ntmps6
  go_wp2
  go_loopw [3, 4] (fun s i wr => ∃ k : Nat, k ≤ bs.length ∧ i = .int .i64 k ∧ s = .string (bK bs k) ∧ wr.cell? ⟨w.heap.size, 7, none⟩ = some (.slice at0 bs.length cap) ∧ w.heap.size < wr.heap.size ∧ Below w.heap.size w wr) (fun _ i _ => bs.length - (intOf i).toNat)
  case atStart => exact ⟨0, Nat.zero_le _, rfl, rfl, by simp, by simp, ((Below.refl _ _).alloc (Nat.le_refl _) _)⟩
  case round =>
    obtain ⟨k, hk, rfl, rfl, hcell, hsz, hbel⟩ := hrel
    have HBel := Lib.hid hbel
    clear hbel
    have hsl := bK_len HO.out k
    by_cases hlt : k < bs.length
    · obtain ⟨B, hBk⟩ : ∃ g, bs[k]? = some g := ⟨_, List.getElem?_eq_getElem hlt⟩
      have hBo := HO.out B (List.mem_of_getElem? hBk)
      have HBo := Lib.hid hBo
      have hBl := boxS_len hBo
      have HS := Lib.hid (bK_succ hBk)
      obtain ⟨blk, off, rfl, hblk, hcs⟩ := (HG.out.kept HBel.out) (by omega)
      obtain ⟨c0, c1, c2, c3, c4, atg, capg, c5, hgs⟩ := hcs k B hBk
      have HGs := Lib.hid hgs
      clear hcs hgs hBo
      obtain ⟨sk, hsk⟩ : ∃ s, s = bK bs k := ⟨_, rfl⟩
      rw [← hsk] at hsl ⊢
      have HK := Lib.hid hsk
      clear hsk hBk
      obtain ⟨a, b, c, d, e, gs⟩ := B
      simp only at c0 c1 c2 c3 c4 c5
      by_cases hk0 : 0 < k
      all_goals
        go_wp2_with (go_at_call 14; refine (box_any ⟨a, b, c, d, e, gs⟩ atg capg _ HBo.out.1 HBo.out.2 HGs.out).mono ?_; rintro e w' ⟨rfl, hw'⟩)
        go_roundw
        case rel => 
          refine ⟨k + 1, by omega, by go_num, ?_, cell_below hw' hcell, Nat.lt_of_lt_of_le hsz hw'.size, HBel.out.trans (hw'.mono (by omega))⟩
          rw [HS.out, ← HK.out]
          unfold bAcc
          first | rw [if_pos hk0] | rw [if_neg hk0]
        case measure => simp [intOf]; omega
    · obtain rfl : k = bs.length := by omega
      go_wp2
      go_ret
      exact ⟨rfl, HBel.out⟩
end Go.Proofs.YtdicpkjblflgbaaGreatDoor

/-
  The reference's Draw.
-/
namespace Go.Proofs.YtdicpkjblflgbaaGreatDoor
open Go Go.RowKit

set_option maxRecDepth 100000 in
theorem rdraw_any (base : Int) (ls : List Ln) (at0 : Option Addr) (cap : Nat) (w : World) (hbase : R64 base) (hO : ∀ L ∈ ls, L.fine) (hlen : ls.length ≤ 40) (hb : LsAt w at0 ls) :
    Calls Tryz.prog 8 #[.agg #[.int .i64 base, .slice at0 ls.length cap]] w fun e w' => e = .returned (.string (drawS base ls)) ∧ Below w.heap.size w w' := by
  have HG := Lib.hid hb
  have HO := Lib.hid hO
  have hbl := numS_len hbase
  clear hb hO
  go_enter Tryz.func8, Tryz.ntmps8
  go_wp2_with (go_at_call 16; refine (num_q _ _ hbase).mono ?_; rintro e w' ⟨rfl, rfl⟩)
  go_loopw [3, 4] (fun s i wr => ∃ k : Nat, k ≤ ls.length ∧ i = .int .i64 k ∧ s = .string (dK base ls k) ∧ wr.cell? ⟨w.heap.size, 1, none⟩ = some (.slice at0 ls.length cap) ∧ w.heap.size < wr.heap.size ∧ Below w.heap.size w wr) (fun _ i _ => ls.length - (intOf i).toNat)
  case atStart => exact ⟨0, Nat.zero_le _, rfl, rfl, by simp, by simp, ((Below.refl _ _).alloc (Nat.le_refl _) _)⟩
  case round =>
    obtain ⟨k, hk, rfl, rfl, hcell, hsz, hbel⟩ := hrel
    have HBel := Lib.hid hbel
    clear hbel
    have hsl := dK_len hbase HO.out k
    by_cases hlt : k < ls.length
    · obtain ⟨L, hLk⟩ : ∃ g, ls[k]? = some g := ⟨_, List.getElem?_eq_getElem hlt⟩
      have HLo := Lib.hid (HO.out L (List.mem_of_getElem? hLk))
      have hBl := boxesS_len HLo.out.2.1 HLo.out.2.2
      have HS := Lib.hid (dK_succ (base := base) hLk)
      obtain ⟨blk, off, rfl, hblk, hcs⟩ := (HG.out.kept HBel.out) (by omega)
      obtain ⟨c0, c1, c2, c3, c4, c5, c6, atb, capb, c7, hbs⟩ := hcs k L hLk
      have HBs := Lib.hid hbs
      clear hcs hbs
      obtain ⟨sk, hsk⟩ : ∃ s, s = dK base ls k := ⟨_, rfl⟩
      rw [← hsk] at hsl ⊢
      have HK := Lib.hid hsk
      clear hsk hLk
      obtain ⟨p0, p1, p2, p3, p4, p5, hy, bs⟩ := L
      simp only at c0 c1 c2 c3 c4 c5 c6 c7 hBl
      obtain ⟨r0, r1, r3, r4, r5⟩ := HLo.out.1
      simp only at r0 r1 r3 r4 r5
      have m0 := numS_len r0
      have m1 := numS_len r1
      have m3 := numS_len r3
      have m4 := numS_len r4
      have m5 := numS_len r5
      go_wp2
      go_quiet ((go_at_call 16; exact Calls.quiet_of_same (num_q _ _ (by assumption))))
      by_cases hb0 : 0 < bs.length
      all_goals
        cases hy
        all_goals
          go_wp2_with (go_at_call 6; refine (boxes_any _ _ _ _ _ _ _ bs atb capb _ HLo.out.2.1 HLo.out.2.2 ((HBs.out.kept ((Below.refl _ _).alloc (Nat.le_refl _) _)).kept (below_drewN _ (Below.refl _ _)))).mono ?_; rintro e w' ⟨rfl, hw'⟩)
          go_roundw
          case rel =>
            refine ⟨k + 1, by omega, by go_num, ?_, ?_, ?_, ?_⟩
            · rw [HS.out, ← HK.out]
              unfold lAcc lBoxes
              first | rw [if_pos hb0] | rw [if_neg hb0]
              rfl
            · first | exact cell_below hw' (cell_alloc hcell) | exact cell_alloc hcell
            · first | exact Nat.lt_of_lt_of_le (by simp; omega) hw'.size | (simp; omega)
            · first | exact (below_drewN _ (HBel.out.alloc (by omega) _)).trans (hw'.mono (by simp; omega)) | exact below_drewN _ (HBel.out.alloc (by omega) _)
          case measure => simp [intOf]; omega
    · obtain rfl : k = ls.length := by omega
      go_wp2
      go_ret
      exact ⟨rfl, HBel.out⟩
end Go.Proofs.YtdicpkjblflgbaaGreatDoor
