/-
  The law's own code, walked: it returns true. Conditions: those that each statement below names, and no other.
-/
import Derived.Test.YtdicpkjblflgbaaGreatDoorWlkE
import Derived.Deep.RegionHeld3
set_option linter.all false

/-
  The law's own code: what it counts.
-/
namespace Go.Proofs.YtdicpkjblflgbaaGreatDoor
open Go Go.RowKit

def Ln.sane (L : Ln) : Prop := L.nums ∧ ∀ B ∈ L.bs, B.ok
def cnt (bs : List Bx) (j : Nat) : Nat := bs.length + ((bs.take j).map (·.gs.length)).sum
theorem cnt_zero (bs : List Bx) : cnt bs 0 = bs.length := by simp [cnt]
theorem cnt_succ {bs : List Bx} {j : Nat} {B : Bx} (h : bs[j]? = some B) : cnt bs (j + 1) = cnt bs j + B.gs.length := by
  obtain ⟨hj, rfl⟩ := List.getElem?_eq_some_iff.1 h
  unfold cnt
  rw [List.take_succ_eq_append_getElem hj, List.map_append, List.sum_append, List.map_cons, List.map_nil, List.sum_cons, List.sum_nil]
  omega
theorem cnt_le {bs : List Bx} : ∀ {j : Nat}, j ≤ bs.length → cnt bs j ≤ cnt bs bs.length := by
  intro j hj
  have h : ∀ (l : List Bx) (j : Nat), ((l.take j).map (·.gs.length)).sum ≤ (l.map (·.gs.length)).sum := by
    intro l
    induction l with
    | nil => intro j; simp
    | cons x l ih =>
      intro j
      cases j with
      | zero => simp
      | succ j => have := ih j; rw [List.take_succ_cons, List.map_cons, List.map_cons, List.sum_cons, List.sum_cons]; omega
  unfold cnt
  have := h bs j
  rw [List.take_length]
  omega
theorem gs_le {bs : List Bx} {B : Bx} (h : B ∈ bs) : B.gs.length ≤ (bs.map (·.gs.length)).sum := by
  induction bs with
  | nil => cases h
  | cons x l ih =>
    rcases List.mem_cons.1 h with rfl | h
    · simp
    · have := ih h; simp; omega
theorem fine_of {L : Ln} (h : L.sane) (hc : cnt L.bs L.bs.length ≤ 300) : L.fine := by
  unfold cnt at hc
  rw [List.take_length] at hc
  exact ⟨h.1, fun B hB => ⟨h.2 B hB, by have := gs_le hB; omega⟩, by omega⟩

theorem alive_c {e3 e6 : Nat} {w : World} (h : Env0 e3 e6 w) : Calls Tryz.prog 4 #[] w fun e w' => e = .returned (.bool true) ∧ Below w.heap.size w w' :=
  (alive_calls h.laid).mono fun _ _ ⟨he, hg⟩ => ⟨he, hg.os, hg.tape, hg.output, hg.size, hg.block⟩
end Go.Proofs.YtdicpkjblflgbaaGreatDoor

/-
  The law's own code: the walk.
-/
namespace Go.Proofs.YtdicpkjblflgbaaGreatDoor
open Go Go.RowKit

def lnCells (b : Nat) (L : Ln) (atb : Option Addr) (capb : Nat) (w' : World) : Prop :=
  w'.cell? ⟨b, 0, none⟩ = some (.int .i64 L.p0) ∧ w'.cell? ⟨b, 1, none⟩ = some (.int .i64 L.p1) ∧ w'.cell? ⟨b, 2, none⟩ = some (.int .i64 L.p2) ∧ w'.cell? ⟨b, 3, none⟩ = some (.int .i64 L.p3) ∧ w'.cell? ⟨b, 4, none⟩ = some (.int .i64 L.p4) ∧ w'.cell? ⟨b, 5, none⟩ = some (.int .i64 L.p5) ∧ w'.cell? ⟨b, 6, none⟩ = some (.bool L.hy) ∧ w'.cell? ⟨b, 7, none⟩ = some (.slice atb L.bs.length capb)
theorem lnCells_new (w : World) (L : Ln) (atb : Option Addr) (capb : Nat) : lnCells w.heap.size L atb capb (w.alloc (.cells #[.int .i64 L.p0, .int .i64 L.p1, .int .i64 L.p2, .int .i64 L.p3, .int .i64 L.p4, .int .i64 L.p5, .bool L.hy, .slice atb L.bs.length capb] 28)) := by
  unfold lnCells
  simp
section
variable {b : Nat} {L : Ln} {atb : Option Addr} {capb : Nat} {W0 w w' : World}
theorem lnKeep (h : w.cell? ⟨b, 0, none⟩ = some (.int .i64 L.p0) ∧ w.cell? ⟨b, 1, none⟩ = some (.int .i64 L.p1) ∧ w.cell? ⟨b, 2, none⟩ = some (.int .i64 L.p2) ∧ w.cell? ⟨b, 3, none⟩ = some (.int .i64 L.p3) ∧ w.cell? ⟨b, 4, none⟩ = some (.int .i64 L.p4) ∧ w.cell? ⟨b, 5, none⟩ = some (.int .i64 L.p5) ∧ w.cell? ⟨b, 6, none⟩ = some (.bool L.hy) ∧ w.cell? ⟨b, 7, none⟩ = some (.slice atb L.bs.length capb) ∧ Below W0.heap.size W0 w) (hb : Below w.heap.size w w') :
    w'.cell? ⟨b, 0, none⟩ = some (.int .i64 L.p0) ∧ w'.cell? ⟨b, 1, none⟩ = some (.int .i64 L.p1) ∧ w'.cell? ⟨b, 2, none⟩ = some (.int .i64 L.p2) ∧ w'.cell? ⟨b, 3, none⟩ = some (.int .i64 L.p3) ∧ w'.cell? ⟨b, 4, none⟩ = some (.int .i64 L.p4) ∧ w'.cell? ⟨b, 5, none⟩ = some (.int .i64 L.p5) ∧ w'.cell? ⟨b, 6, none⟩ = some (.bool L.hy) ∧ w'.cell? ⟨b, 7, none⟩ = some (.slice atb L.bs.length capb) ∧ Below W0.heap.size W0 w' := by
  obtain ⟨h0, h1, h2, h3, h4, h5, h6, h7, h8⟩ := h
  exact ⟨cell_below hb h0, cell_below hb h1, cell_below hb h2, cell_below hb h3, cell_below hb h4, cell_below hb h5, cell_below hb h6, cell_below hb h7, h8.trans (hb.mono h8.size)⟩
theorem lnBelow (h : w.cell? ⟨b, 0, none⟩ = some (.int .i64 L.p0) ∧ w.cell? ⟨b, 1, none⟩ = some (.int .i64 L.p1) ∧ w.cell? ⟨b, 2, none⟩ = some (.int .i64 L.p2) ∧ w.cell? ⟨b, 3, none⟩ = some (.int .i64 L.p3) ∧ w.cell? ⟨b, 4, none⟩ = some (.int .i64 L.p4) ∧ w.cell? ⟨b, 5, none⟩ = some (.int .i64 L.p5) ∧ w.cell? ⟨b, 6, none⟩ = some (.bool L.hy) ∧ w.cell? ⟨b, 7, none⟩ = some (.slice atb L.bs.length capb) ∧ Below W0.heap.size W0 w) : Below W0.heap.size W0 w := h.2.2.2.2.2.2.2.2
theorem lnDrew (h : W0.cell? ⟨b, 0, none⟩ = some (.int .i64 L.p0) ∧ W0.cell? ⟨b, 1, none⟩ = some (.int .i64 L.p1) ∧ W0.cell? ⟨b, 2, none⟩ = some (.int .i64 L.p2) ∧ W0.cell? ⟨b, 3, none⟩ = some (.int .i64 L.p3) ∧ W0.cell? ⟨b, 4, none⟩ = some (.int .i64 L.p4) ∧ W0.cell? ⟨b, 5, none⟩ = some (.int .i64 L.p5) ∧ W0.cell? ⟨b, 6, none⟩ = some (.bool L.hy) ∧ W0.cell? ⟨b, 7, none⟩ = some (.slice atb L.bs.length capb)) :
    W0.drew.cell? ⟨b, 0, none⟩ = some (.int .i64 L.p0) ∧ W0.drew.cell? ⟨b, 1, none⟩ = some (.int .i64 L.p1) ∧ W0.drew.cell? ⟨b, 2, none⟩ = some (.int .i64 L.p2) ∧ W0.drew.cell? ⟨b, 3, none⟩ = some (.int .i64 L.p3) ∧ W0.drew.cell? ⟨b, 4, none⟩ = some (.int .i64 L.p4) ∧ W0.drew.cell? ⟨b, 5, none⟩ = some (.int .i64 L.p5) ∧ W0.drew.cell? ⟨b, 6, none⟩ = some (.bool L.hy) ∧ W0.drew.cell? ⟨b, 7, none⟩ = some (.slice atb L.bs.length capb) ∧ Below W0.heap.size W0 W0.drew := by
  obtain ⟨h0, h1, h2, h3, h4, h5, h6, h7⟩ := h
  exact ⟨h0, h1, h2, h3, h4, h5, h6, h7, (Below.refl _ _).drew⟩
end
section
variable {b : Nat} {base : Int} {v : Value} {W0 w w' : World}
theorem lyKeep (h : w.cell? ⟨b, 0, none⟩ = some (.int .i64 base) ∧ w.cell? ⟨b, 1, none⟩ = some v ∧ Below W0.heap.size W0 w) (hb : Below w.heap.size w w') :
    w'.cell? ⟨b, 0, none⟩ = some (.int .i64 base) ∧ w'.cell? ⟨b, 1, none⟩ = some v ∧ Below W0.heap.size W0 w' :=
  ⟨cell_below hb h.1, cell_below hb h.2.1, h.2.2.trans (hb.mono h.2.2.size)⟩
theorem lyBelow (h : w.cell? ⟨b, 0, none⟩ = some (.int .i64 base) ∧ w.cell? ⟨b, 1, none⟩ = some v ∧ Below W0.heap.size W0 w) : Below W0.heap.size W0 w := h.2.2
theorem lyDrew (h : W0.cell? ⟨b, 0, none⟩ = some (.int .i64 base) ∧ W0.cell? ⟨b, 1, none⟩ = some v) :
    W0.drew.cell? ⟨b, 0, none⟩ = some (.int .i64 base) ∧ W0.drew.cell? ⟨b, 1, none⟩ = some v ∧ Below W0.heap.size W0 W0.drew := ⟨h.1, h.2, (Below.refl _ _).drew⟩
end

set_option maxRecDepth 100000 in
set_option maxHeartbeats 1600000 in
theorem law_any {e3 e6 : Nat} (base : Int) (ls : List Ln) (at0 : Option Addr) (cap : Nat) (w : World) (hbase : R64 base) (hO : ∀ L ∈ ls, L.sane) (hC : ∀ L ∈ ls, cnt L.bs L.bs.length ≤ 1048576) (hlen : ls.length ≤ 1048576) (hb : LsAt w at0 ls) (hE : Env0 e3 e6 w) :
    Calls Tryz.prog 3 #[.agg #[.int .i64 base, .slice at0 ls.length cap]] w fun e w' => e = .returned (.bool true) ∧ Below w.heap.size w w' := by
  have HG := Lib.hid hb
  have HO := Lib.hid hO
  have HC := Lib.hid hC
  have HE := Lib.hid hE
  have HR := Lib.hid hbase
  clear hb hO hC hE hbase
  by_cases h40 : 40 < ls.length
  · go_enter Tryz.func3, Tryz.ntmps3
    go_wp2_with (go_at_call 4; refine (alive_c (HE.out.kept ((Below.refl _ _).alloc (Nat.le_refl _) _))).mono ?_; rintro e w1 ⟨rfl, hw1⟩)
    go_ret
    exact ⟨rfl, ((Below.refl _ _).alloc (Nat.le_refl _) _).trans (hw1.mono (by simp))⟩
  · have hd40 : decide ((40 : Int) < (ls.length : Int)) = false := by simp; omega
    go_enter Tryz.func3, Tryz.ntmps3
    go_wp2
    go_loopw [18] (fun i wr => ∃ k : Nat, k ≤ ls.length ∧ i = .int .i64 k ∧ (∀ L ∈ ls.take k, L.fine) ∧ wr.cell? ⟨w.heap.size, 0, none⟩ = some (.int .i64 base) ∧ wr.cell? ⟨w.heap.size, 1, none⟩ = some (.slice at0 ls.length cap) ∧ w.heap.size < wr.heap.size ∧ Below w.heap.size w wr) (fun i _ => ls.length - (intOf i).toNat)
    case atStart => exact ⟨0, Nat.zero_le _, rfl, fun L h => by simp at h, by simp, by simp, by simp, (Below.refl _ _).alloc (Nat.le_refl _) _⟩
    case round =>
      obtain ⟨k, hk, rfl, hfine, hc0, hc1, hsz, hbel⟩ := hrel
      have HF := Lib.hid hfine
      have HBel := Lib.hid hbel
      clear hfine hbel
      by_cases hlt : k < ls.length
      · obtain ⟨L, hLk⟩ : ∃ g, ls[k]? = some g := ⟨_, List.getElem?_eq_getElem hlt⟩
        have HL := Lib.hid (HO.out L (List.mem_of_getElem? hLk))
        have hcl := HC.out L (List.mem_of_getElem? hLk)
        have HCL := Lib.hid (fun j (hj : j ≤ L.bs.length) => cnt_le (bs := L.bs) hj)
        have HLk := Lib.hid hLk
        obtain ⟨blk, off, rfl, hblk, hcs⟩ := (HG.out.kept HBel.out) (by omega)
        obtain ⟨c0, c1, c2, c3, c4, c5, c6, atb, capb, c7, hbs⟩ := hcs k L hLk
        have HBs := Lib.hid hbs
        clear hcs hbs hLk
        have hbl : L.bs.length ≤ 1048576 := by have := HCL.out 0 (Nat.zero_le _); rw [cnt_zero] at this; omega
        go_wp2
        have hwr : wr.heap.size < wr.heap.size + 1 := Nat.lt_succ_self _
        go_loopw [5, 28] (fun n i w2 => ∃ j : Nat, j ≤ L.bs.length ∧ i = .int .i64 j ∧ n = .int .i64 (cnt L.bs j) ∧ Below wr.heap.size wr w2) (fun _ i _ => L.bs.length - (intOf i).toNat)
        case atStart => exact ⟨0, Nat.zero_le _, rfl, by rw [cnt_zero], (Below.refl _ _).alloc (Nat.le_refl _) _⟩
        case round =>
          obtain ⟨j, hj, rfl, rfl, hb2⟩ := hrel
          have HB2 := Lib.hid hb2
          clear hb2
          have hcj := HCL.out j hj
          by_cases hjt : j < L.bs.length
          · obtain ⟨B, hBj⟩ : ∃ g, L.bs[j]? = some g := ⟨_, List.getElem?_eq_getElem hjt⟩
            have HS := Lib.hid (cnt_succ hBj)
            have hcs := HCL.out (j + 1) hjt
            have hcs2 := cnt_succ hBj
            have hgl : cnt L.bs j + B.gs.length ≤ 1048576 := by omega
            obtain ⟨blk2, off2, rfl, hblk2, hcs3⟩ := (HBs.out.kept HB2.out) (by omega)
            obtain ⟨d0, d1, d2, d3, d4, atg, capg, d5, -⟩ := hcs3 j B hBj
            clear hcs hcs2 hcs3 hBj
            go_wp2
            go_roundw
            case rel => exact ⟨j + 1, by omega, by go_num, by rw [HS.out]; go_num, HB2.out.alloc (HB2.out.size) _⟩
            case measure => simp [intOf]; omega
          · obtain rfl : j = L.bs.length := by omega
            by_cases h3 : 300 < cnt L.bs L.bs.length
            · go_wp2_with (go_at_call 4; refine (alive_c ((HE.out.kept HBel.out).kept HB2.out)).mono ?_; rintro e w1 ⟨rfl, hw1⟩)
              go_ret
              exact ⟨rfl, (HBel.out.trans (HB2.out.mono HBel.out.size)).trans (hw1.mono (Nat.le_trans HBel.out.size HB2.out.size))⟩
            · go_wp2
              go_roundw
              case rel =>
                refine ⟨k + 1, by omega, by go_num, ?_, cell_below HB2.out hc0, cell_below HB2.out hc1, Nat.lt_of_lt_of_le hsz HB2.out.size, HBel.out.trans (HB2.out.mono HBel.out.size)⟩
                intro L' hL'
                rw [List.take_succ_eq_append_getElem hlt, List.mem_append, List.mem_singleton] at hL'
                rcases hL' with h | h
                · exact HF.out L' h
                · have e := (List.getElem?_eq_some_iff.1 HLk.out)
                  obtain ⟨_, e⟩ := e
                  rw [h, e]
                  exact fine_of HL.out (by omega)
              case measure => simp [intOf]; omega
      · obtain rfl : k = ls.length := by omega
        have hsz0 := Lib.hid hsz
        have HF2 : Hid (∀ L ∈ ls, L.fine) := Lib.hid (by have := HF.out; rwa [List.take_length] at this)
        go_wp2
        clear HC hsz HF
        have hsz : w.heap.size < wr.heap.size := hsz0.out
        go_loopw [45] (fun i w2 => ∃ k : Nat, k ≤ ls.length ∧ i = .int .i64 k ∧ Below wr.heap.size wr w2) (fun i _ => ls.length - (intOf i).toNat)
        case atStart => exact ⟨0, Nat.zero_le _, rfl, Below.refl _ _⟩
        case round =>
          obtain ⟨k, hk, rfl, hb2⟩ := hrel
          have HB2 := Lib.hid hb2
          clear hb2
          by_cases hlt : k < ls.length
          · obtain ⟨L, hLk⟩ : ∃ g, ls[k]? = some g := ⟨_, List.getElem?_eq_getElem hlt⟩
            have HL := Lib.hid (HF2.out L (List.mem_of_getElem? hLk))
            obtain ⟨blk, off, rfl, hblk, hcs⟩ := ((HG.out.kept HBel.out).kept HB2.out) (by omega)
            obtain ⟨c0, c1, c2, c3, c4, c5, c6, atb, capb, c7, hbs⟩ := hcs k L hLk
            have HBs := Lib.hid hbs
            have HE2 := Lib.hid ((HE.out.kept HBel.out).kept HB2.out)
            clear hcs hbs hLk
            go_wp2
            obtain ⟨W0, hW0⟩ : ∃ x, x = wr.alloc (.cells #[.int .i64 L.p0, .int .i64 L.p1, .int .i64 L.p2, .int .i64 L.p3, .int .i64 L.p4, .int .i64 L.p5, .bool L.hy, .slice atb L.bs.length capb] 28) := ⟨_, rfl⟩
            rw [← hW0]
            have S0 : lnCells wr.heap.size L atb capb W0 := by subst hW0; exact lnCells_new _ _ _ _
            have HB3 : Hid (Below wr.heap.size wr W0) := Lib.hid (by subst hW0; exact (Below.refl _ _).alloc (Nat.le_refl _) _)
            have HBs0 := Lib.hid (HBs.out.kept HB3.out)
            have HE0 := Lib.hid (HE2.out.kept HB3.out)
            have hz : wr.heap.size + 1 = W0.heap.size := by subst hW0; simp
            have HZ := Lib.hid hz
            clear hW0 hz
            unfold lnCells at S0
            go_region_held3 (fun w' => w'.cell? ⟨wr.heap.size, 0, none⟩ = some (.int .i64 L.p0) ∧ w'.cell? ⟨wr.heap.size, 1, none⟩ = some (.int .i64 L.p1) ∧ w'.cell? ⟨wr.heap.size, 2, none⟩ = some (.int .i64 L.p2) ∧ w'.cell? ⟨wr.heap.size, 3, none⟩ = some (.int .i64 L.p3) ∧ w'.cell? ⟨wr.heap.size, 4, none⟩ = some (.int .i64 L.p4) ∧ w'.cell? ⟨wr.heap.size, 5, none⟩ = some (.int .i64 L.p5) ∧ w'.cell? ⟨wr.heap.size, 6, none⟩ = some (.bool L.hy) ∧ w'.cell? ⟨wr.heap.size, 7, none⟩ = some (.slice atb L.bs.length capb) ∧ Below W0.heap.size W0 w')
              (first | exact lnKeep (by assumption) (by assumption) | exact lnDrew S0)
              (first
                | (go_at_call 5; refine (dboxes_any _ _ _ _ _ _ _ L.bs atb capb _ HL.out.2.1 HL.out.2.2 (HBs0.out.kept (lnBelow (by assumption))) (HE0.out.kept (lnBelow (by assumption)))).mono ?_; rintro e w3 ⟨rfl, hw3⟩)
                | (go_at_call 6; refine (boxes_any _ _ _ _ _ _ _ L.bs atb capb _ HL.out.2.1 HL.out.2.2 (HBs0.out.kept (lnBelow (by assumption)))).mono ?_; rintro e w3 ⟨rfl, hw3⟩))
            have HB5 := Lib.hid (lnBelow (by assumption))
            go_wp2
            go_roundw
            case rel => exact ⟨k + 1, by omega, by go_num, HB2.out.trans ((HB3.out.trans (HB5.out.mono HB3.out.size)).mono HB2.out.size)⟩
            case measure => simp [intOf]; omega
          · obtain rfl : k = ls.length := by omega
            have S0 : wr.cell? ⟨w.heap.size, 0, none⟩ = some (.int .i64 base) ∧ wr.cell? ⟨w.heap.size, 1, none⟩ = some (.slice at0 ls.length cap) := ⟨cell_below HB2.out hc0, cell_below HB2.out hc1⟩
            have HG2 := Lib.hid ((HG.out.kept HBel.out).kept HB2.out)
            have HE2 := Lib.hid ((HE.out.kept HBel.out).kept HB2.out)
            have HBw := Lib.hid (HBel.out.trans (HB2.out.mono HBel.out.size))
            have hl40 : ls.length ≤ 40 := by omega
            clear hc0 hc1
            go_wp2
            obtain ⟨W0, hW0⟩ : ∃ x, x = wr := ⟨_, rfl⟩
            rw [← hW0] at S0 HG2 HE2 HBw ⊢
            clear hW0
            go_region_held3 (fun w' => w'.cell? ⟨w.heap.size, 0, none⟩ = some (.int .i64 base) ∧ w'.cell? ⟨w.heap.size, 1, none⟩ = some (.slice at0 ls.length cap) ∧ Below W0.heap.size W0 w')
              (first | exact lyKeep (by assumption) (by assumption) | exact lyDrew S0)
              (first
                | (go_at_call 7; refine (ddraw_any base ls at0 cap _ HR.out HF2.out hl40 (HG2.out.kept (lyBelow (by assumption))) (HE2.out.kept (lyBelow (by assumption)))).mono ?_; rintro e w3 ⟨rfl, hw3⟩)
                | (go_at_call 8; refine (rdraw_any base ls at0 cap _ HR.out HF2.out hl40 (HG2.out.kept (lyBelow (by assumption)))).mono ?_; rintro e w3 ⟨rfl, hw3⟩)
                | (go_at_call 4; refine (alive_c (HE2.out.kept (lyBelow (by assumption)))).mono ?_; rintro e w3 ⟨rfl, hw3⟩))
            have HB5 := Lib.hid (lyBelow (by assumption))
            go_wp2
            go_ret
            exact ⟨rfl, HBw.out.trans (HB5.out.mono HBw.out.size)⟩
end Go.Proofs.YtdicpkjblflgbaaGreatDoor
