/-
  The reference's Draw, walked. Conditions: those that each statement below names, and no other.
-/
import Derived.Test.YtdicpkjblflgbaaGreatDoorWlkD
set_option linter.all false

/-
  The desk's Draw: the walk.
-/
namespace Go.Proofs.YtdicpkjblflgbaaGreatDoor
open Go Go.RowKit

theorem lineS_len {L : Ln} (h : L.fine) : (lineS L).size ≤ 8000000 := by
  obtain ⟨h1, h2, h3, h4, h5⟩ := h.1
  have e1 := join5_len h1 h2 h4 h5 h3
  have e2 := boxesS_len h.2.1 h.2.2
  unfold lineS
  have c32 : (⟨#[32]⟩ : ByteArray).size = 1 := rfl
  have hm : (if L.hy = true then (⟨#[45]⟩ : ByteArray) else ⟨#[46]⟩).size = 1 := by split <;> rfl
  simp only
  split
  · rw [ByteArray.size_append, ByteArray.size_append, ByteArray.size_append, ByteArray.size_append, c32, hm]; omega
  · rw [ByteArray.size_append, ByteArray.size_append, c32, hm]; omega

theorem cells_of_alloc {w w2 : World} {cs : Array Value} {t : TypeId} (hb : Below (w.alloc (.cells cs t)).heap.size (w.alloc (.cells cs t)) w2) (j : Nat) (v : Value) (h : cs[j]? = some v) : w2.cell? ⟨w.heap.size, j, none⟩ = some v :=
  cell_below hb (by rw [World.cell?]; simp only [heap_alloc_new]; simpa using h)

theorem one_news {w : World} {k : Nat} {x y : ByteArray} (hk : w.heap.size = k) (hxy : y = x) : ∀ (j : Nat) (u : Value), [Value.string y][j]? = some u → (w.alloc (.cells #[.string x] 9)).cell? ((⟨k, 0, none⟩ : Addr).add j) = some u := by
  subst hk hxy
  intro j u hj
  match j, hj with
  | 0, hj => simp at hj; subst hj; simp [Addr.add]
theorem one_cells (x : ByteArray) : ∀ u ∈ [Value.string x], u.oneCell' = true := by
  intro u hu
  simp at hu
  subst hu
  rfl

set_option maxRecDepth 100000 in
set_option maxHeartbeats 1600000 in
theorem ddraw_any {e3 e6 : Nat} (base : Int) (ls : List Ln) (at0 : Option Addr) (cap : Nat) (w : World) (hbase : R64 base) (hO : ∀ L ∈ ls, L.fine) (hlen : ls.length ≤ 40) (hb : LsAt w at0 ls) (hE : Env0 e3 e6 w) :
    Calls Tryz.prog 7 #[.agg #[.int .i64 base, .slice at0 ls.length cap]] w fun e w' => e = .returned (.string (drawS base ls)) ∧ Below w.heap.size w w' := by
  obtain ⟨i0, hi, hz0, hz1, hz2⟩ := info_parts info9
  have HG := Lib.hid hb
  have HO := Lib.hid hO
  have HE := Lib.hid hE
  have hbl := numS_len hbase
  have HR := Lib.hid hbase
  have hdl := drawHead_len hbase
  clear hb hO hE hbase
  go_enter Tryz.func7, Tryz.ntmps7
  go_wp2_with (go_at_call 15; refine (itoa_c _ _ HR.out (HE.out.kept ((Below.refl _ _).alloc (Nat.le_refl _) _))).mono ?_; rintro e w1 ⟨rfl, hw1⟩; have cb : w1.cell? ⟨w.heap.size, 1, none⟩ = some (.slice at0 ls.length cap) := cell_below hw1 (by simp); have hzz : w.heap.size + 1 ≤ w1.heap.size := (by have := hw1.size; simp at this; omega); have cb2 : ∀ o, (w1.alloc o).cell? ⟨w.heap.size, 1, none⟩ = some (.slice at0 ls.length cap) := fun o => cell_alloc cb)
  have HB0 : Hid (Below w.heap.size w (w1.alloc (.cells #[.string (⟨#[98, 97, 115, 101, 32]⟩ ++ numS base)] 9))) := Lib.hid ((((Below.refl w.heap.size w).alloc (Nat.le_refl _) _).trans (hw1.mono (by simp))).alloc (by omega) _)
  clear hw1
  go_loopw [3, 16] (fun v i wr => ∃ k : Nat, k ≤ ls.length ∧ i = .int .i64 k ∧ wr.ownsRow w.heap.size 9 1 v (1 + k) (strs (drawHead base :: (ls.map lineS).take k)) ∧ Below w.heap.size w wr) (fun _ i _ => ls.length - (intOf i).toNat)
  case atStart => exact ⟨0, Nat.zero_le _, rfl, World.ownsRow_lit _ _ _ (by omega) (by decide) (by rfl), HB0.out⟩
  case round =>
    obtain ⟨k, hk, rfl, hown, hbel⟩ := hrel
    have HBel := Lib.hid hbel
    have HOwn := Lib.hid hown
    clear hbel hown cb cb2 hzz HB0
    by_cases hlt : k < ls.length
    · obtain ⟨L, hLk⟩ : ∃ g, ls[k]? = some g := ⟨_, List.getElem?_eq_getElem hlt⟩
      have HLo := Lib.hid (HO.out L (List.mem_of_getElem? hLk))
      have HS := Lib.hid (take_map_snoc (f := lineS) hLk)
      obtain ⟨blk, off, rfl, hblk, hcs⟩ := (HG.out.kept HBel.out) (by omega)
      obtain ⟨c0, c1, c2, c3, c4, c5, c6, atb, capb, c7, hbs⟩ := hcs k L hLk
      have HBs := Lib.hid hbs
      clear hcs hbs hLk
      obtain ⟨r0, r1, r3, r4, r5⟩ := HLo.out.1
      have HR0 := Lib.hid r0
      have HR1 := Lib.hid r1
      have HR3 := Lib.hid r3
      have HR4 := Lib.hid r4
      have HR5 := Lib.hid r5
      have hj5 := join5_len r0 r1 r4 r5 r3
      have hBl := boxesS_len HLo.out.2.1 HLo.out.2.2
      clear r0 r1 r3 r4 r5
      have HE1 := Lib.hid (HE.out.kept HBel.out)
      obtain ⟨p0, p1, p2, p3, p4, p5, hy, bs⟩ := L
      simp only at c0 c1 c2 c3 c4 c5 c6 c7 hj5 hBl HR0 HR1 HR3 HR4 HR5
      obtain ⟨tx, htx⟩ : ∃ t, t = lineS ⟨p0, p1, p2, p3, p4, p5, hy, bs⟩ := ⟨_, rfl⟩
      have HTX := Lib.hid htx
      clear htx
      have hs0 := HBel.out.size
      by_cases hb0 : 0 < bs.length
      all_goals
        cases hy
        all_goals
          go_wp2_with (first | (go_at_call 11; refine (join5' _ _ _ _ _ _ _ (by simp) HR0.out HR1.out HR4.out HR5.out HR3.out (HE1.out.kept ((Below.refl _ _).alloc (Nat.le_refl _) _))).mono ?_; rintro e w2 ⟨rfl, hw2⟩; have q0 := cells_of_alloc hw2 0 _ rfl; have q1 := cells_of_alloc hw2 1 _ rfl; have q2 := cells_of_alloc hw2 2 _ rfl; have q3 := cells_of_alloc hw2 3 _ rfl; have q4 := cells_of_alloc hw2 4 _ rfl; have q5 := cells_of_alloc hw2 5 _ rfl; have q6 := cells_of_alloc hw2 6 _ rfl; have q7 := cells_of_alloc hw2 7 _ rfl; have hs2 : wr.heap.size + 1 ≤ w2.heap.size := (by have := hw2.size; simp at this; omega); have HOw2 := Lib.hid (owns_below (HOwn.out.alloc _) hw2); have HBs2 := Lib.hid ((HBs.out.kept ((Below.refl _ _).alloc (Nat.le_refl _) _)).kept hw2); have HE2 := Lib.hid ((HE1.out.kept ((Below.refl _ _).alloc (Nat.le_refl _) _)).kept hw2)) | (go_at_call 5; refine (dboxes_any _ _ _ _ _ _ _ bs atb capb _ HLo.out.2.1 HLo.out.2.2 HBs2.out HE2.out).mono ?_; rintro e w3 ⟨rfl, hw3⟩; have hs3 := hw3.size; have HOw3 := Lib.hid (owns_below HOw2.out hw3)) | (at_builtin; refine wpList_append_own _ rfl _ _ 40 rfl w.heap.size 9 i0 (.string ⟨#[]⟩) 1 16 Tryz.underlying40 hi hz0 hz1 hz2 rfl (by decide) _ _ _ rfl (HOw3.out.alloc _) ⟨w3.heap.size, 0, none⟩ 1 1 [.string tx] rfl rfl (one_news rfl (by rw [HTX.out]; simp [lineS, hb0])) (one_cells _) (by unfold maxLen; omega) (by omega) (by simp; omega) ?_; intro v' w5 hown' hgrow _) | (at_builtin; refine wpList_append_own _ rfl _ _ 40 rfl w.heap.size 9 i0 (.string ⟨#[]⟩) 1 16 Tryz.underlying40 hi hz0 hz1 hz2 rfl (by decide) _ _ _ rfl (HOw2.out.alloc _) ⟨w2.heap.size, 0, none⟩ 1 1 [.string tx] rfl rfl (one_news rfl (by rw [HTX.out]; simp [lineS, hb0])) (one_cells _) (by unfold maxLen; omega) (by omega) (by simp; omega) ?_; intro v' w5 hown' hgrow _))
          go_roundw
          case rel =>
            refine ⟨k + 1, by omega, by go_num, ?_, ?_⟩
            · rw [HS.out, ← HTX.out, ← List.cons_append, strs_snoc, ← Nat.add_assoc]
              exact hown'
            · first
                | exact ((((HBel.out.alloc hs0 _).trans (hw2.mono (by simp; omega))).trans (hw3.mono (by omega))).alloc (by omega) _).grown hgrow (by simp; omega) (fun k hk => ((HOwn.out).lt k hk).1)
                | exact (((HBel.out.alloc hs0 _).trans (hw2.mono (by simp; omega))).alloc (by omega) _).grown hgrow (by simp; omega) (fun k hk => ((HOwn.out).lt k hk).1)
          case measure => simp [intOf]; omega
    · obtain rfl : k = ls.length := by omega
      have HBel2 := HBel.out.size
      obtain ⟨g, cap', rfl, hg, hcap⟩ := owns_some HOwn.out (by omega)
      have hxl : (drawHead base :: ls.map lineS).length = 1 + ls.length := by simp; omega
      have CJ := Lib.hid (owns_join (sep := ⟨#[10]⟩) (m := 8000000) (xs := drawHead base :: ls.map lineS) (c := cap') (show _ from by rw [hxl]; have := HOwn.out; rw [List.take_of_length_le (by simp)] at this; exact this) hg (by rw [hxl]; omega) (by rw [hxl]; exact hcap)
        (fun x hx => by
          rcases List.mem_cons.1 hx with rfl | hx
          · omega
          · obtain ⟨L, hL, rfl⟩ := List.mem_map.1 hx; exact lineS_len (HO.out L hL)) (by rw [hxl, show (⟨#[10]⟩ : ByteArray).size = 1 from rfl]; omega))
      have HQ := Lib.hid (draw_eq base ls)
      rw [hxl] at CJ
      clear hg hcap hxl
      go_wp2_with (go_at_call 13; refine CJ.out.mono ?_; rintro e w' ⟨rfl, hw'⟩)
      go_ret
      refine ⟨?_, HBel.out.trans (hw'.mono HBel.out.size)⟩
      rw [← HQ.out]
      rfl
end Go.Proofs.YtdicpkjblflgbaaGreatDoor
