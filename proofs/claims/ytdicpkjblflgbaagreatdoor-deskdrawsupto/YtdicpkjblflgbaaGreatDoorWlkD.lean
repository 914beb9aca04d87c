/-
  The reference's Boxes, walked. Conditions: those that each statement below names, and no other.
-/
import Derived.Test.YtdicpkjblflgbaaGreatDoorWlkC
import Derived.Deep.DeepMust
set_option linter.all false

/-
  The desk's Boxes: the walk.
-/
namespace Go.Proofs.YtdicpkjblflgbaaGreatDoor
open Go Go.RowKit

theorem owns_zero {w : World} {base : Nat} {e : TypeId} {size : Nat} {v : Value} {xs : List Value} (h : w.ownsRow base e size v 0 xs) : ∃ a c, v = .slice a 0 c := by
  rcases h.2 with h | ⟨g, cap', cur, h, _⟩
  · exact ⟨_, _, h.1⟩
  · exact ⟨_, _, h⟩
theorem owns_some {w : World} {base : Nat} {e : TypeId} {size : Nat} {v : Value} {n : Nat} {xs : List Value} (h : w.ownsRow base e size v n xs) (hn : 0 < n) : ∃ g c, v = .slice (some ⟨g, 0, none⟩) n c ∧ g < w.heap.size ∧ n ≤ c := by
  rcases h.2 with h | ⟨g, cap', cur, h, hb, hg, hc, _⟩
  · omega
  · exact ⟨g, cap', h, lt_of_block hg, hc⟩
theorem owns_join {w : World} {base g c m : Nat} {xs : List ByteArray} {sep : ByteArray} (h : w.ownsRow base 9 1 (.slice (some ⟨g, 0, none⟩) xs.length c) xs.length (strs xs)) (hg : g < w.heap.size) (hN : xs.length ≤ 140737488355328) (hc : xs.length ≤ c)
    (hm : ∀ x ∈ xs, x.size ≤ m) (hl : xs.length * (m + sep.size) ≤ 140737488355328) :
    Calls Tryz.prog 13 #[.slice (some ⟨g, 0, none⟩) xs.length c, .string sep] w fun e w' => e = .returned (.string (joinS sep xs)) ∧ Below w.heap.size w w' :=
  Tryz.strings_Join g 0 c xs sep w (fun j x hj => by
    have := h.cells (g := g) rfl j (.string x) (by simp [strs]; simpa using hj)
    rcases j with _ | j <;> simpa [Addr.add] using this) hg hN hc (Nat.le_trans (joinS_len hm) hl)

set_option maxRecDepth 100000 in
theorem dboxes_any {e3 e6 : Nat} (x0 x1 x2 x3 x4 x5 x6 : Value) (bs : List Bx) (at0 : Option Addr) (cap : Nat) (w : World) (hO : ∀ B ∈ bs, B.fine) (hlen : bs.length ≤ 300) (hb : BsAt w at0 bs) (hE : Env0 e3 e6 w) :
    Calls Tryz.prog 5 #[.agg #[x0, x1, x2, x3, x4, x5, x6, .slice at0 bs.length cap]] w fun e w' => e = .returned (.string (boxesS bs)) ∧ Below w.heap.size w w' := by
  obtain ⟨i0, hi, hz0, hz1, hz2⟩ := info_parts info9
  have HG := Lib.hid hb
  have HO := Lib.hid hO
  have HE := Lib.hid hE
  clear hb hO hE
  go_enter Tryz.func5, Tryz.ntmps5
  go_wp2
  go_loopw [3, 12] (fun v i wr => ∃ k : Nat, k ≤ bs.length ∧ i = .int .i64 k ∧ wr.ownsRow w.heap.size 9 1 v k (strs ((bs.map boxS).take k)) ∧ Below w.heap.size w wr) (fun _ i _ => bs.length - (intOf i).toNat)
  case atStart => exact ⟨0, Nat.zero_le _, rfl, World.ownsRow_nil _ _ _ _, (Below.refl _ _).alloc (Nat.le_refl _) _⟩
  case round =>
    obtain ⟨k, hk, rfl, hown, hbel⟩ := hrel
    have HBel := Lib.hid hbel
    have HOwn := Lib.hid hown
    clear hbel hown
    by_cases hlt : k < bs.length
    · obtain ⟨B, hBk⟩ : ∃ g, bs[k]? = some g := ⟨_, List.getElem?_eq_getElem hlt⟩
      have HBo := Lib.hid (HO.out B (List.mem_of_getElem? hBk))
      have HS := Lib.hid (take_map_snoc (f := boxS) hBk)
      obtain ⟨blk, off, rfl, hblk, hcs⟩ := (HG.out.kept HBel.out) (by omega)
      obtain ⟨c0, c1, c2, c3, c4, atg, capg, c5, hgs⟩ := hcs k B hBk
      have HGs := Lib.hid hgs
      clear hcs hgs hBk
      have HH := Lib.hid (head_eq B)
      obtain ⟨r0, r1, r2, r3, r4⟩ := HBo.out.1.1
      have HR0 := Lib.hid r0
      have HR1 := Lib.hid r1
      have HR2 := Lib.hid r2
      have HR3 := Lib.hid r3
      have HR4 := Lib.hid r4
      have hj5 := join5_len r0 r1 r2 r3 r4
      clear r0 r1 r2 r3 r4
      have hhl := boxHead_len HBo.out.1.1
      have hgl := HBo.out.2
      have HE1 := Lib.hid (HE.out.kept HBel.out)
      go_wp2_with (go_at_call 11; refine (join5' _ _ _ _ _ _ _ (by simp) HR0.out HR1.out HR2.out HR3.out HR4.out (HE1.out.kept ((Below.refl _ _).alloc (Nat.le_refl _) _))).mono ?_; rintro e w1 ⟨rfl, hw1⟩; have cb : w1.cell? ⟨wr.heap.size, 5, none⟩ = some (.slice atg B.gs.length capg) := cell_below hw1 (by simp))
      have HW1 := Lib.hid hw1
      have HB1 : Hid (Below w.heap.size w w1) := Lib.hid ((HBel.out.alloc HBel.out.size _).trans (hw1.mono (by have := HBel.out.size; simp; omega)))
      have HOw1 := Lib.hid (owns_below (HOwn.out.alloc _) hw1)
      have HWR := Lib.hid (((Below.refl wr.heap.size wr).alloc (Nat.le_refl _) _).trans (hw1.mono (by simp)))
      have hsz1 : wr.heap.size + 1 ≤ w1.heap.size := by have := hw1.size; simp at this; omega
      clear hw1
      obtain ⟨hd, hhd⟩ : ∃ s, s = boxHead B := ⟨_, rfl⟩
      have HD := Lib.hid hhd
      rw [← hhd] at hhl
      clear hhd
      go_loopw [6, 32] (fun s i w2 => ∃ j : Nat, j ≤ B.gs.length ∧ i = .int .i64 j ∧ s = .string (gFold hd (B.gs.take j)) ∧ Below w1.heap.size w1 w2) (fun _ i _ => B.gs.length - (intOf i).toNat)
      case atStart => exact ⟨0, Nat.zero_le _, rfl, by rw [HD.out, ← HH.out]; rfl, Below.refl _ _⟩
      case round =>
        obtain ⟨j, hj, rfl, rfl, hb2⟩ := hrel
        have HB2 := Lib.hid hb2
        clear hb2
        have hsl := gFold_take (s := hd) (k := j) HBo.out.1.2
        by_cases hjt : j < B.gs.length
        · obtain ⟨g, hgk⟩ : ∃ g, B.gs[j]? = some g := ⟨_, List.getElem?_eq_getElem hjt⟩
          obtain ⟨q0, q1, q2, q3⟩ := HBo.out.1.2 g (List.mem_of_getElem? hgk)
          have Q0 := Lib.hid q0
          have Q1 := Lib.hid q1
          have Q2 := Lib.hid q2
          have Q3 := Lib.hid q3
          have HS2 := Lib.hid (gFold_succ (s := hd) hgk)
          have hr4 := join4_len q0 q1 q2 q3
          have hr5 : (repS (joinS ⟨#[32]⟩ [numS g.f, numS g.i, numS g.x, numS g.y])).size ≤ 88 := by rw [repS_size]; exact hr4
          obtain ⟨blk2, off2, rfl, hblk2, hcs2⟩ := ((HGs.out.kept HWR.out).kept HB2.out) (by omega)
          obtain ⟨d0, d1, d2, d3⟩ := hcs2 j g hgk
          clear hcs2 q0 q1 q2 q3
          obtain ⟨sk, hsk⟩ : ∃ s, s = gFold hd (B.gs.take j) := ⟨_, rfl⟩
          rw [← hsk] at hsl ⊢
          have HK := Lib.hid hsk
          clear hsk hgk
          have HE2 := Lib.hid ((HE1.out.kept HWR.out).kept HB2.out)
          go_wp2_with (first | (go_at_call 11; refine (join4' _ _ _ _ _ _ (by simp) Q0.out Q1.out Q2.out Q3.out (HE2.out.kept ((Below.refl _ _).alloc (Nat.le_refl _) _))).mono ?_; rintro e w3 ⟨rfl, hw3⟩) | (go_at_call 12; refine (rep_c _ _ (by omega) ((HE2.out.kept ((Below.refl _ _).alloc (Nat.le_refl _) _)).kept hw3)).mono ?_; rintro e w4 ⟨rfl, hw4⟩))
          go_roundw
          case rel => exact ⟨j + 1, by omega, by go_num, by rw [HS2.out, ← HK.out, ← glyph_eq], HB2.out.trans ((((Below.refl _ _).alloc (Nat.le_refl _) _).trans (hw3.mono (by simp))).trans (hw4.mono (by have := hw3.size; simp at this; omega)) |>.mono HB2.out.size)⟩
          case measure => simp [intOf]; omega
        · obtain rfl : j = B.gs.length := by omega
          have HT := Lib.hid (show gFold hd (B.gs.take B.gs.length) ++ ⟨#[41]⟩ = boxS B by rw [List.take_length, HD.out]; rfl)
          obtain ⟨sk, hsk⟩ : ∃ s, s = gFold hd (B.gs.take B.gs.length) := ⟨_, rfl⟩
          rw [← hsk] at hsl ⊢
          have HK := Lib.hid hsk
          clear hsk
          go_wp2_with (at_builtin; go_must (refine wpList_append_own _ rfl _ _ 40 rfl w.heap.size 9 i0 (.string ⟨#[]⟩) 1 16 Tryz.underlying40 hi hz0 hz1 hz2 rfl (by decide) _ _ _ rfl ((owns_below HOw1.out HB2.out).alloc _) ⟨wr.heap.size, 0, none⟩ 1 1 [.string (sk ++ ⟨#[41]⟩)] rfl rfl ?c1 ?c2 ?c3 ?c4 ?c5 ?_))
          case c1 =>
            intro j u hj
            match j, hj with
            | 0, hj => simp at hj; subst hj; simp [Addr.add]
          case c2 => intro u hu; simp at hu; subst hu; rfl
          case c3 => unfold maxLen; omega
          case c4 => omega
          case c5 => have := HB1.out.size; have := HB2.out.size; simp; omega
          · intro v' w5 hown' hgrow _
            have HOw2 := Lib.hid hown'
            have HB3 : Hid (Below w.heap.size w w5) := Lib.hid ((HB1.out.trans (HB2.out.mono HB1.out.size)).alloc (by have := HB1.out.size; have := HB2.out.size; omega) _ |>.grown hgrow (by have := HB1.out.size; have := HB2.out.size; simp; omega) (fun k hk => ((HOwn.out).lt k hk).1))
            clear hown' hgrow
            go_wp2
            go_roundw
            case rel => exact ⟨k + 1, by omega, by go_num, by rw [HS.out, strs_snoc, ← HT.out, ← HK.out]; exact HOw2.out, HB3.out⟩
            case measure => simp [intOf]; omega
    · obtain rfl : k = bs.length := by omega
      have HBel2 := HBel.out.size
      by_cases h0 : bs = []
      · subst h0
        obtain ⟨a0, ac, rfl⟩ := owns_zero HOwn.out
        go_wp2_with (go_at_call 13; refine (Tryz.strings_Join_none a0 ac ⟨#[32]⟩ _).mono ?_; rintro e w' ⟨rfl, rfl⟩)
        go_ret
        exact ⟨rfl, HBel.out⟩
      · have hpos : 0 < bs.length := List.length_pos_iff.2 h0
        obtain ⟨g, cap', rfl, hg, hcap⟩ := owns_some HOwn.out hpos
        have CJ := Lib.hid (owns_join (sep := ⟨#[32]⟩) (m := 26511) (xs := bs.map boxS) (show _ from by rw [List.length_map]; rw [List.take_of_length_le (by simp)] at HOwn; exact HOwn.out) hg (by rw [List.length_map]; omega) (by rw [List.length_map]; exact hcap)
          (fun x hx => by obtain ⟨B, hB, rfl⟩ := List.mem_map.1 hx; exact boxS_len (HO.out B hB)) (by rw [List.length_map, show (⟨#[32]⟩ : ByteArray).size = 1 from rfl]; omega))
        have HQ := Lib.hid (boxes_eq bs)
        clear hg hcap h0
        rw [List.length_map] at CJ
        go_wp2_with (go_at_call 13; refine CJ.out.mono ?_; rintro e w' ⟨rfl, hw'⟩)
        go_ret
        refine ⟨?_, HBel.out.trans (hw'.mono HBel.out.size)⟩
        rw [← HQ.out]
        rfl
end Go.Proofs.YtdicpkjblflgbaaGreatDoor
