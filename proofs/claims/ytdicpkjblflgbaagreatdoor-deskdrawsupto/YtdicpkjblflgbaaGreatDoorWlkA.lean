/-
  The desk's Num and box, walked. Conditions: those that each statement below names, and no other.
-/
import Derived.Test.YtdicpkjblflgbaaGreatDoorLawA
import Derived.Test.YtdicpkjblflgbaaGreatDoorShel
import Derived.ProofKit
import Derived.Laws.DeepStrings4
import Derived.Lib.Hide
import Derived.Deep.QuietTactic
import Derived.BigQuiet
set_option linter.all false

/-
  The reference's Num: a number's decimal text.
-/
namespace Go.Proofs.YtdicpkjblflgbaaGreatDoor
open Go Go.RowKit

theorem num_any (n : Int) (w : World) (h0 : -9223372036854775808 ≤ n) (h1 : n ≤ 9223372036854775807) :
    Calls Tryz.prog 16 #[.int .i64 n] w fun e w' => e = .returned (.string ⟨(Lib.itoa n).toArray⟩) ∧ w = w' := by
  by_cases hn : n < 0
  all_goals
    have HS := Lib.hid (numInv_start (U := n.natAbs) (by omega))
    have e1 : n < 0 → IntKind.u64.wrap (-IntKind.u64.wrap n) = (n.natAbs : Int)  := u64_neg h0
    have E1 := Lib.hid e1; clear e1
    go_enter Tryz.func16, Tryz.ntmps16
    go_wp2
    go_loop [3, 4] (fun a b => ∃ (u : Nat) (l : List UInt8), NumInv n.natAbs u l ∧ a = .int .u64 (u : Int) ∧ b = .string ⟨l.toArray⟩) (fun a b => numMea a b)
    case atStart => first | exact ⟨n.natAbs, [], HS.out, by rw [E1.out hn], rfl⟩ | exact ⟨n.natAbs, [], HS.out, by rw [show (n.natAbs : Int) = n by omega], rfl⟩
    case round =>
      obtain ⟨u, l, hi, rfl, rfl⟩ := hrel
      have hl := hi.len
      have hu := hi.2.1
      have H := Lib.hid hi
      clear hi
      by_cases hc : u = 0 ∧ l ≠ []
      · obtain ⟨rfl, hl0⟩ := hc
        have hd := Lib.hid (H.out.done hl0)
        clear H HS
        have hl1 : l.isEmpty = false := by simpa using hl0
        have hl2 : (!l.isEmpty) = true := by simpa using hl0
        clear hl0
        go_wp2
        go_ret
        refine ⟨?_, rfl⟩
        first | (rw [byte_cons, hd.out, itoa_neg hn]; rfl) | (rw [hd.out, itoa_pos (Int.not_lt.2 hn)]; rfl)
      · have H2 := Lib.hid (H.out.step hc)
        have M2 := Lib.hid (numMea_step (UInt8.ofNat (48 + u % 10)) hc)
        by_cases hu0 : 0 < u
        · clear hc
          go_wp2
          all_goals first
            | (exfalso; omega)
            | (rw [digit_cons (by omega)]
               go_round
               case rel => exact ⟨u / 10, _, H2.out, by go_num, rfl⟩
               case measure => exact M2.out)
        · obtain rfl : u = 0 := by omega
          obtain rfl : l = [] := by simpa using hc
          clear hc
          go_wp2
          go_round
          case rel => exact ⟨0, _, H2.out, rfl, rfl⟩
          case measure => exact M2.out
end Go.Proofs.YtdicpkjblflgbaaGreatDoor

/-
  The reference's box.
-/
namespace Go.Proofs.YtdicpkjblflgbaaGreatDoor
open Go Go.RowKit

theorem num_q (n : Int) (w : World) (h : R64 n) : Calls Tryz.prog 16 #[.int .i64 n] w fun e w' => e = .returned (.string (numS n)) ∧ w' = w := (num_any n w h.1 h.2).mono fun _ _ ⟨he, hw⟩ => ⟨he, hw.symm⟩

theorem below_drewN {B : Nat} {w w' : World} (n : Nat) (h : Below B w w') : Below B w (w'.drewN n) := ⟨h.os, h.tape, h.output, h.size, h.block⟩
set_option maxRecDepth 100000 in
theorem box_any (B : Bx) (at0 : Option Addr) (cap : Nat) (w : World) (hB : B.ok) (hlen : B.gs.length ≤ 300) (hg : GsAt w at0 B.gs) :
    Calls Tryz.prog 14 #[.agg #[.int .i64 B.a, .int .i64 B.b, .int .i64 B.c, .int .i64 B.d, .int .i64 B.e, .slice at0 B.gs.length cap]] w fun e w' => e = .returned (.string (boxS B)) ∧ Below w.heap.size w w' := by
  obtain ⟨a, b, c, d, e, gs⟩ := B
  obtain ⟨⟨ha, hb, hc, hd, he⟩, hgs⟩ := hB
  simp only at ha hb hc hd he hgs hg hlen ⊢
  have HH := Lib.hid (boxHead_len (b := ⟨a, b, c, d, e, gs⟩) ⟨ha, hb, hc, hd, he⟩)
  have HG := Lib.hid hg
  have HO := Lib.hid hgs
  have la := numS_len ha
  have lb := numS_len hb
  have lc := numS_len hc
  have ld := numS_len hd
  have le := numS_len he
  clear hg hgs
  go_enter Tryz.func14, Tryz.ntmps14
  go_wp2
  go_quiet ((go_at_call 16; exact Calls.quiet_of_same (num_q _ _ (by assumption))))
  go_wp2
  obtain ⟨hd, hhd⟩ : ∃ s, s = boxHead ⟨a, b, c, d, e, gs⟩ := ⟨_, rfl⟩
  have HD := Lib.hid hhd
  have hdl : hd.size ≤ 110 := by rw [hhd]; exact HH.out
  clear hhd HH
  go_loopw [3, 4] (fun s i wr => ∃ k : Nat, k ≤ gs.length ∧ i = .int .i64 k ∧ s = .string (gFold hd (gs.take k)) ∧ wr.cell? ⟨w.heap.size, 5, none⟩ = some (.slice at0 gs.length cap) ∧ w.heap.size < wr.heap.size ∧ Below w.heap.size w wr) (fun _ i _ => gs.length - (intOf i).toNat)
  case atStart => exact ⟨0, Nat.zero_le _, rfl, by rw [HD.out]; rfl, by simp, by simp, below_drewN _ ((Below.refl _ _).alloc (Nat.le_refl _) _)⟩
  case round =>
    obtain ⟨k, hk, rfl, rfl, hcell, hsz, hbel⟩ := hrel
    have HBel := Lib.hid hbel
    clear hbel
    have hsl := gFold_take (s := hd) (k := k) HO.out
    by_cases hlt : k < gs.length
    · obtain ⟨g, hgk⟩ : ∃ g, gs[k]? = some g := ⟨_, List.getElem?_eq_getElem hlt⟩
      have hgo := HO.out g (List.mem_of_getElem? hgk)
      have HS := Lib.hid (gFold_succ (s := hd) hgk)
      obtain ⟨blk, off, rfl, hblk, hcs⟩ := (HG.out.kept HBel.out) (by omega)
      obtain ⟨c0, c1, c2, c3⟩ := hcs k g hgk
      clear hcs
      obtain ⟨sk, hsk⟩ : ∃ s, s = gFold hd (gs.take k) := ⟨_, rfl⟩
      rw [← hsk] at hsl ⊢
      have HK := Lib.hid hsk
      have HGK := Lib.hid hgk
      clear hsk hgk
      go_wp2
      obtain ⟨r0, r1, r2, r3⟩ := hgo
      have m0 := numS_len r0
      have m1 := numS_len r1
      have m2 := numS_len r2
      have m3 := numS_len r3
      go_quiet ((go_at_call 16; exact Calls.quiet_of_same (num_q _ _ (by assumption))))
      go_wp2
      go_roundw
      case rel => exact ⟨k + 1, by omega, by go_num, by rw [HS.out, ← HK.out]; rfl, (((Below.refl wr.heap.size wr).alloc (Nat.le_refl _) _).cell (p := ⟨w.heap.size, 5, none⟩) hsz).trans hcell, by simp; omega, below_drewN _ (HBel.out.alloc (by omega) _)⟩
      case measure => simp [intOf]; omega
    · obtain rfl : k = gs.length := by omega
      have HB2 := Lib.hid (show gFold hd (gs.take gs.length) = gFold hd gs by rw [List.take_length])
      obtain ⟨sk, hsk⟩ : ∃ s, s = gFold hd (gs.take gs.length) := ⟨_, rfl⟩
      rw [← hsk] at hsl ⊢
      have HK := Lib.hid hsk
      clear hsk
      go_wp2
      go_ret
      refine ⟨?_, HBel.out⟩
      rw [HK.out, HB2.out, HD.out]
      rfl
end Go.Proofs.YtdicpkjblflgbaaGreatDoor
