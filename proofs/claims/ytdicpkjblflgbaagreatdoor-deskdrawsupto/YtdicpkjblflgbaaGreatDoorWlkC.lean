/-
  The reference's join, ReplaceAll and Itoa, walked. Conditions: those that each statement below names, and no other.
-/
import Derived.Test.YtdicpkjblflgbaaGreatDoorWlkB
import Derived.Test.YtdicpkjblflgbaaGreatDoorAlvB
import Derived.Test.YtdicpkjblflgbaaGreatDoorLawA
set_option linter.all false

/-
  What the law's callees look for in the world; Itoa.
-/
namespace Go.Proofs.YtdicpkjblflgbaaGreatDoor
open Go Go.RowKit Go.Sort

structure Env0 (e3 e6 : Nat) (w : World) : Prop where
  laid : Laid e3 e6 w
  ml : ∃ m, w.cell? ⟨0, 0, none⟩ = some (.int .i64 m)

theorem Laid.kept {e3 e6 : Nat} {w w' : World} (h : Laid e3 e6 w) (hb : Below w.heap.size w w') : Laid e3 e6 w' := by
  obtain ⟨⟨f3, h3⟩, ⟨f6, h6⟩⟩ := h
  exact ⟨⟨f3, (hb.block 3 (lt_of_block h3)).trans h3⟩, ⟨f6, (hb.block 6 (lt_of_block h6)).trans h6⟩⟩
theorem Env0.kept {e3 e6 : Nat} {w w' : World} (h : Env0 e3 e6 w) (hb : Below w.heap.size w w') : Env0 e3 e6 w' :=
  ⟨h.laid.kept hb, h.ml.imp fun _ hm => cell_below hb hm⟩

theorem g3 : Tryz.prog.globalNamed "internal/strconv.uint64pow10" = some 3 := by kernel_rfl
theorem pow10_eq : Lib.pow10Tab = l3 := by decide
theorem Laid.tab {e3 e6 : Nat} {w : World} (h : Laid e3 e6 w) : Lib.TabIs Tryz.prog w "internal/strconv.uint64pow10" .u64 Lib.pow10Tab := by
  obtain ⟨⟨f3, h3⟩, _⟩ := h
  unfold Lib.TabIs World.var?
  rw [g3, pow10_eq]
  simp only [Option.bind_some, h3]
  rfl

theorem itoa_c {e3 e6 : Nat} (n : Int) (w : World) (h : R64 n) (hE : Env0 e3 e6 w) : Calls Tryz.prog 15 #[.int .i64 n] w fun e w' => e = .returned (.string (numS n)) ∧ Below w.heap.size w w' :=
  (Tryz.strconv_Itoa n h.1 h.2 w hE.laid.tab).mono fun e w' ⟨he, k, os, hw⟩ => ⟨he, by
    subst hw
    refine ⟨rfl, rfl, rfl, ?_, fun i hi => ?_⟩
    · simp [grow, World.drewN]
    · simp only [grow, World.drewN]
      rw [Array.getElem?_append_left hi]⟩

end Go.Proofs.YtdicpkjblflgbaaGreatDoor

/-
  The desk's join.
-/
namespace Go.Proofs.YtdicpkjblflgbaaGreatDoor
open Go Go.RowKit

theorem info9 : (Tryz.prog.info? 9).map (fun i => (i.zero, i.size, i.bytes)) = some (some (.string ⟨#[]⟩), 1, 16) := by kernel_rfl

def NsAt (w : World) (at0 : Option Addr) (ns : List Int) : Prop := 0 < ns.length → ∃ b off, at0 = some ⟨b, off, none⟩ ∧ b < w.heap.size ∧ ∀ (k : Nat) (n : Int), ns[k]? = some n → w.cell? ⟨b, off + k, none⟩ = some (.int .i64 n)
theorem NsAt.kept {w w' : World} {at0 : Option Addr} {ns : List Int} (h : NsAt w at0 ns) (hb : Below w.heap.size w w') : NsAt w' at0 ns := fun hl => by
  obtain ⟨b, off, ha, hlt, hc⟩ := h hl
  exact ⟨b, off, ha, Nat.lt_of_lt_of_le hlt hb.size, fun k n hk => cell_below hb (hc k n hk)⟩

theorem grownBy_below {w w' : World} (hb : Below w.heap.size w w') : w.grownBy w' none := ⟨hb.os, hb.tape, hb.output, hb.size, fun k hk _ => hb.block k hk⟩
theorem owns_below {w w' : World} {base : Nat} {e : TypeId} {size : Nat} {v : Value} {n : Nat} {xs : List Value} (h : w.ownsRow base e size v n xs) (hb : Below w.heap.size w w') : w'.ownsRow base e size v n xs :=
  h.kept (grownBy_below hb) (by cases hv : v.ownBlock <;> simp)

/-- The texts gathered so far. -/
def strs (xs : List ByteArray) : List Value := xs.map Value.string
theorem strs_snoc (xs : List ByteArray) (x : ByteArray) : strs (xs ++ [x]) = strs xs ++ [.string x] := by simp [strs]

/-- Behind Itoa: what a round of a gathering loop holds. -/
theorem join_step {ns : List Int} {k : Nat} {n : Int} (h : ns[k]? = some n) : (ns.map numS).take (k + 1) = (ns.map numS).take k ++ [numS n] := by
  obtain ⟨hk, rfl⟩ := List.getElem?_eq_some_iff.1 h
  rw [List.take_succ_eq_append_getElem (by simpa using hk)]
  simp

set_option maxRecDepth 100000 in
theorem join_any {e3 e6 : Nat} (ns : List Int) (at0 : Option Addr) (cap : Nat) (w : World) (hO : ∀ n ∈ ns, R64 n) (hl0 : 0 < ns.length) (hlen : ns.length ≤ 300) (hN : NsAt w at0 ns) (hE : Env0 e3 e6 w) :
    Calls Tryz.prog 11 #[.slice at0 ns.length cap] w fun e w' => e = .returned (.string (joinS ⟨#[32]⟩ (ns.map numS))) ∧ Below w.heap.size w w' := by
  obtain ⟨i0, hi, hz0, hz1, hz2⟩ := info_parts info9
  have HN := Lib.hid hN
  have HO := Lib.hid hO
  have HE := Lib.hid hE
  clear hN hO hE
  go_enter Tryz.func11, Tryz.ntmps11
  go_wp2
  go_loopw [3, 8] (fun v i wr => ∃ k : Nat, k ≤ ns.length ∧ i = .int .i64 k ∧ wr.ownsRow w.heap.size 9 1 v k (strs ((ns.map numS).take k)) ∧ Below w.heap.size w wr) (fun _ i _ => ns.length - (intOf i).toNat)
  case atStart => exact ⟨0, Nat.zero_le _, rfl, World.ownsRow_nil _ _ _ _, Below.refl _ _⟩
  case round =>
    obtain ⟨k, hk, rfl, hown, hbel⟩ := hrel
    by_cases hlt : k < ns.length
    · obtain ⟨n, hnk⟩ : ∃ g, ns[k]? = some g := ⟨_, List.getElem?_eq_getElem hlt⟩
      have HR := Lib.hid (HO.out n (List.mem_of_getElem? hnk))
      have HS := Lib.hid (join_step hnk)
      obtain ⟨blk, off, rfl, hblk, hcs⟩ := (HN.out.kept hbel) (by omega)
      have c0 := hcs k n hnk
      have HOwn := Lib.hid hown
      have HBel := Lib.hid hbel
      clear hcs hown hbel hnk
      go_wp2_with (first | (go_at_call 15; refine (itoa_c n _ HR.out (HE.out.kept HBel.out)).mono ?_; rintro e w' ⟨rfl, hw'⟩) | (at_builtin; refine wpList_append_own _ rfl _ _ 40 rfl w.heap.size 9 i0 (.string ⟨#[]⟩) 1 16 Tryz.underlying40 hi hz0 hz1 hz2 rfl (by decide) _ _ _ rfl ((owns_below HOwn.out hw').alloc _) ⟨w'.heap.size, 0, none⟩ 1 1 [.string (numS n)] rfl rfl ?c1 ?c2 ?c3 ?c4 ?c5 ?_))
      case c1 =>
        intro j u hj
        match j, hj with
        | 0, hj => simp at hj; subst hj; simp [Addr.add]
      case c2 => intro u hu; simp at hu; subst hu; rfl
      case c3 => unfold maxLen; omega
      case c4 => omega
      case c5 => have := HBel.out.size; have := hw'.size; simp; omega
      · intro v' w1 hown' hgrow _
        have HOw2 := Lib.hid hown'
        have HB2 : Hid (Below w.heap.size w w1) := Lib.hid ((HBel.out.trans (hw'.mono HBel.out.size)).alloc (by have := HBel.out.size; have := hw'.size; omega) _ |>.grown hgrow (by have := HBel.out.size; have := hw'.size; simp; omega) (fun k hk => ((HOwn.out).lt k hk).1))
        clear hown' hgrow
        go_wp2
        go_roundw
        case rel => exact ⟨k + 1, by omega, by go_num, by rw [HS.out, strs_snoc]; exact HOw2.out, HB2.out⟩
        case measure => simp [intOf]; omega
    · obtain rfl : k = ns.length := by omega
      rw [List.take_of_length_le (by simp)] at hown
      obtain ⟨g, cap', cur, rfl, hbase, hg, hcap, hmax, hcur, htake⟩ := hown.2.resolve_left (by intro h; omega)
      have cJ := Tryz.strings_Join g 0 cap' (ns.map numS) ⟨#[32]⟩ wr (fun j x hj => by
        have := hown.cells (g := g) rfl j (.string x) (by simp [strs]; simpa using hj)
        rcases j with _ | j <;> simpa [Addr.add] using this) (lt_of_block hg) (by simp; omega) (by simpa using hcap) (Nat.le_trans (joinS_len (m := 21) fun x hx => by obtain ⟨n, hn, rfl⟩ := List.mem_map.1 hx; exact numS_len (HO.out n hn)) (by rw [List.length_map, show (⟨#[32]⟩ : ByteArray).size = 1 from rfl]; omega))
      simp only [List.length_map] at cJ
      have CJ := Lib.hid cJ
      have HBel := Lib.hid hbel
      clear cJ hown hbel hbase hg hcap hmax hcur htake
      go_wp2_with (go_at_call 13; refine CJ.out.mono ?_; rintro e w' ⟨rfl, hw'⟩)
      go_ret
      refine ⟨?_, HBel.out.trans (hw'.mono HBel.out.size)⟩
      rw [joinS, List.map_map]
      rfl
end Go.Proofs.YtdicpkjblflgbaaGreatDoor

/-
  The desk's Boxes.
-/
namespace Go.Proofs.YtdicpkjblflgbaaGreatDoor
open Go Go.RowKit

theorem rep_c {e3 e6 : Nat} (s : ByteArray) (w : World) (hs : s.size ≤ 1000000) (hE : Env0 e3 e6 w) : Calls Tryz.prog 12 #[.string s, .string ⟨#[32]⟩, .string ⟨#[47]⟩] w fun e w' => e = .returned (.string (repS s)) ∧ Below w.heap.size w w' := by
  obtain ⟨m, hm⟩ := hE.ml
  have hc := Lib.countB_le ⟨#[32]⟩ (Nat.le_refl 1) _ s (Nat.le_refl _)
  exact Tryz.strings_ReplaceAll s ⟨#[32]⟩ ⟨#[47]⟩ m w (by omega) hm (Nat.le_refl 1) (by rw [show (⟨#[47]⟩ : ByteArray).size = 1 from rfl]; omega)
theorem repS_size (s : ByteArray) : (repS s).size = s.size := by
  have : bl (repS s) = swap1 32 47 (bl s) := replaceAll_one (c := 32) (d := 47) (by decide) _
  have h2 := congrArg List.length this
  rw [swap1, List.length_map] at h2
  exact h2

theorem join4 {e3 e6 : Nat} (a b c d : Int) (X : World) (ha : R64 a) (hb : R64 b) (hc : R64 c) (hd : R64 d) (hE : Env0 e3 e6 X) :
    Calls Tryz.prog 11 #[.slice (some ⟨X.heap.size, 0, none⟩) 4 4] (X.alloc (.cells #[.int .i64 a, .int .i64 b, .int .i64 c, .int .i64 d] 3)) fun e w' => e = .returned (.string (joinS ⟨#[32]⟩ [numS a, numS b, numS c, numS d])) ∧ Below X.heap.size X w' :=
  have hB : Below X.heap.size X (X.alloc (.cells #[.int .i64 a, .int .i64 b, .int .i64 c, .int .i64 d] 3)) := (Below.refl _ _).alloc (Nat.le_refl _) _
  (join_any [a, b, c, d] (some ⟨X.heap.size, 0, none⟩) 4 _ (by simp [ha, hb, hc, hd]) (by simp) (by simp) (fun _ => ⟨X.heap.size, 0, rfl, by simp, fun k n hk => by
    match k, hk with
    | 0, hk | 1, hk | 2, hk | 3, hk => simp at hk; subst hk; simp⟩) (hE.kept hB)).mono fun _ _ ⟨he, hw⟩ => ⟨he, hB.trans (hw.mono hB.size)⟩
theorem join5 {e3 e6 : Nat} (a b c d f : Int) (X : World) (ha : R64 a) (hb : R64 b) (hc : R64 c) (hd : R64 d) (hf : R64 f) (hE : Env0 e3 e6 X) :
    Calls Tryz.prog 11 #[.slice (some ⟨X.heap.size, 0, none⟩) 5 5] (X.alloc (.cells #[.int .i64 a, .int .i64 b, .int .i64 c, .int .i64 d, .int .i64 f] 3)) fun e w' => e = .returned (.string (joinS ⟨#[32]⟩ [numS a, numS b, numS c, numS d, numS f])) ∧ Below X.heap.size X w' :=
  have hB : Below X.heap.size X (X.alloc (.cells #[.int .i64 a, .int .i64 b, .int .i64 c, .int .i64 d, .int .i64 f] 3)) := (Below.refl _ _).alloc (Nat.le_refl _) _
  (join_any [a, b, c, d, f] (some ⟨X.heap.size, 0, none⟩) 5 _ (by simp [ha, hb, hc, hd, hf]) (by simp) (by simp) (fun _ => ⟨X.heap.size, 0, rfl, by simp, fun k n hk => by
    match k, hk with
    | 0, hk | 1, hk | 2, hk | 3, hk | 4, hk => simp at hk; subst hk; simp⟩) (hE.kept hB)).mono fun _ _ ⟨he, hw⟩ => ⟨he, hB.trans (hw.mono hB.size)⟩
theorem join4' {e3 e6 : Nat} (k : Nat) (a b c d : Int) (X : World) (hk : X.heap.size = k) (ha : R64 a) (hb : R64 b) (hc : R64 c) (hd : R64 d) (hE : Env0 e3 e6 X) :
    Calls Tryz.prog 11 #[.slice (some ⟨k, 0, none⟩) 4 4] (X.alloc (.cells #[.int .i64 a, .int .i64 b, .int .i64 c, .int .i64 d] 3)) fun e w' => e = .returned (.string (joinS ⟨#[32]⟩ [numS a, numS b, numS c, numS d])) ∧ Below X.heap.size X w' := by
  subst hk
  exact join4 a b c d X ha hb hc hd hE
theorem join5' {e3 e6 : Nat} (k : Nat) (a b c d f : Int) (X : World) (hk : X.heap.size = k) (ha : R64 a) (hb : R64 b) (hc : R64 c) (hd : R64 d) (hf : R64 f) (hE : Env0 e3 e6 X) :
    Calls Tryz.prog 11 #[.slice (some ⟨k, 0, none⟩) 5 5] (X.alloc (.cells #[.int .i64 a, .int .i64 b, .int .i64 c, .int .i64 d, .int .i64 f] 3)) fun e w' => e = .returned (.string (joinS ⟨#[32]⟩ [numS a, numS b, numS c, numS d, numS f])) ∧ Below X.heap.size X w' := by
  subst hk
  exact join5 a b c d f X ha hb hc hd hf hE
theorem join4_len {a b c d : Int} (ha : R64 a) (hb : R64 b) (hc : R64 c) (hd : R64 d) : (joinS ⟨#[32]⟩ [numS a, numS b, numS c, numS d]).size ≤ 88 :=
  joinS_size (m := 21) (by simp [numS_len ha, numS_len hb, numS_len hc, numS_len hd])
theorem join5_len {a b c d f : Int} (ha : R64 a) (hb : R64 b) (hc : R64 c) (hd : R64 d) (hf : R64 f) : (joinS ⟨#[32]⟩ [numS a, numS b, numS c, numS d, numS f]).size ≤ 110 :=
  joinS_size (m := 21) (by simp [numS_len ha, numS_len hb, numS_len hc, numS_len hd, numS_len hf])

theorem take_map_snoc {α : Type} {f : α → ByteArray} {l : List α} {k : Nat} {x : α} (h : l[k]? = some x) : (l.map f).take (k + 1) = (l.map f).take k ++ [f x] := by
  obtain ⟨hk, rfl⟩ := List.getElem?_eq_some_iff.1 h
  rw [List.take_succ_eq_append_getElem (by simpa using hk)]
  simp
end Go.Proofs.YtdicpkjblflgbaaGreatDoor
