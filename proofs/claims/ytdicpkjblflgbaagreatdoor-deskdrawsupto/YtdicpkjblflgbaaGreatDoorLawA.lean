/-
  The plain law: the two texts of a layout are one. Conditions: those that each statement below names, and no other.
-/
import Derived.Lib.ItoaNum
import Derived.WalkKit
import Derived.Lib.ReplaceLaws
import Derived.Lib.CountLaws
import Derived.Lib.IndexLaws
import Derived.Lib.IndexBytes
import Derived.Lib.Join
set_option linter.all false

/-
  A number's digits, one by one. Plain.
-/
namespace Go.Proofs.YtdicpkjblflgbaaGreatDoor
open Go Go.RowKit

/-- What is left of U, and what has been written. -/
def NumInv (U u : Nat) (l : List UInt8) : Prop := (∃ k, u < 10 ^ k ∧ l.length + k = 20) ∧ u ≤ 9223372036854775808 ∧ (l = [] ∧ u = U ∨ l ≠ [] ∧ (u = 0 ∧ l = Lib.decDigits U ∨ 0 < u ∧ Lib.decDigits u ++ l = Lib.decDigits U))

theorem numInv_start {U : Nat} (h : U ≤ 9223372036854775808) : NumInv U U [] := ⟨⟨20, by omega, rfl⟩, h, .inl ⟨rfl, rfl⟩⟩
theorem NumInv.len {U u : Nat} {l : List UInt8} (h : NumInv U u l) : l.length ≤ 20 := by obtain ⟨⟨k, _, hk⟩, _⟩ := h; omega
theorem NumInv.done {U : Nat} {l : List UInt8} (h : NumInv U 0 l) (hl : l ≠ []) : l = Lib.decDigits U := by
  rcases h.2.2 with ⟨h1, _⟩ | ⟨_, ⟨_, h1⟩ | ⟨h1, _⟩⟩
  · exact absurd h1 hl
  · exact h1
  · omega
theorem NumInv.step {U u : Nat} {l : List UInt8} (h : NumInv U u l) (hc : ¬ (u = 0 ∧ l ≠ [])) : NumInv U (u / 10) (UInt8.ofNat (48 + u % 10) :: l) := by
  obtain ⟨⟨k, hk, hlk⟩, hle, h⟩ := h
  have hd : Lib.decDigits u = if u < 10 then [UInt8.ofNat (48 + u)] else Lib.decDigits (u / 10) ++ [UInt8.ofNat (48 + u % 10)] := by
    rw [Lib.decDigits]; by_cases h : u < 10 <;> simp [h]
  refine ⟨?_, by omega, .inr ⟨by simp, ?_⟩⟩
  · cases k with
    | zero =>
      exfalso
      have hu : u = 0 := by simp at hk; exact hk
      have : l ≠ [] := by intro e; subst e; simp at hlk
      exact hc ⟨hu, this⟩
    | succ k => exact ⟨k, by rw [Nat.pow_succ] at hk; omega, by simp; omega⟩
  · have key : Lib.decDigits u ++ l = Lib.decDigits U := by
      rcases h with ⟨rfl, rfl⟩ | ⟨hl, ⟨h1, _⟩ | ⟨_, h1⟩⟩
      · simp
      · exact absurd ⟨h1, hl⟩ hc
      · exact h1
    by_cases h10 : u < 10
    · left
      rw [if_pos h10] at hd
      refine ⟨by omega, ?_⟩
      rw [← key, hd, Nat.mod_eq_of_lt h10]
      rfl
    · right
      rw [if_neg h10] at hd
      refine ⟨by omega, ?_⟩
      rw [← key, hd]
      simp

theorem digit_at {m : Nat} (h : m < 10) : (⟨#[48, 49, 50, 51, 52, 53, 54, 55, 56, 57]⟩ : ByteArray).extract m (m + 1) = ⟨#[UInt8.ofNat (48 + m)]⟩ := by
  match m, h with
  | 0, _ | 1, _ | 2, _ | 3, _ | 4, _ | 5, _ | 6, _ | 7, _ | 8, _ | 9, _ => rfl
theorem byte_cons (x : UInt8) (l : List UInt8) : (⟨#[x]⟩ : ByteArray) ++ ⟨l.toArray⟩ = ⟨(x :: l).toArray⟩ := by
  apply ByteArray.ext
  rw [ByteArray.data_append]
  simp
theorem digit_cons {m : Nat} (h : m < 10) (l : List UInt8) : (⟨#[48, 49, 50, 51, 52, 53, 54, 55, 56, 57]⟩ : ByteArray).extract m (m + 1) ++ ⟨l.toArray⟩ = ⟨(UInt8.ofNat (48 + m) :: l).toArray⟩ := by
  rw [digit_at h, byte_cons]

theorem itoa_neg {n : Int} (h : n < 0) : Lib.itoa n = 45 :: Lib.decDigits n.natAbs := by unfold Lib.itoa; rw [if_pos h]
theorem itoa_pos {n : Int} (h : ¬ n < 0) : Lib.itoa n = Lib.decDigits n.natAbs := by unfold Lib.itoa; rw [if_neg h, show n.toNat = n.natAbs by omega]
theorem u64_neg {n : Int} (h0 : -9223372036854775808 ≤ n) (h : n < 0) : IntKind.u64.wrap (-IntKind.u64.wrap n) = (n.natAbs : Int) := by
  have e : ∀ m : Int, IntKind.u64.wrap m = m % 18446744073709551616 := fun m => by simp [IntKind.wrap, IntKind.bits, IntKind.signed]
  rw [e, e]
  omega

def numMea (a b : Value) : Nat := (intOf a).toNat + (match b with | .string s => if s.size = 0 then 1 else 0 | _ => 0)
theorem numMea_step {u : Nat} {l : List UInt8} (x : UInt8) (hc : ¬ (u = 0 ∧ l ≠ [])) : numMea (.int .u64 ((u / 10 : Nat) : Int)) (.string ⟨(x :: l).toArray⟩) < numMea (.int .u64 (u : Int)) (.string ⟨l.toArray⟩) := by
  simp only [numMea, intOf, Int.toNat_natCast, ByteArray.size]
  by_cases hl : l = []
  · subst hl; simp; omega
  · have : 0 < u := by rcases Nat.eq_zero_or_pos u with h | h; exact absurd ⟨h, hl⟩ hc; exact h
    simp [hl]; omega
end Go.Proofs.YtdicpkjblflgbaaGreatDoor

/-
  A layout as plain data, and its text as the reference writes it.
-/
namespace Go.Proofs.YtdicpkjblflgbaaGreatDoor
open Go Go.RowKit

structure Gl where
  (f i x y : Int)
structure Bx where
  (a b c d e : Int)
  gs : List Gl
def R64 (n : Int) : Prop := -9223372036854775808 ≤ n ∧ n ≤ 9223372036854775807
def Gl.ok (g : Gl) : Prop := R64 g.f ∧ R64 g.i ∧ R64 g.x ∧ R64 g.y
/-- A number's text. -/
def numS (n : Int) : ByteArray := ⟨(Lib.itoa n).toArray⟩
theorem dec_len : ∀ (k u : Nat), u < 10 ^ (k + 1) → (Lib.decDigits u).length ≤ k + 1
  | 0, u, h => by rw [Lib.decDigits, dif_pos (by simpa using h)]; simp
  | k + 1, u, h => by
    rw [Lib.decDigits]
    split
    · simp
    · have := dec_len k (u / 10) (by rw [Nat.pow_succ] at h; omega)
      simp; omega
theorem numS_len {n : Int} (h : R64 n) : (numS n).size ≤ 21 := by
  have e : (numS n).size = (Lib.itoa n).length := by simp [numS, ByteArray.size]
  rw [e]
  obtain ⟨h0, h1⟩ := h
  by_cases hn : n < 0
  · rw [itoa_neg hn]
    have := dec_len 19 n.natAbs (by omega)
    simp; omega
  · rw [itoa_pos hn]
    have := dec_len 19 n.natAbs (by omega)
    omega

/-- One glyph more. -/
def gAcc (s : ByteArray) (g : Gl) : ByteArray := s ++ ⟨#[32]⟩ ++ numS g.f ++ ⟨#[47]⟩ ++ numS g.i ++ ⟨#[47]⟩ ++ numS g.x ++ ⟨#[47]⟩ ++ numS g.y
def gFold (s : ByteArray) (gs : List Gl) : ByteArray := gs.foldl gAcc s
theorem gFold_succ {s : ByteArray} {gs : List Gl} {k : Nat} {g : Gl} (h : gs[k]? = some g) : gFold s (gs.take (k + 1)) = gAcc (gFold s (gs.take k)) g := by
  have hk := (List.getElem?_eq_some_iff.1 h)
  obtain ⟨hk, rfl⟩ := hk
  unfold gFold
  rw [List.take_succ_eq_append_getElem hk, List.foldl_append]
  rfl
theorem gAcc_len {s : ByteArray} {g : Gl} (h : g.ok) : (gAcc s g).size ≤ s.size + 88 := by
  obtain ⟨h1, h2, h3, h4⟩ := h
  have := numS_len h1; have := numS_len h2; have := numS_len h3; have := numS_len h4
  simp only [gAcc, ByteArray.size_append]
  simp only [show (⟨#[32]⟩ : ByteArray).size = 1 from rfl, show (⟨#[47]⟩ : ByteArray).size = 1 from rfl]
  omega
theorem gFold_len : ∀ {gs : List Gl} {s : ByteArray}, (∀ g ∈ gs, g.ok) → (gFold s gs).size ≤ s.size + 88 * gs.length
  | [], s, _ => by simp [gFold]
  | g :: gs, s, h => by
    have h1 := gAcc_len (s := s) (h g (by simp))
    have h2 := gFold_len (gs := gs) (s := gAcc s g) fun g' hg => h g' (by simp [hg])
    have : gFold s (g :: gs) = gFold (gAcc s g) gs := rfl
    rw [this]
    simp; omega
theorem gFold_take {gs : List Gl} {s : ByteArray} {k : Nat} (h : ∀ g ∈ gs, g.ok) : (gFold s (gs.take k)).size ≤ s.size + 88 * k := by
  have := gFold_len (s := s) (gs := gs.take k) fun g hg => h g (List.mem_of_mem_take hg)
  have := List.length_take_le k gs
  omega

def boxHead (b : Bx) : ByteArray := ⟨#[40]⟩ ++ numS b.a ++ ⟨#[32]⟩ ++ numS b.b ++ ⟨#[32]⟩ ++ numS b.c ++ ⟨#[32]⟩ ++ numS b.d ++ ⟨#[32]⟩ ++ numS b.e
def boxS (b : Bx) : ByteArray := gFold (boxHead b) b.gs ++ ⟨#[41]⟩
def Bx.nums (b : Bx) : Prop := R64 b.a ∧ R64 b.b ∧ R64 b.c ∧ R64 b.d ∧ R64 b.e
def Bx.ok (b : Bx) : Prop := b.nums ∧ ∀ g ∈ b.gs, g.ok
theorem boxHead_len {b : Bx} (h : b.nums) : (boxHead b).size ≤ 110 := by
  obtain ⟨h1, h2, h3, h4, h5⟩ := h
  have := numS_len h1; have := numS_len h2; have := numS_len h3; have := numS_len h4; have := numS_len h5
  simp only [boxHead, ByteArray.size_append]
  simp only [show (⟨#[32]⟩ : ByteArray).size = 1 from rfl, show (⟨#[40]⟩ : ByteArray).size = 1 from rfl]
  omega

/-- The cells of a slice of glyphs. -/
def GsAt (w : World) (at0 : Option Addr) (gs : List Gl) : Prop := 0 < gs.length → ∃ b off, at0 = some ⟨b, off, none⟩ ∧ b < w.heap.size ∧
  ∀ (k : Nat) (g : Gl), gs[k]? = some g → w.cell? ⟨b, off + k * 4, none⟩ = some (.int .i64 g.f) ∧ w.cell? ⟨b, off + k * 4 + 1, none⟩ = some (.int .i64 g.i) ∧ w.cell? ⟨b, off + k * 4 + 2, none⟩ = some (.int .i64 g.x) ∧ w.cell? ⟨b, off + k * 4 + 3, none⟩ = some (.int .i64 g.y)
theorem GsAt.kept {w w' : World} {at0 : Option Addr} {gs : List Gl} (h : GsAt w at0 gs) (hb : Below w.heap.size w w') : GsAt w' at0 gs := fun hl => by
  obtain ⟨b, off, ha, hlt, hc⟩ := h hl
  refine ⟨b, off, ha, Nat.lt_of_lt_of_le hlt hb.size, fun k g hk => ?_⟩
  obtain ⟨c0, c1, c2, c3⟩ := hc k g hk
  exact ⟨(hb.cell (p := ⟨b, _, none⟩) hlt).trans c0, (hb.cell (p := ⟨b, _, none⟩) hlt).trans c1, (hb.cell (p := ⟨b, _, none⟩) hlt).trans c2, (hb.cell (p := ⟨b, _, none⟩) hlt).trans c3⟩
end Go.Proofs.YtdicpkjblflgbaaGreatDoor

/-
  A line's boxes as plain data, and their text as the reference writes it.
-/
namespace Go.Proofs.YtdicpkjblflgbaaGreatDoor
open Go Go.RowKit

structure Ln where
  (p0 p1 p2 p3 p4 p5 : Int)
  hy : Bool
  bs : List Bx
def Bx.fine (b : Bx) : Prop := b.ok ∧ b.gs.length ≤ 300

theorem cell_alloc {w : World} {o : Obj} {p : Addr} {v : Value} (h : w.cell? p = some v) : (w.alloc o).cell? p = some v := by
  have hlt : p.block < w.heap.size := by
    rcases Nat.lt_or_ge p.block w.heap.size with h' | h'
    · exact h'
    · unfold World.cell? at h
      rw [Array.getElem?_eq_none h'] at h
      cases h
  exact (((Below.refl w.heap.size w).alloc (Nat.le_refl _) _).cell hlt).trans h
theorem cell_below {w w' : World} {p : Addr} {v : Value} (hb : Below w.heap.size w w') (h : w.cell? p = some v) : w'.cell? p = some v := by
  have hlt : p.block < w.heap.size := by
    rcases Nat.lt_or_ge p.block w.heap.size with h' | h'
    · exact h'
    · unfold World.cell? at h
      rw [Array.getElem?_eq_none h'] at h
      cases h
  exact (hb.cell hlt).trans h

def bAcc (s : ByteArray) (i : Nat) (B : Bx) : ByteArray := (if 0 < i then s ++ ⟨#[32]⟩ else s) ++ boxS B
def bK (bs : List Bx) : Nat → ByteArray
  | 0 => ⟨#[]⟩
  | k + 1 => match bs[k]? with
    | some B => bAcc (bK bs k) k B
    | none => bK bs k
def boxesS (bs : List Bx) : ByteArray := bK bs bs.length
theorem bK_succ {bs : List Bx} {k : Nat} {B : Bx} (h : bs[k]? = some B) : bK bs (k + 1) = bAcc (bK bs k) k B := by rw [bK, h]
theorem boxS_len {B : Bx} (h : B.fine) : (boxS B).size ≤ 26511 := by
  have h1 := boxHead_len h.1.1
  have h2 := gFold_len (gs := B.gs) (s := boxHead B) h.1.2
  have := h.2
  simp only [boxS, ByteArray.size_append, show (⟨#[41]⟩ : ByteArray).size = 1 from rfl]
  omega
theorem bK_len {bs : List Bx} (h : ∀ B ∈ bs, B.fine) : ∀ k, (bK bs k).size ≤ 26512 * k
  | 0 => Nat.le_refl _
  | k + 1 => by
    have ih := bK_len h k
    rw [bK]
    split
    · rename_i B hB
      have h1 := boxS_len (h B (List.mem_of_getElem? hB))
      unfold bAcc
      rw [ByteArray.size_append]
      split
      · rw [ByteArray.size_append, show (⟨#[32]⟩ : ByteArray).size = 1 from rfl]; omega
      · omega
    · omega

/-- The cells of a slice of boxes. -/
def BsAt (w : World) (at0 : Option Addr) (bs : List Bx) : Prop := 0 < bs.length → ∃ b off, at0 = some ⟨b, off, none⟩ ∧ b < w.heap.size ∧
  ∀ (k : Nat) (B : Bx), bs[k]? = some B → w.cell? ⟨b, off + k * 6, none⟩ = some (.int .i64 B.a) ∧ w.cell? ⟨b, off + k * 6 + 1, none⟩ = some (.int .i64 B.b) ∧ w.cell? ⟨b, off + k * 6 + 2, none⟩ = some (.int .i64 B.c) ∧
    w.cell? ⟨b, off + k * 6 + 3, none⟩ = some (.int .i64 B.d) ∧ w.cell? ⟨b, off + k * 6 + 4, none⟩ = some (.int .i64 B.e) ∧ ∃ atg cap, w.cell? ⟨b, off + k * 6 + 5, none⟩ = some (.slice atg B.gs.length cap) ∧ GsAt w atg B.gs
theorem BsAt.kept {w w' : World} {at0 : Option Addr} {bs : List Bx} (h : BsAt w at0 bs) (hb : Below w.heap.size w w') : BsAt w' at0 bs := fun hl => by
  obtain ⟨b, off, ha, hlt, hc⟩ := h hl
  refine ⟨b, off, ha, Nat.lt_of_lt_of_le hlt hb.size, fun k B hk => ?_⟩
  obtain ⟨c0, c1, c2, c3, c4, atg, cap, c5, hg⟩ := hc k B hk
  exact ⟨cell_below hb c0, cell_below hb c1, cell_below hb c2, cell_below hb c3, cell_below hb c4, atg, cap, cell_below hb c5, hg.kept hb⟩
end Go.Proofs.YtdicpkjblflgbaaGreatDoor

/-
  A layout's lines as plain data, and their text as the reference writes it.
-/
namespace Go.Proofs.YtdicpkjblflgbaaGreatDoor
open Go Go.RowKit

def Ln.nums (L : Ln) : Prop := R64 L.p0 ∧ R64 L.p1 ∧ R64 L.p3 ∧ R64 L.p4 ∧ R64 L.p5
def Ln.fine (L : Ln) : Prop := L.nums ∧ (∀ B ∈ L.bs, B.fine) ∧ L.bs.length ≤ 300

/-- The numbers of a line. -/
def lNums (s : ByteArray) (L : Ln) : ByteArray := s ++ ⟨#[10]⟩ ++ numS L.p0 ++ ⟨#[32]⟩ ++ numS L.p1 ++ ⟨#[32]⟩ ++ numS L.p4 ++ ⟨#[32]⟩ ++ numS L.p5 ++ ⟨#[32]⟩ ++ numS L.p3
def lMark (s : ByteArray) (L : Ln) : ByteArray := if L.hy = true then s ++ ⟨#[32, 45]⟩ else s ++ ⟨#[32, 46]⟩
def lBoxes (s : ByteArray) (L : Ln) : ByteArray := if 0 < L.bs.length then s ++ ⟨#[32]⟩ ++ boxesS L.bs else s
def lAcc (s : ByteArray) (L : Ln) : ByteArray := lBoxes (lMark (lNums s L) L) L
def drawHead (base : Int) : ByteArray := ⟨#[98, 97, 115, 101, 32]⟩ ++ numS base
def dK (base : Int) (ls : List Ln) : Nat → ByteArray
  | 0 => drawHead base
  | k + 1 => match ls[k]? with
    | some L => lAcc (dK base ls k) L
    | none => dK base ls k
def drawS (base : Int) (ls : List Ln) : ByteArray := dK base ls ls.length
theorem dK_succ {base : Int} {ls : List Ln} {k : Nat} {L : Ln} (h : ls[k]? = some L) : dK base ls (k + 1) = lAcc (dK base ls k) L := by rw [dK, h]
theorem lNums_len {s : ByteArray} {L : Ln} (h : L.nums) : (lNums s L).size ≤ s.size + 110 := by
  obtain ⟨h1, h2, h3, h4, h5⟩ := h
  have := numS_len h1; have := numS_len h2; have := numS_len h3; have := numS_len h4; have := numS_len h5
  simp only [lNums, ByteArray.size_append]
  simp only [show (⟨#[32]⟩ : ByteArray).size = 1 from rfl, show (⟨#[10]⟩ : ByteArray).size = 1 from rfl]
  omega
theorem boxesS_len {bs : List Bx} (h : ∀ B ∈ bs, B.fine) (hl : bs.length ≤ 300) : (boxesS bs).size ≤ 7953600 := by
  have := bK_len h bs.length
  unfold boxesS
  omega
theorem lAcc_len {s : ByteArray} {L : Ln} (h : L.fine) : (lAcc s L).size ≤ s.size + 8000000 := by
  have h1 := lNums_len (s := s) h.1
  have h2 := boxesS_len h.2.1 h.2.2
  have h3 : (lMark (lNums s L) L).size = (lNums s L).size + 2 := by
    unfold lMark
    split <;> (rw [ByteArray.size_append]; rfl)
  unfold lAcc lBoxes
  split
  · rw [ByteArray.size_append, ByteArray.size_append, show (⟨#[32]⟩ : ByteArray).size = 1 from rfl]; omega
  · omega
theorem drawHead_len {base : Int} (hb : R64 base) : (drawHead base).size ≤ 30 := by
  have := numS_len hb
  unfold drawHead
  rw [ByteArray.size_append]
  have e : (⟨#[98, 97, 115, 101, 32]⟩ : ByteArray).size = 5 := rfl
  omega
theorem dK_len {base : Int} {ls : List Ln} (hb : R64 base) (h : ∀ L ∈ ls, L.fine) (k : Nat) : (dK base ls k).size ≤ 30 + 8000000 * k := by
  induction k with
  | zero => exact Nat.le_trans (drawHead_len hb) (Nat.le_add_right 30 _)
  | succ k ih =>
    rw [dK]
    split
    · rename_i L hL
      have h1 := lAcc_len (s := dK base ls k) (h L (List.mem_of_getElem? hL))
      have h2 : 8000000 * (k + 1) = 8000000 * k + 8000000 := Nat.mul_succ _ _
      rw [h2, ← Nat.add_assoc]
      exact Nat.le_trans h1 (Nat.add_le_add_right ih _)
    · exact Nat.le_trans ih (Nat.add_le_add_left (Nat.mul_le_mul_left _ (Nat.le_succ k)) _)

/-- The cells of a slice of lines. -/
def LsAt (w : World) (at0 : Option Addr) (ls : List Ln) : Prop := 0 < ls.length → ∃ b off, at0 = some ⟨b, off, none⟩ ∧ b < w.heap.size ∧
  ∀ (k : Nat) (L : Ln), ls[k]? = some L → w.cell? ⟨b, off + k * 8, none⟩ = some (.int .i64 L.p0) ∧ w.cell? ⟨b, off + k * 8 + 1, none⟩ = some (.int .i64 L.p1) ∧ w.cell? ⟨b, off + k * 8 + 2, none⟩ = some (.int .i64 L.p2) ∧
    w.cell? ⟨b, off + k * 8 + 3, none⟩ = some (.int .i64 L.p3) ∧ w.cell? ⟨b, off + k * 8 + 4, none⟩ = some (.int .i64 L.p4) ∧ w.cell? ⟨b, off + k * 8 + 5, none⟩ = some (.int .i64 L.p5) ∧ w.cell? ⟨b, off + k * 8 + 6, none⟩ = some (.bool L.hy) ∧
    ∃ atb cap, w.cell? ⟨b, off + k * 8 + 7, none⟩ = some (.slice atb L.bs.length cap) ∧ BsAt w atb L.bs
theorem LsAt.kept {w w' : World} {at0 : Option Addr} {ls : List Ln} (h : LsAt w at0 ls) (hb : Below w.heap.size w w') : LsAt w' at0 ls := fun hl => by
  obtain ⟨b, off, ha, hlt, hc⟩ := h hl
  refine ⟨b, off, ha, Nat.lt_of_lt_of_le hlt hb.size, fun k L hk => ?_⟩
  obtain ⟨c0, c1, c2, c3, c4, c5, c6, atb, cap, c7, hg⟩ := hc k L hk
  exact ⟨cell_below hb c0, cell_below hb c1, cell_below hb c2, cell_below hb c3, cell_below hb c4, cell_below hb c5, cell_below hb c6, atb, cap, cell_below hb c7, hg.kept hb⟩
end Go.Proofs.YtdicpkjblflgbaaGreatDoor

/-
  The two texts are one. Plain.
-/
namespace Go.Proofs.YtdicpkjblflgbaaGreatDoor
open Go Go.RowKit

def bl (b : ByteArray) : List UInt8 := b.data.toList
theorem bl_append (a b : ByteArray) : bl (a ++ b) = bl a ++ bl b := by simp [bl, ByteArray.data_append]
theorem bl_mk (l : List UInt8) : bl ⟨l.toArray⟩ = l := rfl
theorem bl_inj {a b : ByteArray} (h : bl a = bl b) : a = b := by
  apply ByteArray.ext
  exact Array.toList_inj.1 h

/-- A text between texts. -/
def joinS (sep : ByteArray) (xs : List ByteArray) : ByteArray := ⟨(Lib.join (xs.map (·.data.toList)) sep.data.toList).toArray⟩
theorem bl_join (sep : ByteArray) (xs : List ByteArray) : bl (joinS sep xs) = Lib.join (xs.map bl) (bl sep) := rfl
theorem join_cons (x y : List UInt8) (l : List (List UInt8)) (sep : List UInt8) : Lib.join (x :: y :: l) sep = x ++ sep ++ Lib.join (y :: l) sep := by simp [Lib.join, List.intercalate]
theorem join_one (x sep : List UInt8) : Lib.join [x] sep = x := by simp [Lib.join, List.intercalate]
theorem join_snoc (sep z : List UInt8) : ∀ (xs : List (List UInt8)), xs ≠ [] → Lib.join (xs ++ [z]) sep = Lib.join xs sep ++ sep ++ z
  | [], h => absurd rfl h
  | [x], _ => by rw [List.singleton_append, join_cons, join_one, join_one]
  | x :: y :: l, _ => by
    have ih := join_snoc sep z (y :: l) (by simp)
    rw [List.cons_append, List.cons_append, join_cons, join_cons, ← List.cons_append, ih]
    simp
theorem join_len {sep : List UInt8} {m : Nat} : ∀ (xs : List (List UInt8)), (∀ x ∈ xs, x.length ≤ m) → (Lib.join xs sep).length ≤ xs.length * (m + sep.length)
  | [], _ => by simp [Lib.join, List.intercalate]
  | [x], h => by
    have := h x (by simp)
    simp [Lib.join, List.intercalate]
    omega
  | x :: y :: l, h => by
    have h1 := h x (by simp)
    have ih := join_len (sep := sep) (y :: l) fun z hz => h z (by simp only [List.mem_cons] at hz ⊢; exact .inr hz)
    rw [join_cons, List.length_append, List.length_append]
    have e2 : (x :: y :: l).length * (m + sep.length) = (y :: l).length * (m + sep.length) + (m + sep.length) := by
      rw [List.length_cons, Nat.succ_mul]
    omega
theorem joinS_len {sep : ByteArray} {m : Nat} {xs : List ByteArray} (h : ∀ x ∈ xs, x.size ≤ m) : (Lib.join (xs.map (·.data.toList)) sep.data.toList).length ≤ xs.length * (m + sep.size) := by
  have := join_len (sep := sep.data.toList) (m := m) (xs.map (·.data.toList)) fun x hx => by
    obtain ⟨y, hy, rfl⟩ := List.mem_map.1 hx
    exact h y hy
  rw [List.length_map] at this
  exact this
theorem joinS_size {sep : ByteArray} {m : Nat} {xs : List ByteArray} (h : ∀ x ∈ xs, x.size ≤ m) : (joinS sep xs).size ≤ xs.length * (m + sep.size) := joinS_len h

/-! One byte for another. -/
def swap1 (c d : UInt8) (l : List UInt8) : List UInt8 := l.map fun b => if b = c then d else b
theorem swap1_none {c d : UInt8} {l : List UInt8} (h : c ∉ l) : swap1 c d l = l := by
  unfold swap1
  conv => rhs; rw [← List.map_id l]
  refine List.map_congr_left fun b hb => ?_
  have hne : b ≠ c := fun e => h (e ▸ hb)
  rw [if_neg hne]
  rfl
theorem swap1_append (c d : UInt8) (a b : List UInt8) : swap1 c d (a ++ b) = swap1 c d a ++ swap1 c d b := by simp [swap1]
theorem rep_one (c d : UInt8) : ∀ (n : Nat) (s : List UInt8), s.length ≤ n → Lib.replaceK [c] [d] (Lib.count s [c]) s = swap1 c d s := by
  intro n
  induction n with
  | zero =>
    intro s hs
    obtain rfl : s = [] := List.length_eq_zero_iff.1 (by omega)
    rfl
  | succ n ih =>
    intro s hs
    have hge := Lib.index_ge s [c]
    by_cases hi : Lib.index s [c] = -1
    · rw [Lib.count_miss hi, Lib.replaceK]
      rw [Lib.index_one] at hi
      rw [swap1_none]
      intro hc
      obtain ⟨k, hk⟩ := List.mem_iff_getElem?.1 hc
      exact Lib.indexByte_none hi k hk
    · obtain ⟨i, hi⟩ : ∃ i : Nat, Lib.index s [c] = i := ⟨(Lib.index s [c]).toNat, by omega⟩
      rw [Lib.count_hit (by simp) hi, Nat.add_comm 1, Lib.replaceK_hit _ _ _ _ i hi]
      have hi' := hi
      rw [Lib.index_one] at hi'
      obtain ⟨h1, h2⟩ := Lib.indexByte_some hi'
      obtain ⟨hlt, hc⟩ := List.getElem?_eq_some_iff.1 h1
      have hd : (s.drop (i + [c].length)).length ≤ n := by simp; omega
      rw [ih _ hd]
      have hsplit : s = s.take i ++ c :: s.drop (i + 1) := by
        conv => lhs; rw [← List.take_append_drop i s]
        rw [List.drop_eq_getElem_cons hlt, hc]
      have hno : c ∉ s.take i := by
        intro hm
        obtain ⟨k, hk⟩ := List.mem_iff_getElem?.1 hm
        rw [List.getElem?_take] at hk
        split at hk
        · rename_i hki; exact h2 k hki hk
        · cases hk
      conv => rhs; rw [hsplit]
      rw [swap1_append, swap1_none hno]
      simp [swap1]
theorem replaceAll_one {c d : UInt8} (h : c ≠ d) (s : List UInt8) : Lib.replaceAll s [c] [d] = swap1 c d s := by
  unfold Lib.replaceAll Lib.replace
  rw [if_neg (by simpa using h)]
  have : Lib.replaceNum s [c] (-1) = Lib.count s [c] := by unfold Lib.replaceNum; rw [if_pos (.inl (by decide))]
  rw [this]
  exact rep_one c d _ s (Nat.le_refl _)

theorem dec_no : ∀ (k u : Nat), u ≤ k → (32 : UInt8) ∉ Lib.decDigits u := by
  have key : ∀ m, m < 10 → (32 : UInt8) ≠ UInt8.ofNat (48 + m) := by
    intro m hm
    match m, hm with
    | 0, _ | 1, _ | 2, _ | 3, _ | 4, _ | 5, _ | 6, _ | 7, _ | 8, _ | 9, _ => decide
  intro k
  induction k with
  | zero =>
    intro u hu
    rw [Lib.decDigits, dif_pos (by omega)]
    simpa using key u (by omega)
  | succ k ih =>
    intro u hu
    rw [Lib.decDigits]
    split
    · simpa using key u (by omega)
    · rw [List.mem_append]
      rintro (h | h)
      · exact ih (u / 10) (by omega) h
      · exact key (u % 10) (by omega) (by simpa using h)
theorem num_no (n : Int) : (32 : UInt8) ∉ bl (numS n) := by
  show (32 : UInt8) ∉ Lib.itoa n
  by_cases h : n < 0
  · rw [itoa_neg h, List.mem_cons]
    rintro (h | h)
    · exact absurd h (by decide)
    · exact dec_no _ _ (Nat.le_refl _) h
  · rw [itoa_pos h]
    exact dec_no _ _ (Nat.le_refl _)

/-- Spaces give way to strokes. -/
def repS (s : ByteArray) : ByteArray := ⟨(Lib.replaceAll s.data.toList (⟨#[32]⟩ : ByteArray).data.toList (⟨#[47]⟩ : ByteArray).data.toList).toArray⟩
theorem glyph_eq (s : ByteArray) (g : Gl) : s ++ (⟨#[32]⟩ ++ repS (joinS ⟨#[32]⟩ [numS g.f, numS g.i, numS g.x, numS g.y])) = gAcc s g := by
  apply bl_inj
  have e : bl (repS (joinS ⟨#[32]⟩ [numS g.f, numS g.i, numS g.x, numS g.y])) = swap1 32 47 (bl (joinS ⟨#[32]⟩ [numS g.f, numS g.i, numS g.x, numS g.y])) := replaceAll_one (c := 32) (d := 47) (by decide) _
  have e2 : bl (joinS ⟨#[32]⟩ [numS g.f, numS g.i, numS g.x, numS g.y]) = bl (numS g.f) ++ [32] ++ (bl (numS g.i) ++ [32] ++ (bl (numS g.x) ++ [32] ++ bl (numS g.y))) := by
    rw [bl_join]
    simp only [List.map_cons, List.map_nil, join_cons, join_one]
    rfl
  have es : swap1 32 47 [32] = [47] := rfl
  rw [bl_append, bl_append, e, e2]
  simp only [swap1_append, swap1_none (num_no _), es]
  simp only [gAcc, bl_append]
  have b32 : bl ⟨#[32]⟩ = [32] := rfl
  have b47 : bl ⟨#[47]⟩ = [47] := rfl
  rw [b32, b47]
  simp only [List.append_assoc]

theorem head_eq (B : Bx) : ⟨#[40]⟩ ++ joinS ⟨#[32]⟩ [numS B.a, numS B.b, numS B.c, numS B.d, numS B.e] = boxHead B := by
  apply bl_inj
  rw [bl_append, bl_join]
  simp only [List.map_cons, List.map_nil, join_cons, join_one, boxHead, bl_append, List.append_assoc]
theorem line_eq (L : Ln) (s : ByteArray) : s ++ ⟨#[10]⟩ ++ joinS ⟨#[32]⟩ [numS L.p0, numS L.p1, numS L.p4, numS L.p5, numS L.p3] = lNums s L := by
  apply bl_inj
  rw [bl_append, bl_join]
  simp only [List.map_cons, List.map_nil, join_cons, join_one, lNums, bl_append, List.append_assoc]

/-- The boxes of a line. -/
theorem boxes_join {bs : List Bx} : ∀ k, k ≤ bs.length → bl (bK bs k) = Lib.join ((bs.take k).map (fun B => bl (boxS B))) [32]
  | 0, _ => rfl
  | k + 1, hk => by
    have ih := boxes_join (bs := bs) k (by omega)
    have hB : bs[k]? = some bs[k] := List.getElem?_eq_getElem hk
    rw [bK_succ hB, List.take_succ_eq_append_getElem hk, List.map_append, List.map_cons, List.map_nil]
    unfold bAcc
    rw [bl_append]
    by_cases h0 : 0 < k
    · rw [if_pos h0, bl_append, ih, join_snoc _ _ _ (by intro e; have := congrArg List.length e; rw [List.length_map, List.length_take, List.length_nil] at this; omega)]
      rfl
    · obtain rfl : k = 0 := by omega
      rw [if_neg h0, List.take_zero, List.map_nil, List.nil_append, join_one]
      rfl
theorem boxes_eq (bs : List Bx) : joinS ⟨#[32]⟩ (bs.map boxS) = boxesS bs := by
  apply bl_inj
  unfold boxesS
  rw [boxes_join bs.length (Nat.le_refl _), bl_join, List.take_length, List.map_map]
  rfl

/-- A line as the desk writes it. -/
def lineS (L : Ln) : ByteArray :=
  let s := joinS ⟨#[32]⟩ [numS L.p0, numS L.p1, numS L.p4, numS L.p5, numS L.p3] ++ ⟨#[32]⟩ ++ (if L.hy = true then ⟨#[45]⟩ else ⟨#[46]⟩)
  if 0 < L.bs.length then s ++ (⟨#[32]⟩ ++ boxesS L.bs) else s
theorem lineS_eq (s : ByteArray) (L : Ln) : s ++ ⟨#[10]⟩ ++ lineS L = lAcc s L := by
  have e := line_eq L s
  unfold lAcc lBoxes lMark lineS
  rw [← e]
  apply bl_inj
  simp only
  split <;> split <;> simp only [bl_append, List.append_assoc] <;> rfl
theorem draw_join {base : Int} {ls : List Ln} : ∀ k, k ≤ ls.length → bl (dK base ls k) = Lib.join (bl (drawHead base) :: (ls.take k).map (fun L => bl (lineS L))) [10]
  | 0, _ => (join_one _ _).symm
  | k + 1, hk => by
    have ih := draw_join (base := base) (ls := ls) k (by omega)
    have hL : ls[k]? = some ls[k] := List.getElem?_eq_getElem hk
    rw [dK_succ hL, List.take_succ_eq_append_getElem hk, List.map_append, List.map_cons, List.map_nil, ← List.cons_append, join_snoc _ _ _ (by simp), ← ih, ← lineS_eq, bl_append, bl_append]
    rfl
theorem draw_eq (base : Int) (ls : List Ln) : joinS ⟨#[10]⟩ (drawHead base :: ls.map lineS) = drawS base ls := by
  apply bl_inj
  unfold drawS
  rw [draw_join ls.length (Nat.le_refl _), bl_join, List.take_length, List.map_cons, List.map_map]
  rfl
end Go.Proofs.YtdicpkjblflgbaaGreatDoor
