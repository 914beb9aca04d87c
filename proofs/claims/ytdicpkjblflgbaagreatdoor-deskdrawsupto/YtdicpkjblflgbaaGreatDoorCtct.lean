/-
  The law's contract at the row's own post. Conditions: those that each statement below names, and no other.
-/
import Derived.Test.YtdicpkjblflgbaaGreatDoorArgB
import Derived.Test.YtdicpkjblflgbaaGreatDoorCards
import Derived.ProofKit
import Derived.OpenShut
import Derived.Carry
import Derived.ChangeSame
set_option linter.all false

/-
  The contract at the row's own post.
-/
namespace Go.Proofs.YtdicpkjblflgbaaGreatDoor
open Go.ChangeShapes Go.WideShapes Go.ChangeAt Go.RowKit


theorem val_of {P : Program} {W : World} {base : Nat} {t0 : TypeId} {v0 : Value} (h : ∀ (j : Nat) (t : TypeId) (v : Value), #[t0][j]? = some t → #[v0][j]? = some v → Value.okWide P W .any base t v) : Value.okWide P W .any base t0 v0 := h 0 t0 v0 rfl rfl
theorem struct_of {P : Program} {W : World} {base : Nat} {t0 : TypeId} {v0 : Value} {fs : Array Field} (hs : P.underlying t0 = some (.struct fs)) (h : ∀ (j : Nat) (t : TypeId) (v : Value), #[t0][j]? = some t → #[v0][j]? = some v → Value.okWide P W .any base t v) : ∃ cs : Array Value, v0 = .agg cs ∧ cs.size = P.cellsOf t0 := okWide_struct hs (val_of h)
theorem small_bulk {H : Type} {ds : List (DataW H)} (h : Rows.uptoSmall H ds = true) : Rows.uptoBulkAll ds ≤ 1048576 := of_decide_eq_true h
theorem bulk_one {H : Type} (d : DataW H) : Rows.uptoBulkAll ([d] ++ ([] : List (DataW H))) = Rows.uptoBulk d := by
  rw [List.append_nil, Rows.uptoBulkAll, Rows.uptoBulkAll, Nat.add_zero]
theorem small_one {H : Type} {d : DataW H} (h : Rows.uptoSmall H ([d] ++ ([] : List (DataW H))) = true) : Rows.uptoBulk d ≤ 1048576 := by
  have := small_bulk h
  rw [bulk_one] at this
  exact this

/-- A call that only adds memory: its post. -/
theorem post_below {H : Type} {enc : TypeId × Value → H} {P : Program} {f : Func} {s : ChangeSpec} {W W' : World} {args : Array Value} {v : Value} {ds gs : List (DataW H)} {before pa pv : List MemPlace}
    (hW : DataW.Whole enc P f.params.toList s.vars false W args.toList ds gs before)
    (hr : ∀ (b : Nat) (sp : Nat → Bool) (hd : Bool), DataW.TrodAll enc P W' b sp hd f.resultTypes.toList (v.resultList f.resultTypes.size) (s.fn H (ds ++ gs)).results [])
    (ha : ∀ sp : Nat → Bool, (∀ p ∈ before, sp p.block = true) → DataW.TrodAll enc P W' 0 sp true f.params.toList args.toList (s.fn H (ds ++ gs)).args pa)
    (hv : ∀ sp : Nat → Bool, (∀ p ∈ before, sp p.block = true) → DataW.TrodVars enc P W' sp s.vars (s.fn H (ds ++ gs)).vars pv)
    (hps : before = pa ++ pv) (hb : Below W.heap.size W W')
    (_hok : ∀ (j : Nat) (t : TypeId) (r : Value), f.resultTypes[j]? = some t → (v.resultList f.resultTypes.size)[j]? = some r → Value.okWide P W' .any 0 t r) :
    s.post enc P f false true false false W args v W' := by
  have hin : ∀ p ∈ before, (fun b => decide (b < W.heap.size)) p.block = true := fun p hp => by simpa using hW.lt p hp
  refine ⟨ds, gs, before, [], pa, pv, hW, hr _ _ _, ha _ hin, hv _ hin, World.keptBut_mono (fun p hp => ⟨hp, ?_⟩) (hb.frame (· ∈ before)), fun h => by cases h⟩
  rw [hps, List.mem_append] at hp
  exact .inr hp

set_option maxRecDepth 1000000 in
theorem contract (H : Type) (enc : TypeId × Value → H) (W : World) (base : Nat) (args : Array Value) (ds gs : List (DataW H)) (before : List MemPlace)
    (hval : ∀ (j : Nat) t v, Tryz.f3.params[j]? = some t → args[j]? = some v → Value.okWide Tryz.prog W .any base t v)
    (hW : DataW.Whole enc Tryz.prog Tryz.f3.params.toList Rows.deskDrawsSpec.vars false W args.toList ds gs before) (hbulk : Rows.uptoSmall H (ds ++ gs) = true)
    (hL : laidMetH Tryz.prog Rows.deskDrawsUptoRow.laid W) (hsh : W.ShapedOpen Tryz.prog) :
    Calls Tryz.prog 3 args W fun e W' => ∃ v, e = .returned v ∧ Rows.deskDrawsSpec.post enc Tryz.prog Tryz.f3 false true false false W args v W' := by
  have hW' := hW
  obtain ⟨p, q, hA0, hV, rfl, hfz, hnd⟩ := hW
  have hA : DataW.TrodAll enc Tryz.prog W 0 (fun _ => true) true Tryz.f3.params.toList args.toList ds p := hA0
  rw [Tryz.params3] at hA hval
  obtain ⟨v0, vs0, d0, ds0, p0, q0, hargs, rfl, rfl, h0, r0⟩ := trodAll_cons hA
  obtain ⟨rfl, rfl, rfl⟩ := trodAll_nil r0
  obtain rfl : args = #[v0] := by cases args; simp_all
  obtain ⟨rfl, rfl⟩ := trodVars_none hV
  have h0k := h0
  obtain ⟨cs, rfl, hsz⟩ := struct_of Tryz.underlying24 hval
  obtain ⟨fuel, hf⟩ := h0
  have hb : Rows.uptoBulk d0 ≤ 1048576 := small_one hbulk
  obtain ⟨b0, at0, ls, cap, hcs, hR, hls, hok, hcnt, hlen⟩ := rd_ly hf hb
  obtain ⟨e3, e6, hlaid⟩ := laid_of hL
  have hcs' : cs = #[.int .i64 b0, .slice at0 ls.length cap] := by
    apply Array.toList_inj.1
    exact hcs
  have walk := law_any b0 ls at0 cap W hR hok hcnt hlen hls ⟨hlaid, ml_of hsh⟩
  rw [← hcs'] at walk
  refine walk.mono fun e W' ⟨he, hg⟩ => ?_
  subst he
  refine ⟨_, rfl, post_below (pa := p0 ++ []) (pv := []) hW' (fun _ _ _ => trodAll_cons_mk (shut_bool Tryz.underlying4 _) trodAll_mk0) (fun sp hsp => ?_) (fun _ _ => rfl) rfl hg (ok_one (by kernel_rfl) rfl (okWide_bool_mk Tryz.underlying4 _))⟩
  rw [Tryz.params3]
  obtain ⟨fuel', hk⟩ := h0k
  exact trodAll_cons_mk ⟨fuel', stays24 hg fuel' _ _ hk fun x hx => hsp x (by simpa using hx)⟩ trodAll_mk0
end Go.Proofs.YtdicpkjblflgbaaGreatDoor
