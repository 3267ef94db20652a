/- Lemmas of the proof that this folder holds; each states its own conditions. -/
import Derived.Below
import Derived.Carry
import Derived.ProofKit
import Derived.WalkKit
import Derived.BigQuiet
set_option linter.all false
namespace Go.Proofs.Aged
open Go.ChangeShapes Go.WideShapes Go.RowKit

/-- what was there is as it was -/
structure Aged (w w' : World) : Prop where
  os : w'.os = w.os
  output : w'.output = w.output
  size : w.heap.size ≤ w'.heap.size
  block : ∀ k, k < w.heap.size → w'.heap[k]? = w.heap[k]?

theorem Aged.refl (w : World) : Aged w w := ⟨rfl, rfl, Nat.le_refl _, fun _ _ => rfl⟩
theorem Aged.trans {a b c : World} (h : Aged a b) (k : Aged b c) : Aged a c :=
  ⟨k.os.trans h.os, k.output.trans h.output, Nat.le_trans h.size k.size, fun i hi => (k.block i (Nat.lt_of_lt_of_le hi h.size)).trans (h.block i hi)⟩
theorem Aged.of_below {w w' : World} (h : Below w.heap.size w w') : Aged w w' := ⟨h.os, h.output, h.size, h.block⟩
theorem Aged.of_drewN (w : World) (q : Nat) : Aged w (w.drewN q) := ⟨rfl, rfl, Nat.le_refl _, fun _ _ => rfl⟩
theorem Aged.of_grown {w w' : World} (h : Grown w w') : Aged w w' := by
  obtain ⟨⟨h1, h2, h3⟩, _, h5⟩ := h
  refine ⟨h1, h2, h5, fun k hk => ?_⟩
  have h4 := h3 k hk
  cases hw : w.heap[k]? with
  | none =>
    rw [hw] at h4
    simpa using h4
  | some o =>
    cases hw' : w'.heap[k]? with
    | none =>
      rw [hw, hw'] at h4
      cases o <;> simp at h4
    | some o' =>
      rw [hw, hw'] at h4
      cases o <;> cases o' <;> simp at h4 ⊢
      case cells.cells c t fr c' t' fr' =>
        obtain ⟨rfl, rfl, hs, hc⟩ := h4
        refine ⟨?_, rfl, rfl⟩
        apply Array.ext_getElem?
        exact hc
      all_goals simp_all
theorem Aged.kept {w w' : World} (h : Aged w w') (may : MemPlace → Prop) : w.keptBut w' may := by
  refine ⟨h.os, h.output, fun i hi => ?_⟩
  rw [h.block i hi]
  split <;> simp_all
theorem Aged.frozen {w w' : World} (h : Aged w w') {p : Addr} (hp : p.block < w.heap.size) : w'.frozen? p = w.frozen? p := World.frozen?_of_block (w := w) (h.block p.block hp)
theorem Aged.cell {w w' : World} (h : Aged w w') {p : Addr} (hp : p.block < w.heap.size) : w'.cell? p = w.cell? p := World.cell?_of_block (w := w) (h.block p.block hp)
theorem Aged.same {W w' : World} (h : Aged W w') {p : MemPlace} (hp : p.block < W.heap.size) : W.sameAt w' p := by
  cases p with
  | cell b o => exact World.cell?_of_block (w := W) (h.block b hp)
  | map b => exact h.block b hp
theorem Aged.trod {H : Type} {enc : TypeId × Value → H} {P : Program} {t : TypeId} (hl : laidOutB P = true) (hr : P.readableRec t = true) (hrow : t < P.types.size) {W W' : World} {v : Value} {d : DataW H} {ps : List MemPlace}
    (h : DataW.Trod enc P W 0 (fun _ => true) true t v d ps) (hb : Aged W W') (hlt : ∀ x ∈ ps, x.block < W.heap.size) {sp : Nat → Bool} (hsp : ∀ x ∈ ps, sp x.block = true) :
    DataW.Trod enc P W' 0 sp true t v d ps :=
  WideElems.Trod_stays hl hr hrow h (fun x hx => hb.same (hlt x hx)) (fun x hx => hsp x hx)

section
variable {H : Type} {enc : TypeId × Value → H} {P : Program}
theorem post_of_aged {f : Func} {s : ChangeSpec} {apart fresh handsOn again : Bool} {W W' : World} {args : Array Value} {v : Value} {ds gs : List (DataW H)} {before pa pv : List MemPlace}
    (hW : DataW.Whole enc P f.params.toList s.vars apart W args.toList ds gs before)
    (hres : ∀ (b : Nat) (sp : Nat → Bool) (hd : Bool), DataW.TrodAll enc P W' b sp hd f.resultTypes.toList (v.resultList f.resultTypes.size) (s.fn H (ds ++ gs)).results [])
    (hargs : ∀ sp : Nat → Bool, (∀ p ∈ before, sp p.block = true) → DataW.TrodAll enc P W' 0 sp true f.params.toList args.toList (s.fn H (ds ++ gs)).args pa)
    (hvars : ∀ sp : Nat → Bool, (∀ p ∈ before, sp p.block = true) → DataW.TrodVars enc P W' sp s.vars (s.fn H (ds ++ gs)).vars pv)
    (hps : before = pa ++ pv) (hk : Aged W W')
    (hok : ∀ (j : Nat) (t : TypeId) (r : Value), f.resultTypes[j]? = some t → (v.resultList f.resultTypes.size)[j]? = some r → Value.okWide P W' .any 0 t r) :
    s.post enc P f apart fresh handsOn again W args v W' := by
  have hold : ∀ p ∈ before, (fun b => decide (b < W.heap.size)) p.block = true := fun p hp => by simpa using hW.lt p hp
  refine ⟨ds, gs, before, [], pa, pv, hW, hres _ _ _, hargs _ hold, hvars _ hold, World.keptBut_mono (fun p hp => ⟨hp, ?_⟩) (hk.kept (· ∈ before)), fun _ => ?_⟩
  · rw [hps, List.mem_append] at hp
    exact Or.inr hp
  · have hlt := hW.lt
    obtain ⟨_, _, _, _, _, hz, hn⟩ := hW
    refine ⟨hok, _, _, ([] ++ pa) ++ pv, ⟨[] ++ pa, pv, trodAll_append (hargs _ (fun _ _ => rfl)) (hres _ _ _), hvars _ (fun _ _ => rfl), rfl, ?_, ?_⟩, ?_⟩
    · intro b off hp
      have hb : (MemPlace.cell b off) ∈ before := by rw [hps]; simpa using hp
      rw [hk.frozen (p := ⟨b, off, none⟩) (hlt _ hb)]
      exact hz b off hb
    · intro ha
      have := hn ha
      rw [hps] at this
      simpa using this
    · intro p hp _
      rw [hps]
      simpa using hp
end
end Go.Proofs.Aged
