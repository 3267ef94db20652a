/- One operation: composite values, builtins, calls. -/
import Derived.Test.YtobkmmlodmdlgaaGreatDoorTameOps3
set_option linter.all false
namespace Go.Tame
open Go

section
variable {T : Tab} {P : Program} {base : Nat} {ρ : Ren} {h h' : Heap} {w : World} {nx nx' : Nat} {sz : Nat} {t : Env} {a : Act} {x : ORes}

theorem partsA_ok (e : ERel ρ sz t a.tmps) : ∀ {l : List (Nat × Operand)} {ps : List (Nat × AV)}, partsA t l = some ps →
    (l.map fun (i, q) => (i, a.eval q)).map (·.1) = ps.map (·.1) ∧ VRels ρ (ps.map (·.2)) ((l.map fun (i, q) => (i, a.eval q)).map (·.2))
  | [], ps, hh => by simp only [partsA] at hh; injection hh with hh; subst hh; exact ⟨rfl, VRels.nil ρ⟩
  | (i, q) :: l, ps, hh => by
    simp only [partsA] at hh
    split at hh
    · cases hh
    · rename_i v hv
      split at hh
      · cases hh
      · rename_i vs hvs
        injection hh with hh; subst hh
        obtain ⟨h1, h2⟩ := partsA_ok e hvs
        exact ⟨by simp only [List.map_cons, h1], VRels.cons (e.val hv) h2⟩

theorem run_placesL : ∀ (l : List Field), (∀ f ∈ l, (P.info? f.type).isSome = true) →
    ((l.mapM fun f => do pure (f.offset, ← sizeOf f.type)) : Sem (List (Nat × Nat))).run P w = .ok (l.map fun f => (f.offset, P.cellsOf f.type)) w
  | [], _ => by simp
  | f :: l, hl => by
    obtain ⟨i, hi⟩ := Option.isSome_iff_exists.1 (hl f (by simp))
    have ih := run_placesL l (fun g hg => hl g (by simp [hg]))
    simp only [List.mapM_cons, Sem.run_bind, Sem.run_pure, run_sizeOf w hi, Result.andThen_ok, ih, List.map_cons]

theorem run_places (fs : Array Field) (hl : ∀ f ∈ fs.toList, (P.info? f.type).isSome = true) :
    ((fs.mapM fun f => do pure (f.offset, ← sizeOf f.type)) : Sem (Array (Nat × Nat))).run P w = .ok (fs.map fun f => (f.offset, P.cellsOf f.type)) w := by
  rw [Array.mapM_eq_mapM_toList, Sem.run_map, run_placesL _ hl]
  simp only [Result.andThen_ok]
  congr 1
  rw [← Array.toList_map, Array.toArray_toList]

variable (ok : TabOk T P) (r : Rep T base ρ h.get w) (e : ERel ρ sz t a.tmps)
include ok r e

theorem ok_build {o : Oper} {ty : TypeId} {parts : Array (Nat × Operand)} (ho : o.op = .build ty parts) (hh : opA T t h nx (.build ty parts) = some x) : OpOk T base ρ h nx w x ((execOp a.eval o).run P w) := by
  simp only [opA] at hh
  split at hh
  · rename_i ti ps ht hps
    obtain ⟨i, d, z, hti⟩ := ok.types ty ti ht
    have hu := hti.und
    obtain ⟨hp1, hp2⟩ := partsA_ok e hps
    have hparts : (parts.map fun (i, q) => (i, a.eval q)).toList = parts.toList.map fun (i, q) => (i, a.eval q) := by simp
    split at hh
    · rename_i fs hd
      obtain ⟨gs, hgs, hfs⟩ := tdOf_struct (hti.td.symm.trans hd)
      rw [hgs] at hu
      subst hfs
      split at hh
      · rename_i cs hfill
        injection hh with hh; subst hh
        have hpl : ∀ j y, placesA T (gs.toList.map fun f => (f.offset, f.type, f.name == "_")) j = some y → (gs.map fun f => (f.offset, P.cellsOf f.type))[j]? = some y := fun j y hy => by
          obtain ⟨off, size⟩ := y
          obtain ⟨f, tf, hf, hoff, htf, hsz⟩ := placesA_ok ok r e hy
          obtain ⟨jf, df, zf, hjf⟩ := ok.types f.type tf htf
          have hgf : gs[j]? = some f := by simpa using hf
          have hc : P.cellsOf f.type = size := by rw [← hsz, ← hjf.size]; simp [Program.cellsOf, hjf.info]
          simp [hgf, hoff, hc]
        obtain ⟨cr, hcr, hrel⟩ := fillA_ok (ρ := ρ) (place := ((gs.map fun f => (f.offset, P.cellsOf f.type))[·]?)) hpl hp1 hp2 (hti.cells.none_le (ρ := ρ)) hfill
        refine OpOk.pure r (cv := .agg cr) ?_ ?_
        · simp only [VRel]; exact ⟨cr.toList, by simp, hrel⟩
        · simp only [execOp, ho, Instr.build, Sem.run_bind, hti.run_zeroValue, Result.andThen_ok, run_underlying hu, run_places gs (hti.fields gs hgs), hparts, hcr]
          rfl
      · cases hh
    · rename_i n el hd
      rw [tdOf_arr (hti.td.symm.trans hd)] at hu
      split at hh
      · rename_i te hte
        obtain ⟨ie, de, ze, hie⟩ := ok.types el te hte
        split at hh
        · rename_i cs hfill
          injection hh with hh; subst hh
          obtain ⟨cr, hcr, hrel⟩ := fillA_ok (ρ := ρ) (placeA := fun i => some (i * te.size, te.size)) (place := fun i => some (i * te.size, te.size)) (fun i x hx => hx) hp1 hp2 (hti.cells.none_le (ρ := ρ)) hfill
          refine OpOk.pure r (cv := .agg cr) ?_ ?_
          · simp only [VRel]; exact ⟨cr.toList, by simp, hrel⟩
          · simp only [execOp, ho, Instr.build, Sem.run_bind, hti.run_zeroValue, Result.andThen_ok, run_underlying hu, hie.run_sizeOf, hparts, hcr]
            rfl
        · cases hh
      · cases hh
    · cases hh
  · cases hh

theorem ok_buildSlice {o : Oper} {ty : TypeId} {len : Nat} {parts : Array (Nat × Operand)} (ho : o.op = .buildSlice ty len parts) (hh : opA T t h nx (.buildSlice ty len parts) = some x) : OpOk T base ρ h nx w x ((execOp a.eval o).run P w) := by
  simp only [opA] at hh
  split at hh
  · rename_i ti ps ht hps
    obtain ⟨i, d, z, hti⟩ := ok.types ty ti ht
    have hu := hti.und
    obtain ⟨hp1, hp2⟩ := partsA_ok e hps
    have hparts : (parts.map fun (i, q) => (i, a.eval q)).toList = parts.toList.map fun (i, q) => (i, a.eval q) := by simp
    split at hh
    · rename_i el hd
      rw [tdOf_slice (hti.td.symm.trans hd)] at hu
      split at hh
      · rename_i te hte
        obtain ⟨ie, de, ze, hie⟩ := ok.types el te hte
        obtain ⟨hbig, h2⟩ := ite_bool hh
        rw [ble_true] at hbig
        split at h2
        · rename_i cs hfill
          split at h2
          · rename_i h3 nx3 hn
            injection h2 with h2; subst h2
            have hzr := VRels.rep (hie.cells.none_le (ρ := ρ)) len
            have hcells : (Array.range (len * te.size)).map (fun i => ze.cells[i % ze.cells.size]!) = (Tame.rep ze.cells.toList len).toArray := by
              rw [rep_toArray, hie.shape]
            obtain ⟨cr, hcr, hrel⟩ := fillA_ok (ρ := ρ) (placeA := fun i => some (i * te.size, te.size)) (place := fun i => some (i * te.size, te.size)) (fun i x hx => hx) hp1 hp2
              (ccells := (Tame.rep ze.cells.toList len).toArray) (by simpa using hzr) hfill
            refine OpOk.made ok r e hn (o := .cells cr el) (cap := none) (by have := BRel.row hrel el w.heap.size (T := T); simpa using this) (VRel.closed (Ren.add_at _ _ _) 0 len len) ?_
            have hbig' : ¬ (len * te.size > 16777216) := by omega
            simp only [execOp, ho, Instr.buildSlice, Sem.run_bind, run_underlying hu, Result.andThen_ok, hie.run_sizeOf, hparts]
            by_cases hz : len * te.size = 0
            · have hcr0 := hcr
              rw [← hcells, hz] at hcr0
              have e0 : (Array.map (fun i => ze.cells[i % ze.cells.size]!) (Array.range 0)) = #[] := by simp
              rw [e0] at hcr0
              have hcr1 : Instr.fill (fun i => some (i * te.size, te.size)) #[] (List.map (fun x => (x.fst, a.eval x.snd)) parts.toList) = some cr := hcr0
              simp [hz, Array.range_zero', hcr1, newRow, Place.addr]
            · simp [hbig', hz, hie.run_zeroValue, hcells, hcr, newRow, Place.addr]
          · cases h2
        · cases h2
      · cases hh
    · cases hh
  · cases hh

end
end Go.Tame
