/- Composite values: parts laid over zeros. -/
import Derived.Test.YtobkmmlodmdlgaaGreatDoorTameMaps
set_option linter.all false
namespace Go.Tame
open Go

theorem foldl_set_get (off : Nat) : ∀ (vs : List Value) (k : Nat) (cells : Array Value), off + k + vs.length ≤ cells.size →
    ((vs.zipIdx k).foldl (fun cs (c, j) => cs.setIfInBounds (off + j) c) cells).size = cells.size ∧
    ∀ i, ((vs.zipIdx k).foldl (fun cs (c, j) => cs.setIfInBounds (off + j) c) cells)[i]? = if off + k ≤ i ∧ i < off + k + vs.length then vs[i - (off + k)]? else cells[i]?
  | [], k, cells, _ => ⟨rfl, fun i => by rw [if_neg (by simp only [List.length_nil]; omega)]; rfl⟩
  | v :: vs, k, cells, h => by
    simp only [List.length_cons] at h
    obtain ⟨h1, h2⟩ := foldl_set_get off vs (k + 1) (cells.setIfInBounds (off + k) v) (by simp; omega)
    simp only [List.zipIdx_cons, List.foldl_cons]
    refine ⟨by rw [h1]; simp, fun i => ?_⟩
    rw [h2 i]
    simp only [List.length_cons]
    by_cases hi : off + (k + 1) ≤ i ∧ i < off + (k + 1) + vs.length
    · rw [if_pos hi, if_pos (by omega)]
      rw [show i - (off + k) = (i - (off + (k + 1))) + 1 from by omega, List.getElem?_cons_succ]
    · rw [if_neg hi]
      by_cases he : i = off + k
      · subst he
        rw [if_pos (by omega), Array.getElem?_setIfInBounds_self_of_lt (by omega)]; simp
      · rw [if_neg (by omega), Array.getElem?_setIfInBounds_ne (by omega)]

theorem fillA_ok {ρ : Ren} {placeA place : Nat → Option (Nat × Nat)} (hpl : ∀ i x, placeA i = some x → place i = some x) : ∀ {parts : List (Nat × AV)} {cparts : List (Nat × Value)} {cells r : List AV} {ccells : Array Value},
    cparts.map (·.1) = parts.map (·.1) → VRels ρ (parts.map (·.2)) (cparts.map (·.2)) → VRels ρ cells ccells.toList → fillA placeA cells parts = some r →
    ∃ cr, Instr.fill place ccells cparts = some cr ∧ VRels ρ r cr.toList
  | [], cparts, cells, r, ccells, hi, hp, hc, h => by
    have : cparts = [] := by cases cparts <;> simp_all
    subst this
    simp only [fillA] at h; injection h with h; subst h
    exact ⟨ccells, rfl, hc⟩
  | (i, v) :: parts, [], cells, r, ccells, hi, hp, hc, h => by simp at hi
  | (i, v) :: parts, (i', cv) :: cparts, cells, r, ccells, hi, hp, hc, h => by
    simp only [List.map_cons, List.cons.injEq] at hi
    obtain ⟨hii, hi⟩ := hi
    subst hii
    simp only [List.map_cons, VRels] at hp
    obtain ⟨u, us, he, h1, h2⟩ := hp
    injection he with he1 he2; subst he1 he2
    simp only [fillA] at h
    split at h
    · cases h
    · rename_i off size hpa
      obtain ⟨hsz, h3⟩ := ite_bool h
      rw [Bool.and_eq_true, beq_true, blt_true] at hsz
      obtain ⟨hsz, hpos⟩ := hsz
      split at h3
      · rename_i cs hov
        obtain ⟨hlen, _, hfit, hget⟩ := over_get _ _ _ _ hov
        have hcs := h1.cells
        have hcl : cv.cells.size = size := by rw [← hsz]; simpa using hcs.length
        have hsize : ccells.size = cells.length := by simpa using hc.length
        have hle' : off + cv.cells.size ≤ ccells.size := by
          have := hfit (fun hz => by rw [hz] at hsz; simp at hsz; omega)
          rw [hcl, hsize, ← hsz]; exact this
        simp only [Instr.fill, hpl i' _ hpa]
        rw [if_neg (by simp [hcl]; omega)]
        obtain ⟨f1, f2⟩ := foldl_set_get off cv.cells.toList 0 ccells (by simpa using hle')
        have hfold : (cv.cells.zipIdx).foldl (fun cs (c, j) => cs.setIfInBounds (off + j) c) ccells = (cv.cells.toList.zipIdx 0).foldl (fun cs (c, j) => cs.setIfInBounds (off + j) c) ccells := by
          rw [← Array.foldl_toList]; simp
        rw [hfold]
        refine fillA_ok hpl hi h2 (VRels.of_get (by simp [f1, hsize, hlen]) fun j a hj => ?_) h3
        rw [hget j] at hj
        simp only [Nat.add_zero] at f2
        rw [Array.getElem?_toList, f2 j]
        have hvl : v.cells.length = cv.cells.toList.length := by rw [hsz, ← hcl]; simp
        by_cases hjin : off ≤ j ∧ j < off + v.cells.length
        · rw [if_pos hjin] at hj
          rw [if_pos (by rw [← hvl]; exact hjin)]
          exact hcs.get hj
        · rw [if_neg hjin] at hj
          rw [if_neg (by rw [← hvl]; exact hjin)]
          obtain ⟨x, hx, hr⟩ := hc.get hj
          exact ⟨x, by simpa using hx, hr⟩
      · cases h3

end Go.Tame
