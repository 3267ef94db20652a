/- What a plan and a core read as give: their cells, and that their rows can be read. -/
import Derived.Test.YtobkmmlodmdlgaaGreatDoorFrOut
import Derived.ProofKit
import Derived.OpenShut
import Derived.Deep.Slices
set_option linter.all false
namespace Go.Proofs.Fr
open Go.ChangeShapes Go.WideShapes Go.ChangeAt Go.RowKit Go.Deep
set_option maxRecDepth 100000

theorem slice_of {H : Type} {enc : TypeId × Value → H} {W : World} {fuel : Nat} {t e : TypeId} {v : Value} {x : DataW H × List MemPlace} (ht : Tryz.prog.underlying t = some (.slice e))
    (h : DataW.trod enc Tryz.prog W 0 (fun _ => true) true fuel t [v] = some x) : ∃ (C : Option Addr) (l c : Nat), v = .slice C l c := by
  rcases open_slice ht h with ⟨hcs, _⟩ | ⟨a, len', cap', m, n, D, Pl, hcs, _, hl, hm, hmm, _, hel⟩
  · simp at hcs; exact ⟨none, 0, 0, hcs⟩
  · simp at hcs; exact ⟨some a, len', cap', hcs⟩

theorem spot_of {W : World} {a : Addr} {v : Value} (h : W.cell? a = some v) : a.spot = none := by
  cases hs : a.spot with
  | none => rfl
  | some s =>
    unfold World.cell? at h
    split at h
    · rw [hs] at h; simp at h
    · cases h
theorem spot_add (a : Addr) (n : Nat) : (a.add n).spot = none → n = 0 ∨ True := fun _ => .inr trivial

theorem cell_at {W : World} {a : Addr} {n : Nat} {v : Value} (h : W.cell? (a.add n) = some v) (hs : a.spot = none) : W.cell? ⟨a.block, a.off + n, none⟩ = some v ∧ a.block < W.heap.size := by
  obtain ⟨b, o, s⟩ := a
  simp only at hs; subst hs
  have e : Addr.add ⟨b, o, none⟩ n = ⟨b, o + n, none⟩ := by simp only [Addr.add]; split <;> simp_all
  rw [e] at h
  refine ⟨h, ?_⟩
  show b < W.heap.size
  unfold World.cell? at h
  split at h
  · rename_i hb; exact (Array.getElem?_eq_some_iff.1 hb).1
  · cases h

/-- a slice of slices, as it is read -/
theorem img_of {H : Type} {enc : TypeId × Value → H} {W : World} {A : Option Addr} {len cap fuel : Nat} {x : DataW H × List MemPlace} (h : DataW.trod enc Tryz.prog W 0 (fun _ => true) true fuel 22 [.slice A len cap] = some x) :
    ∀ i, i < len → ∃ b o, A = some ⟨b, o, none⟩ ∧ b < W.heap.size ∧ ∃ (C : Option Addr) (l c : Nat), W.cell? ⟨b, o + i, none⟩ = some (.slice C l c) := by
  have hc : Tryz.prog.cellsOf 54 = 1 := by kernel_rfl
  rcases open_slice1 Tryz.underlying22 hc h with ⟨hcs, _⟩ | ⟨a, len', cap', m, n, V, D, Pl, hcs, _, hl, hm, hmm, _, hel⟩
  · simp at hcs
    obtain ⟨_, rfl, _⟩ := hcs
    exact fun i hi => by omega
  · simp at hcs
    obtain ⟨q1, q2, q3⟩ := hcs
    subst q1 q2 q3
    simp only [if_true] at hmm
    intro i hi
    have hsp : a.spot = none := by
      have := (hel 0 (by omega)).1
      have h2 := spot_of this
      simpa [Addr.add] using h2
    obtain ⟨h1, h2⟩ := hel i (by omega)
    obtain ⟨C, l, c, h4⟩ := slice_of Tryz.underlying54 h2
    obtain ⟨h5, h6⟩ := cell_at h1 hsp
    refine ⟨a.block, a.off, ?_, h6, C, l, c, by rw [← h4]; exact h5⟩
    obtain ⟨b, o, s⟩ := a
    simp only at hsp; subst hsp; rfl

/-- a slice of spaces, as it is read -/
theorem spc_of {H : Type} {enc : TypeId × Value → H} {W : World} {A : Option Addr} {len cap fuel : Nat} {x : DataW H × List MemPlace} (h : DataW.trod enc Tryz.prog W 0 (fun _ => true) true fuel 23 [.slice A len cap] = some x) :
    ∀ i, i < len → ∃ b o, A = some ⟨b, o, none⟩ ∧ b < W.heap.size ∧ ∃ (C : Option Addr) (l c : Nat), W.cell? ⟨b, o + i * 3 + 1, none⟩ = some (.slice C l c) := by
  have hc : Tryz.prog.cellsOf 57 = 3 := by kernel_rfl
  have h55 : Tryz.prog.cellsOf 55 = 1 := by kernel_rfl
  rcases open_slice Tryz.underlying23 h with ⟨hcs, _⟩ | ⟨a, len', cap', m, n, D, Pl, hcs, _, hl, hm, hmm, _, hel⟩
  · simp at hcs
    obtain ⟨_, rfl, _⟩ := hcs
    exact fun i hi => by omega
  · simp at hcs
    obtain ⟨q1, q2, q3⟩ := hcs
    subst q1 q2 q3
    simp only [if_true] at hmm
    rw [hc] at hel
    intro i hi
    have elem : ∀ i, i < m → ∃ v, W.cell? ((a.add (i * 3)).add 1) = some v ∧ W.cell? (a.add (i * 3)) ≠ none ∧ ∃ (C : Option Addr) (l c : Nat), v = .slice C l c := fun i hi => by
      obtain ⟨cs', h1, h2⟩ := hel i hi
      obtain ⟨ys, n', _, _, hl', hn', hf⟩ := DataW.trod_struct Tryz.underlying57 h2
      rw [hc] at hl'
      match cs', hl' with
      | [v0, v1, v2], _ =>
        have hn'' : ys.length = 3 := hn'
        have e1 := hf 1 _ rfl
        rw [List.getElem?_eq_getElem (by omega)] at e1
        simp [h55] at e1
        obtain ⟨_, _, h3⟩ := World.cells?_some h1
        refine ⟨v1, by rw [h3 1 (by omega)]; rfl, ?_, slice_of Tryz.underlying55 e1⟩
        intro hbad
        have := h3 0 (by omega)
        have e0 : (a.add (i * 3)).add 0 = a.add (i * 3) := by simp [Addr.add]
        rw [e0, hbad] at this
        cases this
    have hsp : a.spot = none := by
      obtain ⟨v, _, h2, _⟩ := elem 0 (by omega)
      cases h3 : W.cell? (a.add (0 * 3)) with
      | none => exact absurd h3 h2
      | some u => have := spot_of h3; simpa [Addr.add] using this
    obtain ⟨v, h1, _, C, l, c, rfl⟩ := elem i (by omega)
    refine ⟨a.block, a.off, ?_, ?_, C, l, c, ?_⟩
    · obtain ⟨b, o, s⟩ := a
      simp only at hsp; subst hsp; rfl
    · obtain ⟨b, o, s⟩ := a
      simp only at hsp; subst hsp
      have e : (Addr.add ⟨b, o, none⟩ (i * 3)).add 1 = Addr.add ⟨b, o, none⟩ (i * 3 + 1) := by
        simp only [Addr.add]
        split <;> split <;> simp_all <;> omega
      rw [e] at h1
      exact (cell_at h1 rfl).2
    · obtain ⟨b, o, s⟩ := a
      simp only at hsp; subst hsp
      have e : (Addr.add ⟨b, o, none⟩ (i * 3)).add 1 = ⟨b, o + i * 3 + 1, none⟩ := by
        simp only [Addr.add]
        split <;> split <;> simp_all
      rw [← e]; exact h1

theorem plan_of {H : Type} {enc : TypeId × Value → H} {W : World} {arr : Array Value} {d : DataW H} {p : List MemPlace} (h : DataW.Trod enc Tryz.prog W 0 (fun _ => true) true 25 (.agg arr) d p) :
    ∃ (p0 p1 p2 : Int) (A : Option Addr) (an ac : Nat) (B : Option Addr) (bm bd : Nat), arr = #[.int .i64 p0, .int .i64 p1, .int .i64 p2, .slice A an ac, .slice B bm bd] ∧ PlanIn W A an B bm := by
  obtain ⟨fuel, hf⟩ := h
  obtain ⟨xs, n, _, _, hl, hn, hf⟩ := DataW.trod_struct Tryz.underlying25 hf
  have hc : Tryz.prog.cellsOf 25 = 5 := by kernel_rfl
  have h3 : Tryz.prog.cellsOf 3 = 1 := by kernel_rfl
  have h22 : Tryz.prog.cellsOf 22 = 1 := by kernel_rfl
  have h23 : Tryz.prog.cellsOf 23 = 1 := by kernel_rfl
  rw [hc] at hl
  have hn' : xs.length = 5 := hn
  have ex : ∀ i, i < 5 → ∃ y, xs[i]? = some y := fun i hi => ⟨xs[i], List.getElem?_eq_getElem (by omega)⟩
  obtain ⟨l⟩ := arr
  simp only [Value.cells] at hl hf
  match l, hl with
  | [c0, c1, c2, c3, c4], _ =>
    obtain ⟨y0, e0⟩ := ex 0 (by omega)
    obtain ⟨y1, e1⟩ := ex 1 (by omega)
    obtain ⟨y2, e2⟩ := ex 2 (by omega)
    obtain ⟨y3, e3⟩ := ex 3 (by omega)
    obtain ⟨y4, e4⟩ := ex 4 (by omega)
    obtain ⟨k, hk, _⟩ := DataW.trod_int Tryz.underlying3 ((hf 0 _ rfl).trans e0)
    obtain ⟨wo, hw, _⟩ := DataW.trod_int Tryz.underlying3 ((hf 1 _ rfl).trans e1)
    obtain ⟨v, hv, _⟩ := DataW.trod_int Tryz.underlying3 ((hf 2 _ rfl).trans e2)
    have g3 := (hf 3 _ rfl).trans e3
    have g4 := (hf 4 _ rfl).trans e4
    simp [h3] at hk hw hv
    simp [h22] at g3
    simp [h23] at g4
    obtain ⟨A, an, ac, rfl⟩ := slice_of Tryz.underlying22 g3
    obtain ⟨B, bm, bd, rfl⟩ := slice_of Tryz.underlying23 g4
    subst hk hw hv
    exact ⟨_, _, _, A, an, ac, B, bm, bd, rfl, img_of g3, spc_of g4⟩

theorem core_of {H : Type} {enc : TypeId × Value → H} {W : World} {arr : Array Value} {d : DataW H} {p : List MemPlace} (h : DataW.Trod enc Tryz.prog W 0 (fun _ => true) true 41 (.agg arr) d p) :
    ∃ (c0 c1 c2 c4 c5 c6 c7 c8 c9 c10 c11 c12 c13 c15 c16 c17 c18 c19 c20 c21 c22 c23 c24 c26 c27 : Value) (on : Bool) (k : Int) (C : Option Addr) (bn bc : Nat), arr = #[c0, c1, c2, .bool on, c4, c5, c6, c7, c8, c9, c10, c11, c12, c13, .int .i64 k, c15, c16, c17, c18, c19, c20, c21, c22, c23, c24, .slice C bn bc, c26, c27] := by
  obtain ⟨fuel, hf⟩ := h
  obtain ⟨xs, n, _, _, hl, hn, hf⟩ := DataW.trod_struct Tryz.underlying41 hf
  have hc : Tryz.prog.cellsOf 41 = 28 := by kernel_rfl
  have h3 : Tryz.prog.cellsOf 3 = 1 := by kernel_rfl
  have h4 : Tryz.prog.cellsOf 4 = 1 := by kernel_rfl
  have h32 : Tryz.prog.cellsOf 32 = 10 := by kernel_rfl
  have h39 : Tryz.prog.cellsOf 39 = 1 := by kernel_rfl
  rw [hc] at hl
  have hn' : xs.length = 13 := hn
  have ex : ∀ i, i < 13 → ∃ y, xs[i]? = some y := fun i hi => ⟨xs[i], List.getElem?_eq_getElem (by omega)⟩
  obtain ⟨l⟩ := arr
  simp only [Value.cells] at hl hf
  match l, hl with
  | [c0, c1, c2, c3, c4, c5, c6, c7, c8, c9, c10, c11, c12, c13, c14, c15, c16, c17, c18, c19, c20, c21, c22, c23, c24, c25, c26, c27], _ =>
    obtain ⟨y3, e3⟩ := ex 3 (by omega)
    obtain ⟨y5, e5⟩ := ex 5 (by omega)
    obtain ⟨y10, e10⟩ := ex 10 (by omega)
    have g3 := (hf 3 _ rfl).trans e3
    obtain ⟨k, hk, _⟩ := DataW.trod_int Tryz.underlying3 ((hf 5 _ rfl).trans e5)
    have g10 := (hf 10 _ rfl).trans e10
    simp [h3] at hk
    simp [h39] at g10
    obtain ⟨C, bn, bc, rfl⟩ := slice_of Tryz.underlying39 g10
    obtain ⟨zs, n2, _, _, hl2, hn2, hf2⟩ := DataW.trod_struct Tryz.underlying32 g3
    have hn2' : zs.length = 6 := hn2
    obtain ⟨z0, f0⟩ : ∃ y, zs[0]? = some y := ⟨zs[0], List.getElem?_eq_getElem (by omega)⟩
    obtain ⟨on, hon, _⟩ := DataW.trod_bool Tryz.underlying4 ((hf2 0 _ rfl).trans f0)
    simp [h4, h32] at hon
    subst hk hon
    exact ⟨_, _, _, _, _, _, _, _, _, _, _, _, _, _, _, _, _, _, _, _, _, _, _, _, _, _, _, C, bn, bc, rfl⟩
end Go.Proofs.Fr
