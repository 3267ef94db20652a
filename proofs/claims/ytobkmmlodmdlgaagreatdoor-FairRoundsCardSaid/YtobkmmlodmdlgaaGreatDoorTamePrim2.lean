/- Making blocks; appending. -/
import Derived.Test.YtobkmmlodmdlgaaGreatDoorTamePrim
import Derived.Laws.AppendOwn
set_option linter.all false
namespace Go.Tame
open Go

theorem storeA_ok {T : Tab} {P : Program} {base : Nat} {ρ : Ren} {h h' : Heap} {w : World} (ok : TabOk T P) (r : Rep T base ρ h.get w) {t : TypeId} {a v : AV} {ca cv : Value}
    (ha : VRel ρ a ca) (hv : VRel ρ v cv) (hs : storeA T h t a v = some h') (nx : Nat) :
    ∃ w', (Instr.storeAt t ca cv).run P w = .ok () w' ∧ Rep T base ρ h'.get w' ∧ Ext ρ h.get nx w ρ h'.get nx w' := by
  unfold storeA at hs
  split at hs
  · rename_i ti m off ht
    obtain ⟨hb, hs2⟩ := ite_bool hs
    rw [beq_true] at hb
    obtain ⟨i, d, z, hti⟩ := ok.types t ti ht
    simp only [VRel] at ha
    obtain ⟨p, hp, rfl⟩ := ha
    obtain ⟨w', hrun, hr, hx⟩ := storeCellsA_ok (P := P) r hp hv.cells hs2 nx
    refine ⟨w', ?_, hr, hx⟩
    have hlen : cv.cells.size = ti.size := by rw [← hb]; simpa using hv.cells.length
    simp [Instr.storeAt, Instr.sureAddr, storeVar, hti.run_sizeOf, hlen, hrun]
  · cases hs

/-- one name more -/
def Ren.add (ρ : Ren) (n : Nat) (p : Place) : Ren := fun m => if m = n then some p else ρ m

theorem Ren.add_le {ρ : Ren} {n : Nat} {p : Place} (h : ρ n = none) : ρ.le (ρ.add n p) := fun m q hm => by
  unfold Ren.add
  by_cases e : m = n
  · subst e; rw [h] at hm; cases hm
  · rw [if_neg e]; exact hm
theorem Ren.add_at (ρ : Ren) (n : Nat) (p : Place) : ρ.add n p n = some p := if_pos rfl

theorem newA_get {h h' : Heap} {nx nx' : Nat} {b : Blk} (hn : newA h nx b = some (h', nx')) : nx' = nx + 1 ∧ ∀ m, h'.get m = if m = nx then some b else h.get m := by
  unfold newA at hn
  obtain ⟨h1, h2⟩ := ite_bool hn
  injection h2 with h2; injection h2 with h2 h3; subst h2 h3
  rw [blt_true] at h1
  exact ⟨rfl, fun m => Tr.get_put _ _ _ _ _ (by have := D_pow; omega)⟩

theorem Rep.make {T : Tab} {base : Nat} {ρ : Ren} {h h' : HF} {w : World} (r : Rep T base ρ h w) {nx : Nat} (hf : ρ nx = none) {b : Blk} {o : Obj} {cap : Option Nat}
    (hh : ∀ m, h' m = if m = nx then some b else h m) (hb : BRel T ρ ⟨w.heap.size, 0, cap⟩ b o) :
    Rep T base (ρ.add nx ⟨w.heap.size, 0, cap⟩) h' (w.alloc o) ∧ Ext ρ h nx w (ρ.add nx ⟨w.heap.size, 0, cap⟩) h' (nx + 1) (w.alloc o) := by
  have hle : ρ.le (ρ.add nx ⟨w.heap.size, 0, cap⟩) := Ren.add_le hf
  have hold : ∀ k, k < w.heap.size → (w.alloc o).heap[k]? = w.heap[k]? := fun k hk => RowKit.Below.heap_alloc w o k hk
  have hnew : (w.alloc o).heap[w.heap.size]? = some o := by show (w.heap.push o)[w.heap.size]? = some o; simp
  have place : ∀ m c q, h m = some c → ρ m = some q → q.block < w.heap.size := fun m c q hm hq => by
    obtain ⟨q', o', hq', _, hw, _⟩ := r.own m c hm
    rw [hq] at hq'; injection hq' with hq'; subst hq'
    exact (Array.getElem?_eq_some_iff.1 hw).1
  have hfzz : ∀ a, (w.alloc o).frozen? a = w.frozen? a := fun a => by
    rcases Nat.lt_trichotomy a.block w.heap.size with h | h | h
    · unfold World.frozen?; rw [hold _ h]
    · rw [hb.fz (w := w.alloc o) (a := a) (by rw [h]; exact hnew)]
      have : w.heap[a.block]? = none := by rw [h]; simp
      unfold World.frozen?; rw [this]
    · have h1 : w.heap[a.block]? = none := by simp; omega
      have h2 : (w.alloc o).heap[a.block]? = none := Array.getElem?_eq_none (by show (w.heap.push o).size ≤ _; rw [Array.size_push]; omega)
      unfold World.frozen?; rw [h1, h2]
  have addne : ∀ m q, m ≠ nx → ρ.add nx ⟨w.heap.size, 0, cap⟩ m = some q → ρ m = some q := fun m q hne hq => by
    unfold Ren.add at hq; rw [if_neg hne] at hq; exact hq
  refine ⟨⟨?_, fun m c hm => ?_, fun m n c d p q hm hn hp hq hpq => ?_, fun g cs hg => ?_⟩, ⟨hle, Nat.le_succ _, fun m hm => ?_, ?_, rfl, rfl, rfl, hfzz, fun k hk _ => hold k hk, fun m c p hm hp => ?_, fun m c hm => ?_⟩⟩
  · have := r.low; simp; omega
  · by_cases e : m = nx
    · rw [hh, if_pos e] at hm; injection hm with hm; subst hm
      exact ⟨⟨w.heap.size, 0, cap⟩, o, by rw [e]; exact Ren.add_at _ _ _, r.low, hnew, hb.mono hle⟩
    · rw [hh, if_neg e] at hm
      obtain ⟨q, oq, hq, hqb, hqw, hqr⟩ := r.own m c hm
      exact ⟨q, oq, hle _ _ hq, hqb, by rw [hold _ (place m c q hm hq)]; exact hqw, hqr.mono hle⟩
  · by_cases em : m = nx
    · by_cases en : n = nx
      · rw [em, en]
      · rw [hh, if_neg en] at hn
        have := place n d q hn (addne n q en hq)
        subst em; rw [Ren.add_at] at hp; injection hp with hp; subst hp
        simp at hpq; omega
    · rw [hh, if_neg em] at hm
      have h1 := place m c p hm (addne m p em hp)
      by_cases en : n = nx
      · subst en; rw [Ren.add_at] at hq; injection hq with hq; subst hq
        simp at hpq; omega
      · rw [hh, if_neg en] at hn
        exact r.inj m n c d p q hm hn (addne m p em hp) (addne n q en hq) hpq
  · obtain ⟨hlt, c, e, fz, hw, hc⟩ := r.glob g cs hg
    exact ⟨hlt, c, e, fz, by rw [hold _ (Nat.lt_of_lt_of_le hlt r.low)]; exact hw, hc⟩
  · unfold Ren.add; rw [if_neg (by omega)]
  · simp
  · by_cases e : m = nx
    · subst e; rw [Ren.add_at] at hp; injection hp with hp; subst hp; exact .inl (Nat.le_refl _)
    · rw [hh, if_neg e] at hm
      exact .inr ⟨m, c, p, hm, addne m p e hp, rfl⟩
  · by_cases e : m = nx
    · exact .inr (by omega)
    · rw [hh, if_neg e] at hm; exact .inl ⟨c, hm⟩

theorem newA_ok {T : Tab} {base : Nat} {ρ : Ren} {h h' : Heap} {w : World} {nx nx' : Nat} {b : Blk} (r : Rep T base ρ h.get w) (hn : newA h nx b = some (h', nx')) (hf : Fresh ρ nx nx')
    {o : Obj} {cap : Option Nat} (hb : BRel T ρ ⟨w.heap.size, 0, cap⟩ b o) :
    Rep T base (ρ.add nx ⟨w.heap.size, 0, cap⟩) h'.get (w.alloc o) ∧ Ext ρ h.get nx w (ρ.add nx ⟨w.heap.size, 0, cap⟩) h'.get nx' (w.alloc o) := by
  obtain ⟨rfl, hh⟩ := newA_get hn
  exact r.make (hf nx (Nat.le_refl _) (by omega)) hh hb

/-- a row of cells, whole -/
theorem BRel.row {T : Tab} {ρ : Ren} {cs : List AV} {vs : List Value} (h : VRels ρ cs vs) (e : TypeId) (b : Nat) : BRel T ρ ⟨b, 0, none⟩ (.cells e cs) (.cells vs.toArray e) :=
  ⟨vs.toArray, rfl, by simp [h.length], fun i a hi => by
    obtain ⟨v, hv, hr⟩ := h.get hi
    exact ⟨v, by simpa using hv, hr⟩, fun C hC => by simp at hC⟩

/-! ### slices' elements -/
theorem lenA_ok {ρ : Ren} {a : AV} {v : Value} {n : Nat} (hv : VRel ρ a v) (hl : lenA a = some n) : ∃ b c, v = .slice b n c := by
  cases a <;> simp only [lenA] at hl
  case slice m o len cap opn =>
    injection hl with hl; subst hl
    obtain ⟨p, c, _, rfl⟩ := hv.of_slice; exact ⟨_, _, rfl⟩
  case empty => injection hl with hl; subst hl; simp only [VRel] at hv; obtain ⟨a, c, rfl⟩ := hv; exact ⟨_, _, rfl⟩
  case nilslice => injection hl with hl; subst hl; simp only [VRel] at hv; exact ⟨_, _, hv⟩
  all_goals cases hl

theorem Rep.cellAt {T : Tab} {base : Nat} {ρ : Ren} {h : Heap} {w : World} (r : Rep T base ρ h.get w) {m : Nat} {e : TypeId} {cs : List AV} {p : Place} (hm : h.get m = some (.cells e cs)) (hp : ρ m = some p)
    (off : Nat) {i : Nat} {x : AV} (hx : cs[off + i]? = some x) : ∃ v, w.cell? ((p.addr off).add i) = some v ∧ VRel ρ x v := by
  obtain ⟨ad, h1, _, h2⟩ := r.look (T := T) (a := .ptr m off) (ca := .pointer (some (p.addr off))) (by simp only [VRel]; exact ⟨p, hp, rfl⟩) (cs := cs) (off := off) (by simp [lookCells, hm])
  injection h1 with h1; injection h1 with h1; subst h1
  exact h2 i x hx

theorem elemsOf_ok {T : Tab} {P : Program} {base : Nat} {ρ : Ren} {h : Heap} {w : World} (r : Rep T base ρ h.get w) {size n : Nat} {a : AV} {v : Value} {xs : List AV}
    (hv : VRel ρ a v) (he : elemsOf h size n a = some xs) :
    ∃ vs : List Value, VRels ρ xs vs ∧ xs.length = n * size ∧ ∀ w' : World, w'.heap = w.heap → (Builtin.firstCells size n v).run P w' = .ok vs.toArray w' := by
  cases a <;> simp only [elemsOf] at he
  case slice m o len cap opn =>
    obtain ⟨hle, he2⟩ := ite_bool he
    split at he2
    · rename_i e cs hm
      obtain ⟨hlen, hget⟩ := cut_get he2
      obtain ⟨p, c, hp, rfl⟩ := hv.of_slice
      have hcell : ∀ (i : Nat) (x : AV), xs[i]? = some x → ∃ u, w.cell? ((p.addr o).add i) = some u ∧ VRel ρ x u := fun i x hx => by
        have hlt : i < xs.length := by
          rcases Nat.lt_or_ge i xs.length with h1 | h1
          · exact h1
          · rw [List.getElem?_eq_none h1] at hx; cases hx
        rw [hget i (by omega)] at hx
        exact r.cellAt hm hp o hx
      obtain ⟨vs, _, hvs⟩ := run_loadCells_rel (ρ := ρ) (P := P) (w := w) (ad := p.addr o) (xs := xs) hcell
      -- the list is one for all such worlds
      have huniq : ∀ w' : World, w'.heap = w.heap → ∀ a, w'.cell? a = w.cell? a := fun w' e a => by simp [World.cell?, e]
      let f : Nat → Value := fun i => (w.cell? ((p.addr o).add i)).getD undef
      have hrel : VRels ρ xs ((List.range xs.length).map f) := VRels.of_get (by simp) fun i x hi => by
        obtain ⟨u, hu, hr⟩ := hcell i x hi
        have hlt : i < xs.length := by
          rcases Nat.lt_or_ge i xs.length with h1 | h1
          · exact h1
          · rw [List.getElem?_eq_none h1] at hi; cases hi
        exact ⟨u, by simp [hlt, f, hu], hr⟩
      refine ⟨(List.range xs.length).map f, hrel, hlen, fun w' e => ?_⟩
      have hl : ((List.range xs.length).map f).length = n * size := by simp [hlen]
      refine run_firstCells_some (P := P) w' size n (p.addr o) len c _ hl fun j u hu => ?_
      rw [huniq w' e]
      have hlt : j < xs.length := by
        rcases Nat.lt_or_ge j xs.length with h1 | h1
        · exact h1
        · rw [List.getElem?_eq_none (by simpa using h1)] at hu; cases hu
      obtain ⟨u', hu', _⟩ := hcell j xs[j] (by simp [hlt])
      simp [hlt, f, hu'] at hu
      subst hu; exact hu'
    · cases he2
  case empty =>
    obtain ⟨hz, he2⟩ := ite_bool he
    rw [beq_true] at hz; subst hz; injection he2 with he2; subst he2
    simp only [VRel] at hv; obtain ⟨a, c, rfl⟩ := hv
    exact ⟨[], VRels.nil ρ, by simp, fun w' _ => by simp [Builtin.firstCells, loadCells, loadCellsFrom]⟩
  case nilslice =>
    obtain ⟨hz, he2⟩ := ite_bool he
    rw [beq_true] at hz; subst hz; injection he2 with he2; subst he2
    simp only [VRel] at hv; subst hv
    exact ⟨[], VRels.nil ρ, by simp, fun w' _ => by simp [Builtin.firstCells]⟩
  all_goals cases he

end Go.Tame
