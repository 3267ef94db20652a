/- What a run by the evaluator says of the program: a call returns that value, and the old memory is as it was. -/
import Derived.Test.YtobkmmlodmdlgaaGreatDoorTameTab
import Derived.RowKit3
import Derived.Lib.LaidTab
set_option linter.all false
namespace Go.Tame
open Go

theorem Ext.grown {ρ ρ' : Ren} {h' : HF} {nx nx' : Nat} {w w' : World} (e : Ext ρ (fun _ => none) nx w ρ' h' nx' w') : RowKit.Grown w w' := by
  refine ⟨⟨e.os, e.output, fun i hi => ?_⟩, e.fz, e.size⟩
  rw [e.frame i hi fun m blk p hm => (by cases hm)]
  cases h : w.heap[i]? with
  | none => simp
  | some o =>
    cases o
    case cells c t fr => obtain ⟨lo, hi⟩ := fr; exact ⟨rfl, rfl, rfl, fun _ _ => rfl⟩
    case map es cl => exact .inr ⟨rfl, rfl⟩
    all_goals rfl

/-- the listed variables hold what the table says -/
def Globs (T : Tab) (w : World) : Prop := ∀ g cs, T.globs.get g = some cs → ∃ c e fz, w.heap[g]? = some (.cells c e fz) ∧ ∀ (i : Nat) (a : AV), cs[i]? = some a → ∃ v, c[i]? = some v ∧ VRel (fun _ => none) a v

theorem calls_run {T : Tab} {P : Program} (ok : TabOk T P) (ov : OverOk T) (hmix : P.follows .mixedOrders = true) (hplan : ∀ f fn c, T.funcs.get f = some fn → fn.body = some c → planned T f c = true)
    {n : Nat} {f : FuncId} {args : List AV} {cargs : List Value} {v : AV} {h' : Heap} {nx' : Nat} (he : (ev T n).call f args .nil 0 = some (v, h', nx')) {w : World} (hargs : VRels (fun _ => none) args cargs) (hg : Globs T w) :
    Calls P f cargs.toArray w fun e w' => ∃ ρ' cv, e = .returned cv ∧ VRel ρ' v cv ∧ RowKit.Grown w w' := by
  have hc := (ev_ok (base := w.heap.size) ok ov hmix hplan n).1
  obtain ⟨_, k⟩ := hc _ _ _ _ _ _ _ he
  have r : Rep T w.heap.size (fun _ => none) (Tr.nil : Heap).get w := ⟨Nat.le_refl _, fun m b hm => (by cases hm), fun m n b c p q hm => (by cases hm), fun g cs hgc =>
    let ⟨c, e, fz, hw, hv⟩ := hg g cs hgc
    ⟨(Array.getElem?_eq_some_iff.1 hw).1, c, e, fz, hw, hv⟩⟩
  have := k (fun _ => none) w cargs r hargs (fun m _ _ => rfl)
  have hcalls := (callsIn_wide (n := 0)).1 (show CallsIn Fence.wide 0 P f cargs.toArray w _ from this)
  refine hcalls.mono fun e w' hh => ?_
  obtain ⟨ρ', cv, h1, h2, _, h4⟩ := hh
  exact ⟨ρ', cv, h1, h2, Ext.grown h4⟩

def isTrue : Option (AV × Heap × Nat) → Bool
  | some (.bool b, _, _) => b
  | _ => false

/-- the run answers true -/
theorem calls_true {T : Tab} {P : Program} (ok : TabOk T P) (ov : OverOk T) (hmix : P.follows .mixedOrders = true) (hplan : ∀ f fn c, T.funcs.get f = some fn → fn.body = some c → planned T f c = true)
    {n : Nat} {f : FuncId} {args : List AV} {cargs : List Value} (he : isTrue ((ev T n).call f args .nil 0) = true) {w : World} (hargs : VRels (fun _ => none) args cargs) (hg : Globs T w) :
    Calls P f cargs.toArray w fun e w' => e = .returned (.bool true) ∧ RowKit.Grown w w' := by
  cases hr : (ev T n).call f args .nil 0 with
  | none => rw [hr] at he; cases he
  | some r =>
    obtain ⟨v, h', nx'⟩ := r
    rw [hr] at he
    cases v <;> simp only [isTrue] at he <;> try (cases he; done)
    subst he
    refine (calls_run ok ov hmix hplan hr hargs hg).mono fun e w' hh => ?_
    obtain ⟨ρ', cv, h1, h2, h3⟩ := hh
    simp only [VRel] at h2; subst h2
    exact ⟨h1, h3⟩

/-! ### the listed variables, out of a row's condition -/
def flatFields (g : TypeId → DataW Unit → Option (List Value)) (P : Program) : Nat → List Field → List (DataW Unit) → Option (List Value)
  | _, [], [] => some []
  | o, f :: fs, d :: ds => match g f.type d with
    | some x => bif Nat.beq f.offset o && Nat.beq x.length (P.cellsOf f.type) then (match flatFields g P (o + x.length) fs ds with
      | some r => some (x ++ r)
      | none => none) else none
    | none => none
  | _, _, _ => none

def flatElems (g : DataW Unit → Option (List Value)) (size : Nat) : List (DataW Unit) → Option (List Value)
  | [] => some []
  | d :: ds => match g d with
    | some x => bif Nat.beq x.length size then (match flatElems g size ds with
      | some r => some (x ++ r)
      | none => none) else none
    | none => none

def flatD (P : Program) : Nat → TypeId → DataW Unit → Option (List Value)
  | 0, _, _ => none
  | fuel + 1, t, d => match P.underlying t, d with
    | some .bool, .lit (.bool b) => some [.bool b]
    | some (.int k), .lit (.int k' n) => bif decide (k = k') then some [.int k n] else none
    | some (.struct fs), .agg ds => match flatFields (flatD P fuel) P 0 fs.toList ds with
      | some x => bif Nat.beq x.length (P.cellsOf t) then some x else none
      | none => none
    | some (.array n e), .agg ds => match flatElems (flatD P fuel e) (P.cellsOf e) ds with
      | some x => bif Nat.beq x.length (P.cellsOf t) && Nat.beq ds.length n then some x else none
      | none => none
    | _, _ => none

theorem trod_flat {P : Program} {w : World} {enc : TypeId × Value → Unit} {base : Nat} {sp : Nat → Bool} {held : Bool} : ∀ (fuel' fuel : Nat) (t : TypeId) (cs : List Value) (d : DataW Unit) (p : List MemPlace) (xs : List Value),
    DataW.trod enc P w base sp held fuel t cs = some (d, p) → flatD P fuel' t d = some xs → cs = xs
  | 0, _, _, _, _, _, _, _, h => by cases h
  | fuel' + 1, 0, _, _, _, _, _, h, _ => by simp [DataW.trod] at h
  | fuel' + 1, fuel + 1, t, cs, d, p, xs, h, hf => by
    have ih := trod_flat (P := P) (w := w) (enc := enc) (base := base) (sp := sp) (held := held) fuel'
    simp only [flatD] at hf
    split at hf
    · rename_i b hu
      injection hf with hf; subst hf
      simp only [DataW.trod, hu] at h
      split at h
      · simp at h; simp [h]
      all_goals (first | (cases h; done) | (simp at h; done) | simp_all)
    · rename_i k k' n hu
      obtain ⟨h1, h2⟩ := ite_bool hf
      injection h2 with h2; subst h2
      simp only [DataW.trod, hu] at h
      split at h
      all_goals (first | (cases h; done) | (simp at h; done) | simp_all)
    · rename_i fs ds hu
      split at hf
      · rename_i x hx
        obtain ⟨h1, h2⟩ := ite_bool hf
        injection h2 with h2; subst h2
        have hlen := beq_true.1 h1
        simp only [DataW.trod, hu] at h
        split at h
        · rename_i hcl
          obtain ⟨ys, hm, hy⟩ := Option.map_eq_some_iff.1 h
          simp only [Prod.mk.injEq, DataW.agg.injEq] at hy
          obtain ⟨hy, _⟩ := hy
          have key : ∀ (l : List Field) (ds : List (DataW Unit)) (ys : List (DataW Unit × List MemPlace)) (o : Nat) (x : List Value), l.mapM (fun f => DataW.trod enc P w base sp held fuel f.type ((cs.drop f.offset).take (P.cellsOf f.type))) = some ys →
              ys.map (·.1) = ds → flatFields (flatD P fuel') P o l ds = some x → (cs.drop o).take x.length = x := by
            intro l
            induction l with
            | nil =>
              intro ds ys o x _ _ hx
              cases ds with
              | nil => simp only [flatFields] at hx; injection hx with hx; subst hx; simp
              | cons _ _ => simp [flatFields] at hx
            | cons f l ihl =>
              intro ds ys o x hm hy hx
              simp only [List.mapM_cons, Option.bind_eq_bind, Option.bind_eq_some_iff, Option.pure_def, Option.some.injEq] at hm
              obtain ⟨y, hy1, ys', hm', rfl⟩ := hm
              subst hy
              simp only [List.map_cons, flatFields] at hx
              split at hx
              · rename_i z hz
                obtain ⟨g1, g2⟩ := ite_bool hx
                simp only [Bool.and_eq_true, beq_true] at g1
                split at g2
                · rename_i r hr
                  injection g2 with g2; subst g2
                  have e1 := ih fuel f.type _ _ _ z hy1 hz
                  have e2 := ihl _ ys' (o + z.length) r hm' rfl hr
                  rw [g1.1, ← g1.2] at e1
                  rw [List.length_append, List.take_add, e1, List.drop_drop, e2]
                · cases g2
              · cases hx
          have := key fs.toList ds ys 0 x hm hy hx
          rw [List.drop_zero, hlen, ← hcl, List.take_length] at this
          exact this
        · cases h
      · cases hf
    · rename_i n e ds hu
      split at hf
      · rename_i x hx
        obtain ⟨h1, h2⟩ := ite_bool hf
        injection h2 with h2; subst h2
        simp only [Bool.and_eq_true, beq_true] at h1
        simp only [DataW.trod, hu] at h
        split at h
        · rename_i hcl
          obtain ⟨ys, hm, hy⟩ := Option.map_eq_some_iff.1 h
          simp only [Prod.mk.injEq, DataW.agg.injEq] at hy
          obtain ⟨hy, _⟩ := hy
          have key : ∀ (m s : Nat) (ds : List (DataW Unit)) (ys : List (DataW Unit × List MemPlace)) (x : List Value), (List.range' s m).mapM (fun i => DataW.trod enc P w base sp held fuel e ((cs.drop (i * P.cellsOf e)).take (P.cellsOf e))) = some ys →
              ys.map (·.1) = ds → flatElems (flatD P fuel' e) (P.cellsOf e) ds = some x → (cs.drop (s * P.cellsOf e)).take x.length = x := by
            intro m
            induction m with
            | zero =>
              intro s ds ys x hm hy hx
              simp at hm; subst hm
              subst hy
              simp only [List.map_nil, flatElems] at hx; injection hx with hx; subst hx; simp
            | succ m ihm =>
              intro s ds ys x hm hy hx
              rw [List.range'_succ] at hm
              simp only [List.mapM_cons, Option.bind_eq_bind, Option.bind_eq_some_iff, Option.pure_def, Option.some.injEq] at hm
              obtain ⟨y, hy1, ys', hm', rfl⟩ := hm
              subst hy
              simp only [List.map_cons, flatElems] at hx
              split at hx
              · rename_i z hz
                obtain ⟨g1, g2⟩ := ite_bool hx
                have g1 := beq_true.1 g1
                split at g2
                · rename_i r hr
                  injection g2 with g2; subst g2
                  have e1 := ih fuel e _ _ _ z hy1 hz
                  have e2 := ihm (s + 1) _ ys' r hm' rfl hr
                  rw [← g1] at e1 e2
                  rw [← g1, List.length_append, List.take_add, e1, List.drop_drop]
                  rw [Nat.add_mul, Nat.one_mul] at e2
                  rw [e2]
                · cases g2
              · cases hx
          rw [List.range_eq_range'] at hm
          have := key n 0 ds ys x hm hy hx
          rw [Nat.zero_mul, List.drop_zero, h1.1, ← hcl, List.take_length] at this
          exact this
        · cases h
      · cases hf
    · cases hf

theorem laid_cells {P : Program} {W : World} : ∀ {laid : List (String × DataW Unit)} {ps : List MemPlace}, DataW.LaidVars P W laid ps → ∀ e ∈ laid, ∃ g t cs, P.globalNamed e.1 = some g ∧ (P.globals[g]?).map (·.type) = some t ∧ W.var? P e.1 = some cs ∧
    ∀ (fuel : Nat) (xs : List Value), flatD P fuel t e.2 = some xs → cs.toList = xs
  | [], _, _, e, he => by cases he
  | x :: l, ps, h, e, he => by
    obtain ⟨g', t', cs, fuel, p, q, hg', ht', hvar, hd, hrest, _⟩ := h
    rcases List.mem_cons.1 he with rfl | he
    · exact ⟨g', t', cs, hg', ht', hvar, fun fuel' xs hx => trod_flat fuel' fuel t' cs.toList e.2 p xs hd hx⟩
    · exact laid_cells hrest e he

def globOk (P : Program) (laid : List (String × DataW Unit)) (x : Nat × List AV) : Bool :=
  laid.any fun e => match P.globalNamed e.1, (P.globals[x.1]?).map (·.type) with
    | some g, some t => Nat.beq g x.1 && (match flatD P 10 t e.2 with | some xs => relLeafs x.2 xs | none => false)
    | _, _ => false

theorem globs_of_laid {T : Tab} {P : Program} {W : World} {laid : List (String × DataW Unit)} {glL : List (Nat × List AV)} (hT : T.globs = ofList glL) (hs : small glL = true) (hck : eachB (globOk P laid) glL = true) (h : laidMet P laid W) : Globs T W := by
  intro g cs hg
  rw [hT] at hg
  have hm := eachB_mem hck _ (ofList_get hs hg)
  simp only [globOk, List.any_eq_true] at hm
  obtain ⟨e, he, hm⟩ := hm
  split at hm
  · rename_i g1 t1 hg1 ht1
    simp only [Bool.and_eq_true, beq_true] at hm
    obtain ⟨rfl, hm⟩ := hm
    split at hm
    · rename_i xs hxs
      obtain ⟨ps, hlv, _⟩ := h
      obtain ⟨g2, t2, c, hg2, ht2, hvar, hflat⟩ := laid_cells hlv e he
      rw [hg1] at hg2; injection hg2 with hg2; subst hg2
      rw [ht1] at ht2; injection ht2 with ht2; subst ht2
      have hc := hflat 10 xs hxs
      unfold World.var? at hvar
      rw [hg1] at hvar
      simp only [Option.bind_some] at hvar
      split at hvar
      · rename_i c' el fz hw
        injection hvar with hvar; subst hvar
        refine ⟨c', el, fz, hw, fun i a hi => ?_⟩
        obtain ⟨v, hv, hr⟩ := (relLeafs_ok (ρ := fun _ => none) hm).get hi
        refine ⟨v, ?_, hr⟩
        rw [← Array.getElem?_toList, hc]; exact hv
      · cases hvar
    · cases hm
  · cases hm

end Go.Tame
