/- One operation: what the evaluator does, the model does. -/
import Derived.Test.YtobkmmlodmdlgaaGreatDoorTameFill
import Derived.Walk
import Derived.Laws.Slices
set_option linter.all false
namespace Go.Tame
open Go

/-- the operation has been done -/
def Done (T : Tab) (base : Nat) (ρ : Ren) (h : Heap) (nx : Nat) (w : World) (v : AV) (h' : Heap) (nx' : Nat) (res : Result Next) : Prop :=
  ∃ ρ' cv w', (res = .ok (.value cv) w' ∨ (res = .ok .skip w' ∧ cv = undef)) ∧ VRel ρ' v cv ∧ Rep T base ρ' h'.get w' ∧ Ext ρ h.get nx w ρ' h'.get nx' w'

def OpOk (T : Tab) (base : Nat) (ρ : Ren) (h : Heap) (nx : Nat) (w : World) : ORes → Result Next → Prop
  | .val v h' nx', res => Fresh ρ nx nx' → Done T base ρ h nx w v h' nx' res
  | .enter f args, res => ∃ cargs, res = .ok (.enter f cargs.toArray) w ∧ VRels ρ args cargs
  | .round m args, res => ∃ fn fnw st pend sz t ps assign body dfr p tmps cargs, h.get m = some (.loop fn st pend sz t ps assign body dfr) ∧ ρ m = some p ∧ VRels ρ args cargs ∧ ps.length = cargs.length ∧ ERel ρ sz t tmps ∧
      res = .ok (.round p.block fnw ((ps.toArray.zip cargs.toArray).foldl (fun ts (q, v) => ts.setIfInBounds q v) tmps) assign body) w

section
variable {T : Tab} {P : Program} {base : Nat} {ρ : Ren} {h h' : Heap} {w : World} {nx nx' : Nat} {sz : Nat} {t : Env} {a : Act} {x : ORes}

theorem OpOk.pure {v : AV} {cv : Value} {res : Result Next} (r : Rep T base ρ h.get w) (hv : VRel ρ v cv) (he : res = .ok (.value cv) w) : OpOk T base ρ h nx w (.val v h nx) res :=
  fun _ => ⟨ρ, cv, w, .inl he, hv, r, Ext.refl _ _ _ _⟩

theorem OpOk.unit {ρ' : Ren} {w' : World} {res : Result Next} (r : Rep T base ρ' h'.get w') (he : res = .ok .skip w') (hx : Ext ρ h.get nx w ρ' h'.get nx' w') : OpOk T base ρ h nx w (.val undefA h' nx') res :=
  fun _ => ⟨ρ', undef, w', .inr ⟨he, rfl⟩, by simp only [undefA, VRel, undef]; exact ⟨[], rfl, VRels.nil _⟩, r, hx⟩

theorem ret_some {v : Option AV} (hh : ret h nx v = some x) : ∃ u, v = some u ∧ x = .val u h nx := by
  cases v with
  | none => cases hh
  | some u => injection hh with hh; exact ⟨u, rfl, hh.symm⟩

theorem retH_some {v : AV} {o : Option Heap} (hh : retH nx v o = some x) : ∃ h', o = some h' ∧ x = .val v h' nx := by
  cases o with
  | none => cases hh
  | some u => injection hh with hh; exact ⟨u, rfl, hh.symm⟩

theorem undefRel : VRel ρ undefA undef := by simp only [undefA, VRel, undef]; exact ⟨[], rfl, VRels.nil _⟩

variable (ok : TabOk T P) (r : Rep T base ρ h.get w) (e : ERel ρ sz t a.tmps)
include ok r e

theorem ok_move {o : Oper} {y : Operand} (ho : o.op = .move y ∨ o.op = .assign y) (hh : ret h nx (val t y) = some x) : OpOk T base ρ h nx w x ((execOp a.eval o).run P w) := by
  obtain ⟨u, hu, rfl⟩ := ret_some hh
  refine OpOk.pure r (e.val hu) ?_
  rcases ho with ho | ho <;> simp [execOp, ho]

theorem ok_pick {o : Oper} {c y z : Operand} (ho : o.op = .pick c y z) (hh : opA T t h nx (.pick c y z) = some x) : OpOk T base ρ h nx w x ((execOp a.eval o).run P w) := by
  simp only [opA] at hh
  split at hh
  · rename_i b u v hc hy hz
    injection hh with hh; subst hh
    have h1 := e.val hc; have h2 := e.val hy; have h3 := e.val hz
    simp only [VRel] at h1
    cases b with
    | true => exact OpOk.pure r h2 (by simp [execOp, ho, h1, asBool])
    | false => exact OpOk.pure r h3 (by simp [execOp, ho, h1, asBool])
  · cases hh

/-- a new block, at once -/
theorem OpOk.made {b : Blk} {o : Obj} {cap : Option Nat} {v : AV} {cv : Value} {res : Result Next} {h' : Heap} (hn : newA h nx b = some (h', nx')) (hb : BRel T ρ ⟨w.heap.size, 0, cap⟩ b o)
    (hv : VRel (ρ.add nx ⟨w.heap.size, 0, cap⟩) v cv) (he : res = .ok (.value cv) (w.alloc o)) : OpOk T base ρ h nx w (.val v h' nx') res := fun hf => by
  obtain ⟨hr, hx⟩ := newA_ok r hn hf hb
  exact ⟨_, cv, _, .inl he, hv, hr, hx⟩

theorem zeroCellsRel {ti : TI} {i : TypeInfo} {d : TypeDesc} {z : Value} {ty : TypeId} (hi : TIOk P ty ti i d z) : VRels ρ ti.zero z.cells.toList := hi.cells.none_le

theorem ok_alloc {o : Oper} {ty : TypeId} (ho : o.op = .alloc ty) (hh : opA T t h nx (.alloc ty) = some x) : OpOk T base ρ h nx w x ((execOp a.eval o).run P w) := by
  simp only [opA] at hh
  split at hh
  · rename_i ti ht
    obtain ⟨i, d, z, hi⟩ := ok.types ty ti ht
    split at hh
    · rename_i h2 nx2 hn
      injection hh with hh; subst hh
      refine OpOk.made ok r e hn (BRel.row hi.cells.none_le ty w.heap.size) (VRel.at_ptr (Ren.add_at _ _ _) 0) ?_
      simp [execOp, ho, Instr.alloc, hi.run_zeroValue, newVar, newRow, Place.addr]
    · cases hh
  · cases hh

theorem ok_box {o : Oper} {ty : TypeId} {y : Operand} (ho : o.op = .box ty y) (hh : opA T t h nx (.box ty y) = some x) : OpOk T base ρ h nx w x ((execOp a.eval o).run P w) := by
  simp only [opA] at hh
  split at hh
  · rename_i v hv
    split at hh
    · rename_i h2 nx2 hn
      injection hh with hh; subst hh
      refine OpOk.made ok r e hn (BRel.row (e.val hv).cells ty w.heap.size) (VRel.at_ptr (Ren.add_at _ _ _) 0) ?_
      simp [execOp, ho, Instr.box, newVar, newRow, Place.addr]
    · cases hh
  · cases hh

theorem ok_load {o : Oper} {ty : TypeId} {y : Operand} (ho : o.op = .load ty y) (hh : opA T t h nx (.load ty y) = some x) : OpOk T base ρ h nx w x ((execOp a.eval o).run P w) := by
  simp only [opA] at hh
  split at hh
  · rename_i v hv
    obtain ⟨u, hu, rfl⟩ := ret_some hh
    obtain ⟨cv, hrun, hr⟩ := loadA_ok ok r (e.val hv) hu
    exact OpOk.pure r hr (by simp [execOp, ho, hrun])
  · cases hh

theorem ok_store {o : Oper} {ty : TypeId} {y z : Operand} (ho : o.op = .store ty y z) (hh : opA T t h nx (.store ty y z) = some x) : OpOk T base ρ h nx w x ((execOp a.eval o).run P w) := by
  simp only [opA] at hh
  split at hh
  · rename_i u v hu hv
    obtain ⟨h2, hs, rfl⟩ := retH_some hh
    obtain ⟨w', hrun, hr, hx⟩ := storeA_ok ok r (e.val hu) (e.val hv) hs nx
    exact OpOk.unit hr (by simp [execOp, ho, hrun]) hx
  · cases hh

theorem ok_nilCheck {o : Oper} {y : Operand} (ho : o.op = .nilCheck y) (hh : opA T t h nx (.nilCheck y) = some x) : OpOk T base ρ h nx w x ((execOp a.eval o).run P w) := by
  simp only [opA] at hh
  split at hh
  · rename_i m k hv
    injection hh with hh; subst hh
    have hv' := e.val hv
    obtain ⟨p, hp, hq⟩ := hv'.of_ptr
    exact OpOk.pure r hv' (by simp [execOp, ho, hq])
  · rename_i m k hv
    injection hh with hh; subst hh
    have hv' := e.val hv
    have hq := hv'; simp only [VRel] at hq
    exact OpOk.pure r hv' (by simp [execOp, ho, hq])
  · rename_i f c d hv
    injection hh with hh; subst hh
    have hv' := e.val hv
    have hq := hv'; simp only [VRel] at hq
    obtain ⟨l1, l2, hq, _, _⟩ := hq
    exact OpOk.pure r hv' (by simp [execOp, ho, hq])
  · cases hh

omit ok r e in
theorem arith_ok {op : BinOp} {k : IntKind} {c d : Int} {v : AV} (ty : TypeId) (hop : op ≠ .shl ∧ op ≠ .shr) (hh : arith op k c d = some v) : ∃ cv, VRel ρ v cv ∧ (binOp op ty (.int k c) (.int k d)).run P w = .ok cv w := by
  obtain ⟨h1, h2⟩ := hop
  cases op <;> simp only [arith] at hh <;> try (first | exact absurd rfl h1 | exact absurd rfl h2)
  case quo =>
    cases hd : decide (d = 0) with
    | true => rw [hd] at hh; simp at hh
    | false =>
      rw [hd] at hh; simp only [cond_false] at hh; injection hh with hh; subst hh
      simp only [decide_eq_false_iff_not] at hd
      exact ⟨_, rfl, by simp [binOp, Op.intDiv, hd]⟩
  case rem =>
    cases hd : decide (d = 0) with
    | true => rw [hd] at hh; simp at hh
    | false =>
      rw [hd] at hh; simp only [cond_false] at hh; injection hh with hh; subst hh
      simp only [decide_eq_false_iff_not] at hd
      exact ⟨_, rfl, by simp [binOp, Op.intDiv, hd]⟩
  all_goals (injection hh with hh; subst hh; exact ⟨_, rfl, by simp [binOp, Op.intArith, Op.intBits, Op.intCmp]⟩)

omit ok r e in
theorem shift_ok {op : BinOp} {k : IntKind} (k' : IntKind) {c d : Int} {v : AV} (ty : TypeId) (hop : op = .shl ∨ op = .shr) (hh : shiftA op k c d = some v) : ∃ cv, VRel ρ v cv ∧ (binOp op ty (.int k c) (.int k' d)).run P w = .ok cv w := by
  unfold shiftA at hh
  cases hd : decide (d < 0) with
  | true => rw [hd] at hh; simp at hh
  | false =>
    rw [hd] at hh; simp only [cond_false] at hh
    simp only [decide_eq_false_iff_not] at hd
    rcases hop with rfl | rfl <;> (injection hh with hh; subst hh; exact ⟨_, rfl, by simp [binOp, Op.shift, hd]⟩)

omit ok r e in
theorem VRel.of_leaf {u : AV} {c : Value} (hu : VRel ρ u c) (hc : (∃ k n, c = .int k n) ∨ (∃ k n, c = .float k n) ∨ (∃ k m n, c = .complex k m n) ∨ (∃ s, c = .string s)) : (∃ k n, u = .int k n) ∨ ∃ v, u = .con v := by
  cases u <;> simp only [VRel] at hu
  case int k n => exact .inl ⟨k, n, rfl⟩
  case con v => exact .inr ⟨v, rfl⟩
  case ptr => obtain ⟨_, _, rfl⟩ := hu; simp at hc
  case slice => obtain ⟨_, _, (⟨_, rfl⟩ | ⟨_, _, _, _, rfl⟩)⟩ := hu <;> simp at hc
  case empty => obtain ⟨_, _, rfl⟩ := hu; simp at hc
  case map => obtain ⟨_, _, rfl⟩ := hu; simp at hc
  case func => obtain ⟨_, _, rfl, _⟩ := hu; simp at hc
  case yield => obtain ⟨_, _, rfl⟩ := hu; simp at hc
  case iface => obtain ⟨_, rfl, _⟩ := hu; simp at hc
  case agg => obtain ⟨_, rfl, _⟩ := hu; simp at hc
  case tup => obtain ⟨_, rfl, _⟩ := hu; simp at hc
  all_goals (subst hu; simp at hc)

omit ok r e in
theorem eqA_con_left {ty : TypeId} {v : Value} {y : AV} : eqA T h ty (.con v) y = none := by
  unfold eqA
  split
  · rfl
  · cases y <;> (split <;> simp_all)

omit ok r e in
theorem eqA_con_right {ty : TypeId} {v : Value} {y : AV} : eqA T h ty y (.con v) = none := by
  unfold eqA
  split
  · rfl
  · cases y <;> (split <;> simp_all)

omit ok r e in
theorem eqA_niliface {ty : TypeId} {y : AV} : eqA T h ty .niliface y = none := by
  unfold eqA
  split
  · rfl
  · cases y <;> (split <;> simp_all)

omit ok r e in
theorem binOp_eql_else (ty : TypeId) (c d : Value) (h1 : (∃ k n, c = .int k n) ∧ (∃ k n, d = .int k n) → False) (h2 : (∃ k n, c = .float k n) ∧ (∃ k n, d = .float k n) → False)
    (h3 : (∃ k m n, c = .complex k m n) ∧ (∃ k m n, d = .complex k m n) → False) (h4 : (∃ s, c = .string s) ∧ (∃ s, d = .string s) → False) :
    binOp .eql ty c d = (do pure (.bool (← Op.equal ty c d))) ∧ binOp .neq ty c d = (do pure (.bool (!(← Op.equal ty c d)))) := by
  cases c <;> cases d <;> first
    | exact ⟨rfl, rfl⟩
    | exact (h1 ⟨⟨_, _, rfl⟩, ⟨_, _, rfl⟩⟩).elim
    | exact (h2 ⟨⟨_, _, rfl⟩, ⟨_, _, rfl⟩⟩).elim
    | exact (h3 ⟨⟨_, _, _, rfl⟩, ⟨_, _, _, rfl⟩⟩).elim
    | exact (h4 ⟨⟨_, rfl⟩, ⟨_, rfl⟩⟩).elim

omit e in
/-- == and != of what are no numbers -/
theorem run_eql_ok {ty : TypeId} {u v : AV} {c d : Value} {b : Bool} (hu : VRel ρ u c) (hv : VRel ρ v d) (hh : eqA T h ty u v = some b) (hn : ∀ k m k' n, u = .int k m → v = .int k' n → False) (y z : Operand) :
    (do eqGuard .eql ty y z c d; binOp .eql ty c d).run P w = .ok (.bool b) w ∧ (do eqGuard .neq ty y z c d; binOp .neq ty c d).run P w = .ok (.bool !b) w := by
  have heq := eqA_ok ok r hh hu hv
  have guard : ∀ op, (eqGuard op ty y z c d).run P w = .ok () w := by
    intro op
    by_cases h1 : c = .nilIface ∧ d = .nilIface
    · exfalso
      obtain ⟨rfl, rfl⟩ := h1
      have : u = .niliface ∨ ∃ x, u = .con x := by
        cases u <;> simp only [VRel] at hu
        case niliface => exact .inl rfl
        case con v => exact .inr ⟨v, rfl⟩
        case ptr => obtain ⟨_, _, h0⟩ := hu; cases h0
        case slice => obtain ⟨_, _, (⟨_, h0⟩ | ⟨_, _, _, _, h0⟩)⟩ := hu <;> cases h0
        case empty => obtain ⟨_, _, h0⟩ := hu; cases h0
        case map => obtain ⟨_, _, h0⟩ := hu; cases h0
        case func => obtain ⟨_, _, h0, _⟩ := hu; cases h0
        case yield => obtain ⟨_, _, h0⟩ := hu; cases h0
        case iface => obtain ⟨_, h0, _⟩ := hu; cases h0
        case agg => obtain ⟨_, h0, _⟩ := hu; cases h0
        case tup => obtain ⟨_, h0, _⟩ := hu; cases h0
        all_goals cases hu
      rcases this with rfl | ⟨_, rfl⟩
      · rw [eqA_niliface] at hh; cases hh
      · rw [eqA_con_left] at hh; cases hh
    · by_cases h2 : ∃ cs ds, c = .agg cs ∧ d = .agg ds
      · obtain ⟨cs, ds, rfl, rfl⟩ := h2
        have : ∃ xs ys, u = .agg xs ∧ v = .agg ys := by
          have aggOf : ∀ {u : AV} {cs}, VRel ρ u (.agg cs) → (∃ xs, u = .agg xs) ∨ ∃ x, u = .con x := by
            intro u cs hu
            cases u <;> simp only [VRel] at hu
            case con v => exact .inr ⟨v, rfl⟩
            case ptr => obtain ⟨_, _, h0⟩ := hu; cases h0
            case slice => obtain ⟨_, _, (⟨_, h0⟩ | ⟨_, _, _, _, h0⟩)⟩ := hu <;> cases h0
            case empty => obtain ⟨_, _, h0⟩ := hu; cases h0
            case map => obtain ⟨_, _, h0⟩ := hu; cases h0
            case func => obtain ⟨_, _, h0, _⟩ := hu; cases h0
            case yield => obtain ⟨_, _, h0⟩ := hu; cases h0
            case iface => obtain ⟨_, h0, _⟩ := hu; cases h0
            case agg xs => exact .inl ⟨xs, rfl⟩
            case tup => obtain ⟨_, h0, _⟩ := hu; cases h0
            all_goals cases hu
          rcases aggOf hu with ⟨xs, rfl⟩ | ⟨_, rfl⟩
          · rcases aggOf hv with ⟨ys, rfl⟩ | ⟨_, rfl⟩
            · exact ⟨xs, ys, rfl, rfl⟩
            · rw [eqA_con_right] at hh; cases hh
          · rw [eqA_con_left] at hh; cases hh
        obtain ⟨xs, ys, rfl, rfl⟩ := this
        unfold eqA at hh
        split at hh
        · cases hh
        · rename_i ti ht
          obtain ⟨hp, _⟩ := ite_bool hh
          exact run_eqGuard_agg w op ty y z cs ds (ok.plain ty ti ht hp).guard
      · unfold eqGuard
        split
        · rw [if_neg (by simp)]
          split
          · exact absurd ⟨rfl, rfl⟩ h1
          · exact absurd ⟨_, _, rfl, rfl⟩ h2
          · rfl
        · rw [if_neg (by simp)]
          split
          · exact absurd ⟨rfl, rfl⟩ h1
          · exact absurd ⟨_, _, rfl, rfl⟩ h2
          · rfl
        · rw [if_pos (by simp)]; rfl
  have nope : ((∃ k n, c = .int k n) ∧ (∃ k n, d = .int k n)) ∨ ((∃ k n, c = .float k n) ∧ (∃ k n, d = .float k n)) ∨ ((∃ k m n, c = .complex k m n) ∧ (∃ k m n, d = .complex k m n)) ∨ ((∃ s, c = .string s) ∧ ∃ s, d = .string s) → False := by
    intro hc
    have h1 : (∃ k n, u = .int k n) ∨ ∃ x, u = .con x := hu.of_leaf (by rcases hc with h | h | h | h <;> simp [h.1])
    have h2 : (∃ k n, v = .int k n) ∨ ∃ x, v = .con x := hv.of_leaf (by rcases hc with h | h | h | h <;> simp [h.2])
    rcases h1 with ⟨k, m, rfl⟩ | ⟨_, rfl⟩
    · rcases h2 with ⟨k', n, rfl⟩ | ⟨_, rfl⟩
      · exact hn k m k' n rfl rfl
      · rw [eqA_con_right] at hh; cases hh
    · rw [eqA_con_left] at hh; cases hh
  obtain ⟨b1, b2⟩ := binOp_eql_else ty c d (fun h => nope (.inl h)) (fun h => nope (.inr (.inl h))) (fun h => nope (.inr (.inr (.inl h)))) (fun h => nope (.inr (.inr (.inr h))))
  constructor
  · rw [Sem.run_bind, guard, b1]; simp [heq]
  · rw [Sem.run_bind, guard, b2]; simp [heq]

omit e in
theorem binA_ok {op : BinOp} {ty : TypeId} {u v : AV} {c d : Value} {q : AV} (hu : VRel ρ u c) (hv : VRel ρ v d) (hh : binA T h op ty u v = some q) (y z : Operand) :
    ∃ cv, VRel ρ q cv ∧ (do eqGuard op ty y z c d; binOp op ty c d).run P w = .ok cv w := by
  have guardInt : ∀ (op : BinOp) (k k' : IntKind) (m n : Int), (eqGuard op ty y z (.int k m) (.int k' n)).run P w = .ok () w := fun op k k' m n => by
    cases op <;> simp [eqGuard]
  unfold binA at hh
  split at hh
  · simp only [VRel] at hu hv; subst hu hv
    obtain ⟨cv, h1, h2⟩ := shift_ok (ρ := ρ) (P := P) (w := w) _ ty (.inl rfl) hh
    exact ⟨cv, h1, by rw [Sem.run_bind, guardInt]; exact h2⟩
  · simp only [VRel] at hu hv; subst hu hv
    obtain ⟨cv, h1, h2⟩ := shift_ok (ρ := ρ) (P := P) (w := w) _ ty (.inr rfl) hh
    exact ⟨cv, h1, by rw [Sem.run_bind, guardInt]; exact h2⟩
  · rename_i hn1 hn2
    simp only [VRel] at hu hv; subst hu hv
    obtain ⟨hk, h2⟩ := ite_bool hh
    simp only [decide_eq_true_eq] at hk
    subst hk
    obtain ⟨cv, h3, h4⟩ := arith_ok (ρ := ρ) (P := P) (w := w) ty ⟨fun e => hn1 e, fun e => hn2 e⟩ h2
    exact ⟨cv, h3, by simp [guardInt, h4]⟩
  · rename_i hn1
    split at hh
    · rename_i b hb
      injection hh with hh; subst hh
      exact ⟨_, rfl, (run_eql_ok ok r hu hv hb (fun k m k' n e1 e2 => hn1 _ _ _ _ e1 e2) y z).1⟩
    · cases hh
  · rename_i hn1
    split at hh
    · rename_i b hb
      injection hh with hh; subst hh
      exact ⟨_, rfl, (run_eql_ok ok r hu hv hb (fun k m k' n e1 e2 => hn1 _ _ _ _ e1 e2) y z).2⟩
    · cases hh
  · cases hh

theorem ok_binOp {o : Oper} {op : BinOp} {ty yt : TypeId} {y z : Operand} (ho : o.op = .binOp op ty y z yt) (hh : opA T t h nx (.binOp op ty y z yt) = some x) : OpOk T base ρ h nx w x ((execOp a.eval o).run P w) := by
  simp only [opA] at hh
  split at hh
  · rename_i u v hu hv
    obtain ⟨q, hq, rfl⟩ := ret_some hh
    obtain ⟨cv, h1, h2⟩ := binA_ok ok r (e.val hu) (e.val hv) hq y z
    refine OpOk.pure r h1 ?_
    simp only [execOp, ho]
    rw [Sem.run_bind, h2]; rfl
  · cases hh

theorem ok_unOp {o : Oper} {op : UnOp} {ty : TypeId} {y : Operand} (ho : o.op = .unOp op ty y) (hh : opA T t h nx (.unOp op ty y) = some x) : OpOk T base ρ h nx w x ((execOp a.eval o).run P w) := by
  simp only [opA] at hh
  split at hh
  · rename_i b hb
    injection hh with hh; subst hh
    have := e.val hb; simp only [VRel] at this
    exact OpOk.pure r (cv := .bool !b) rfl (by simp [execOp, ho, this, Op.unary])
  · rename_i k n hb
    injection hh with hh; subst hh
    have := e.val hb; simp only [VRel] at this
    exact OpOk.pure r (cv := .int k (k.wrap (0 - n))) rfl (by simp [execOp, ho, this, Op.unary, Op.intArith])
  · cases hh

theorem ok_convert {o : Oper} {src dst : TypeId} {y : Operand} (ho : o.op = .convert src dst y) (hh : opA T t h nx (.convert src dst y) = some x) : OpOk T base ρ h nx w x ((execOp a.eval o).run P w) := by
  simp only [opA] at hh
  split at hh
  · rename_i tsrc ti k₀ n hts ht hv
    obtain ⟨isrc, ds, zs, his⟩ := ok.types src tsrc hts
    have hs := his.und
    obtain ⟨i, d, z, hi⟩ := ok.types dst ti ht
    split at hh
    · rename_i k hd
      injection hh with hh; subst hh
      have hu := hi.und
      rw [tdOf_int (hi.td.symm.trans hd)] at hu
      have := e.val hv; simp only [VRel] at this
      refine OpOk.pure r (cv := .int k (k.wrap n)) rfl ?_
      simp [execOp, ho, this, convert, run_underlying hs, run_underlying hu, Conv.intToInt]
    · cases hh
  · rename_i tj ti m o' hts ht hv
    obtain ⟨isrc, ds, zs, his⟩ := ok.types src tj hts
    obtain ⟨i, d, z, hi⟩ := ok.types dst ti ht
    split at hh
    · rename_i e' el cs hdj hdi hm
      split at hh
      · rename_i te hte
        obtain ⟨hb, h2⟩ := ite_bool hh
        simp only [Bool.and_eq_true, blt_true, Bool.not_eq_true'] at hb
        injection h2 with h2; subst h2
        obtain ⟨ie, de, ze, hie⟩ := ok.types e' te hte
        have hs := his.und
        rw [tdOf_ptr (his.td.symm.trans hdj)] at hs
        have hu := hi.und
        rw [tdOf_unsafe (hi.td.symm.trans hdi)] at hu
        have hpv := e.val hv
        obtain ⟨p, hp, hev⟩ := hpv.of_ptr
        obtain ⟨p', ob, hp', hbase, hw, c, rfl, hsz, hc, hcap⟩ := r.own m _ hm
        rw [hp] at hp'; injection hp' with hp'; subst hp'
        have hlt : p.off + o' < c.size := by omega
        have hsh : w.shape? p.block = some (el, c.size) := by unfold World.shape?; rw [hw]
        have hz : te.size ≠ 0 := fun h0 => by rw [h0] at hb; exact absurd hb.2 (by decide)
        have hnge : ¬ (c.size ≤ p.off + o') := by omega
        refine OpOk.pure r (VRel.at_ptr hp o') ?_
        simp [execOp, ho, hev, convert, run_underlying hs, run_underlying hu, Conv.unsafePointer, Conv.seenAt, viewAt, cellsIn, Place.addr, hsh, hie.run_sizeOf, hz, hnge]
      · cases hh
    · cases hh
  · cases hh

theorem ok_makeFunc {o : Oper} {fn : Fn} {first caps : Array Operand} (ho : o.op = .makeFunc fn first caps) (hh : opA T t h nx (.makeFunc fn first caps) = some x) : OpOk T base ρ h nx w x ((execOp a.eval o).run P w) := by
  cases fn <;> simp only [opA] at hh
  case func f =>
    split at hh
    · rename_i l1 l2 h1 h2
      injection hh with hh; subst hh
      refine OpOk.pure r (cv := .func (.func f) (first.map a.eval) (caps.map a.eval)) ?_ (by simp [execOp, ho, Instr.makeFunc])
      simp only [VRel]
      exact ⟨(first.map a.eval).toList, (caps.map a.eval).toList, by simp only [Array.toArray_toList], by simpa using e.vals h1, by simpa using e.vals h2⟩
    · cases hh
  all_goals cases hh

theorem ok_makeMap {o : Oper} {ty : TypeId} {y : Option Operand} (ho : o.op = .makeMap ty y) (hh : opA T t h nx (.makeMap ty y) = some x) : OpOk T base ρ h nx w x ((execOp a.eval o).run P w) := by
  have hb : ∀ ρ' : Ren, BRel T ρ' ⟨w.heap.size, 0, none⟩ (.map [] 0) (.map #[] 0) := fun ρ' => ⟨[], rfl, rfl⟩
  have hv : VRel (ρ.add nx ⟨w.heap.size, 0, none⟩) (.map nx) (.map (some w.heap.size)) := by simp only [VRel]; exact ⟨_, Ren.add_at _ _ _, rfl⟩
  cases y with
  | none =>
    simp only [opA] at hh
    split at hh
    · rename_i h2 nx2 hn
      injection hh with hh; subst hh
      exact OpOk.made ok r e hn (hb ρ) hv (by simp [execOp, ho, Instr.makeMap])
    · cases hh
  | some q =>
    simp only [opA] at hh
    split at hh
    · rename_i ti k' n ht hq
      have := e.val hq; simp only [VRel] at this
      obtain ⟨i, d, z, hi⟩ := ok.types ty ti ht
      split at hh
      · rename_i kt et hd
        have hu := hi.und
        rw [tdOf_map (hi.td.symm.trans hd)] at hu
        split at hh
        · rename_i h2 nx2 hn
          injection hh with hh; subst hh
          exact OpOk.made ok r e hn (hb ρ) hv (by simp [execOp, ho, Instr.makeMap, run_underlying hu, this, asInt, asIntOf])
        · cases hh
      · cases hh
    · cases hh

omit ok r e in
theorem VRels.rep {zs : List AV} {z : List Value} (hz : VRels ρ zs z) : ∀ n, VRels ρ (Tame.rep zs n) (Tame.rep z n)
  | 0 => VRels.nil ρ
  | n + 1 => by simp only [Tame.rep]; exact VRels.append hz (VRels.rep hz n)

omit ok r e in
theorem rep_toArray (z : Array Value) (n : Nat) : (Tame.rep z.toList n).toArray = (Array.range (n * z.size)).map (fun i => z[i % z.size]!) := by
  apply Array.ext_getElem?
  intro i
  by_cases hi : i < n * z.size
  · have hz : 0 < z.size := by
      rcases Nat.eq_zero_or_pos z.size with h0 | h0
      · rw [h0] at hi; simp at hi
      · exact h0
    have hm : i % z.size < z.size := Nat.mod_lt _ hz
    rw [List.getElem?_toArray, rep_get _ _ _ (by simpa using hi)]
    simp [hi, hm]
  · rw [Array.getElem?_eq_none (by simp [rep_length]; omega), Array.getElem?_eq_none (by simp; omega)]

theorem ok_makeSlice {o : Oper} {ty : TypeId} {y z : Operand} (ho : o.op = .makeSlice ty y z) (hh : opA T t h nx (.makeSlice ty y z) = some x) : OpOk T base ρ h nx w x ((execOp a.eval o).run P w) := by
  simp only [opA] at hh
  split at hh
  · rename_i ti l c ht hl hc
    obtain ⟨i, d, zz, hi⟩ := ok.types ty ti ht
    split at hh
    · rename_i el hd
      have hu := hi.und
      rw [tdOf_slice (hi.td.symm.trans hd)] at hu
      split at hh
      · rename_i te hte
        obtain ⟨ie, de, ze, hie⟩ := ok.types el te hte
        obtain ⟨hb, h2⟩ := ite_bool hh
        simp only [Bool.and_eq_true, ble_true] at hb
        obtain ⟨⟨hlc, hbytes⟩, hmax⟩ := hb
        split at h2
        · rename_i h3 nx3 hn
          injection h2 with h2; subst h2
          have hlv := e.val hl; have hcv := e.val hc
          simp only [VRel] at hlv hcv
          have hbz : (ie.bytes : Int) * (c : Int) ≤ 281474976710656 := by
            rw [hie.bytes, ← Int.natCast_mul]
            exact Int.ofNat_le.2 (Nat.le_trans hbytes (by decide))
          have hrun := run_make (P := P) w ty el ie ze hu hie.info hie.zero .i64 .i64 (l : Int) (c : Int) (by omega) (by omega) hbz (by omega)
          have hzr := VRels.rep (hie.cells.none_le (ρ := ρ)) c
          have hcells : madeCells ze.cells ((c : Int).toNat * ie.size) = (Tame.rep ze.cells.toList c).toArray := by
            rw [rep_toArray, hie.size, ← hie.shape]; simp [madeCells]
          rw [hcells] at hrun
          refine OpOk.made ok r e hn (BRel.row hzr el w.heap.size) (VRel.closed (Ren.add_at _ _ _) 0 l c) ?_
          have e1 : a.eval y = .int .i64 (l : Int) := hlv
          have e2 : a.eval z = .int .i64 (c : Int) := hcv
          simp [execOp, ho, e1, e2, hrun, Place.addr]
        · cases h2
      · cases hh
    · cases hh
  · cases hh

end
end Go.Tame
