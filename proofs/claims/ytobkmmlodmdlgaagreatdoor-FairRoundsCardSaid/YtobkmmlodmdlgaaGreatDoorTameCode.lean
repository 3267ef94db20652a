/- Regions in the order of the text, code, calls. -/
import Derived.Test.YtobkmmlodmdlgaaGreatDoorTameIdle
import Derived.CallsIn
import Derived.OrdersIn
import Derived.Scope
set_option linter.all false
namespace Go.Tame
open Go

def FW (r : Option Nat) : Fence := { fn := fun _ => True, depth := none, alive := false, round := r }

def CallOk (T : Tab) (P : Program) (base : Nat) (call : CallF) : Prop :=
  ∀ f args h nx v h' nx', call f args h nx = some (v, h', nx') → nx ≤ nx' ∧
    ∀ (ρ : Ren) (w : World) (cargs : List Value), Rep T base ρ h.get w → VRels ρ args cargs → Fresh ρ nx nx' →
      CallsIn (FW none) 0 P f cargs.toArray w fun e w' => ∃ ρ' cv, e = .returned cv ∧ VRel ρ' v cv ∧ Rep T base ρ' h'.get w' ∧ Ext ρ h.get nx w ρ' h'.get nx' w'

def RoundOk (T : Tab) (P : Program) (base : Nat) (round : RoundF) : Prop :=
  ∀ m args h nx v h' nx', round m args h nx = some (v, h', nx') → nx ≤ nx' ∧
    ∀ fn fnw st pend sz t ps assign body dfr (ρ : Ren) (w : World) p tmps (cargs : List Value), h.get m = some (.loop fn st pend sz t ps assign body dfr) → ρ m = some p → Rep T base ρ h.get w → VRels ρ args cargs →
      ps.length = cargs.length → ERel ρ sz t tmps → Fresh ρ nx nx' →
      RoundIn (FW none) 0 P p.block fnw ((ps.toArray.zip cargs.toArray).foldl (fun ts (q, v) => ts.setIfInBounds q v) tmps) assign body w fun e w' =>
        ∃ ρ' cv, e = .returned cv ∧ VRel ρ' v cv ∧ Rep T base ρ' h'.get w' ∧ Ext ρ h.get nx w ρ' h'.get nx' w'

def resOf (call : CallF) (round : RoundF) (h : Heap) (nx : Nat) : ORes → Option (AV × Heap × Nat)
  | .val v h' nx' => some (v, h', nx')
  | .enter f args => call f args h nx
  | .round m args => round m args h nx

section
variable {T : Tab} {P : Program} {base : Nat} {call : CallF} {round : RoundF} (ok : TabOk T P) (ov : OverOk T) (hc : CallOk T P base call) (hd : RoundOk T P base round)
include ok ov hc hd

omit ok ov in
theorem resOf_cnt {t : Env} {h : Heap} {nx : Nat} {op : Op} {x : ORes} {v : AV} {h' : Heap} {nx' : Nat} (hx : opA T t h nx op = some x) (hr : resOf call round h nx x = some (v, h', nx')) : nx ≤ nx' := by
  cases x with
  | val u g n => simp only [resOf, Option.some.injEq, Prod.mk.injEq] at hr; obtain ⟨_, _, rfl⟩ := hr; exact opA_cnt hx
  | enter f args => exact (hc _ _ _ _ _ _ _ hr).1
  | round m args => exact (hd _ _ _ _ _ _ _ hr).1

theorem oper_ok {ρ : Ren} {h : Heap} {w : World} {nx sz : Nat} {t : Env} {a : Act} {x : ORes} {v : AV} {h' : Heap} {nx' : Nat} {o : Oper} {ro : Option Nat} {K : Act → World → Prop} {Q : Exit → Act → World → Prop}
    (hx : opA T t h nx o.op = some x) (hr : resOf call round h nx x = some (v, h', nx')) (r : Rep T base ρ h.get w) (e : ERel ρ sz t a.tmps) (hf : Fresh ρ nx nx')
    (hK : ∀ ρ' cv w', VRel ρ' v cv → Rep T base ρ' h'.get w' → Ext ρ h.get nx w ρ' h'.get nx' w' → K (a.put o.dst cv) w') : o.wpIn (FW ro) 0 P a w K Q := by
  have hnd : ∀ c, o.op ≠ .defer c := fun c hcc => by rw [hcc] at hx; simp [opA] at hx
  refine ⟨fun _ _ => trivial, ?_⟩
  rw [Oper.semAt_eq _ _ _ hnd]
  have key := opA_ok ok ov r e hx
  cases x with
  | val u g n =>
    simp only [resOf, Option.some.injEq, Prod.mk.injEq] at hr; obtain ⟨rfl, rfl, rfl⟩ := hr
    obtain ⟨ρ', cv, w', hres, hv, hr', hx'⟩ := key hf
    rcases hres with hres | ⟨hres, rfl⟩
    · rw [hres]; exact hK ρ' cv w' hv hr' hx'
    · rw [hres]; exact hK ρ' undef w' hv hr' hx'
  | enter f args =>
    obtain ⟨cargs, hres, hva⟩ := key
    rw [hres]
    refine ⟨fun hh => by simp [FW] at hh, ?_⟩
    have hcall := (hc _ _ _ _ _ _ _ hr).2 ρ w cargs r hva hf
    refine CallsIn.mono (F := FW ro) hcall fun en w' he => ?_
    obtain ⟨ρ', cv, rfl, hv, hr', hx'⟩ := he
    exact hK ρ' cv w' hv hr' hx'
  | round m args =>
    obtain ⟨fn, fnw, st, pend, sz2, t2, ps, assign, body, dfr, p, tmps, cargs, hm, hp, hva, hl, he, hres⟩ := key
    rw [hres]
    refine ⟨fun hh => by simp [FW] at hh, ?_⟩
    have hround := (hd _ _ _ _ _ _ _ hr).2 fn fnw st pend sz2 t2 ps assign body dfr ρ w p tmps cargs hm hp r hva hl he hf
    refine RoundIn.mono (F := FW ro) hround fun en w' he => ?_
    obtain ⟨ρ', cv, rfl, hv, hr', hx'⟩ := he
    exact hK ρ' cv w' hv hr' hx'

omit ok ov hc hd in
theorem wanted_ok {ρ : Ren} {sz : Nat} {t : Env} {a : Act} (e : ERel ρ sz t a.tmps) {ops : Array Oper} {o : Oper} {b : Bool} (hw : wantedA t ops o = some b) : Region.wanted o (yielded ops a.tmps) = b := by
  unfold wantedA at hw
  unfold Region.wanted
  split at hw
  · rename_i hg; rw [hg]; injection hw
  · rename_i j want hg
    rw [hg]
    split at hw
    · rename_i d hd
      split at hw
      · rename_i c hc
        injection hw with hw; subst hw
        obtain ⟨v, hv, hr⟩ := e.get d _ hc
        simp only [VRel] at hr; subst hr
        simp only [yielded, hd, Option.bind_some, hv]
        cases c <;> cases want <;> rfl
      · rename_i hc
        injection hw with hw; subst hw
        obtain ⟨v, hv, hr⟩ := e.get d _ hc
        simp only [VRel] at hr; obtain ⟨_, rfl, _⟩ := hr
        simp [yielded, hd, hv]
      · cases hw
    · cases hw

theorem stepOp_ok {ρ : Ren} {h : Heap} {w : World} {nx sz : Nat} {t : Env} {a : Act} {t' : Env} {h' : Heap} {nx' : Nat} {ops : Array Oper} {o : Oper} (hs : stepOp T sz call round ops o t h nx = some (t', h', nx')) :
    nx ≤ nx' ∧ ∀ {i : Nat} {ro : Option Nat} {K : Act → World → Prop} {Q : Exit → Act → World → Prop}, ops[i]? = some o → Rep T base ρ h.get w → ERel ρ sz t a.tmps → Fresh ρ nx nx' →
    (∀ ρ' cv w', ERel ρ' sz t' (a.put o.dst cv).tmps → Rep T base ρ' h'.get w' → Ext ρ h.get nx w ρ' h'.get nx' w' → K (a.put o.dst cv) w') → wpOpIn (FW ro) 0 P ops Q i K a w := by
  have fin_ok : ∀ {u : Option (AV × Heap × Nat)}, fin sz t o.dst u = some (t', h', nx') → ∃ v, u = some (v, h', nx') ∧ putA sz t o.dst v = some t' := by
    intro u hu
    cases u with
    | none => cases hu
    | some u =>
      obtain ⟨v, g, n⟩ := u
      simp only [fin] at hu
      split at hu
      · rename_i t2 ht2
        injection hu with hu; simp only [Prod.mk.injEq] at hu; obtain ⟨rfl, rfl, rfl⟩ := hu
        exact ⟨v, rfl, ht2⟩
      · cases hu
  unfold stepOp at hs
  split at hs
  · cases hs
  · rename_i hw
    obtain ⟨v, hv, hp⟩ := fin_ok hs
    simp only [Option.some.injEq, Prod.mk.injEq] at hv; obtain ⟨rfl, rfl, rfl⟩ := hv
    refine ⟨Nat.le_refl _, fun hi r e hf hK => ?_⟩
    unfold wpOpIn
    simp only [hi, wanted_ok e hw, Bool.false_eq_true, if_false]
    exact ⟨fun _ _ => trivial, hK ρ undef w (e.put hp undefRel) r (Ext.refl _ _ _ _)⟩
  · rename_i hw
    have main : ∀ {x : ORes}, opA T t h nx o.op = some x → fin sz t o.dst (resOf call round h nx x) = some (t', h', nx') → nx ≤ nx' ∧ ∀ {i : Nat} {ro : Option Nat} {K : Act → World → Prop} {Q : Exit → Act → World → Prop}, ops[i]? = some o → Rep T base ρ h.get w → ERel ρ sz t a.tmps → Fresh ρ nx nx' →
        (∀ ρ' cv w', ERel ρ' sz t' (a.put o.dst cv).tmps → Rep T base ρ' h'.get w' → Ext ρ h.get nx w ρ' h'.get nx' w' → K (a.put o.dst cv) w') → wpOpIn (FW ro) 0 P ops Q i K a w := by
      intro x hx hfin
      obtain ⟨v, hv, hp⟩ := fin_ok hfin
      refine ⟨resOf_cnt hc hd hx hv, fun hi r e hf hK => ?_⟩
      unfold wpOpIn
      simp only [hi, wanted_ok e hw, if_true]
      exact oper_ok ok ov hc hd hx hv r e hf fun ρ' cv w' hv' hr' hx' => hK ρ' cv w' ((e.mono hx'.le).put hp hv') hr' hx'
    split at hs
    · cases hs
    · rename_i v h2 nx2 hx; exact main hx hs
    · rename_i f args hx; exact main hx hs
    · rename_i m args hx; exact main hx hs

theorem evOps_ok {sz : Nat} {ops : Array Oper} : ∀ (l : List Oper) (i : Nat), (∀ j, l[j]? = ops[i + j]?) → ∀ {t : Env} {h : Heap} {nx : Nat} {t' : Env} {h' : Heap} {nx' : Nat}, evOps T sz call round ops l t h nx = some (t', h', nx') →
    nx ≤ nx' ∧ ∀ {ρ : Ren} {w : World} {a : Act} {ro : Option Nat} {Q : Exit → Act → World → Prop}, Rep T base ρ h.get w → ERel ρ sz t a.tmps → Fresh ρ nx nx' →
      (∀ ρ' a' w', ERel ρ' sz t' a'.tmps → Rep T base ρ' h'.get w' → Ext ρ h.get nx w ρ' h'.get nx' w' → a'.defers = a.defers → Q .normal a' w') → wpOpsIn (FW ro) 0 P ops Q (List.range' i l.length) a w
  | [], i, hl, t, h, nx, t', h', nx', hs => by
    simp only [evOps, Option.some.injEq, Prod.mk.injEq] at hs; obtain ⟨rfl, rfl, rfl⟩ := hs
    exact ⟨Nat.le_refl _, fun {ρ w a ro Q} r e hf hQ => hQ ρ a w e r (Ext.refl _ _ _ _) rfl⟩
  | o :: l, i, hl, t, h, nx, t', h', nx', hs => by
    simp only [evOps] at hs
    split at hs
    · cases hs
    · rename_i t1 h1 nx1 h1s
      have ih := evOps_ok l (i + 1) (fun j => by rw [Nat.add_assoc, Nat.add_comm 1 j, ← hl (j + 1)]; simp) hs
      have hcnt := (stepOp_ok (ρ := fun _ => none) (w := default) (a := ⟨#[], []⟩) ok ov hc hd h1s).1
      refine ⟨Nat.le_trans hcnt ih.1, fun {ρ w a ro Q} r e hf hQ => ?_⟩
      rw [List.length_cons, List.range'_succ, wpOpsIn_cons]
      refine (stepOp_ok ok ov hc hd h1s).2 (by rw [← Nat.add_zero i, ← hl 0]; simp) r e (hf.left ih.1) fun ρ1 cv w1 e1 r1 x1 => ?_
      refine ih.2 r1 e1 (hf.right x1) fun ρ2 a2 w2 e2 r2 x2 hde => ?_
      refine hQ ρ2 a2 w2 e2 r2 (x1.trans x2) (hde.trans ?_)
      cases o.dst <;> rfl

end
end Go.Tame
