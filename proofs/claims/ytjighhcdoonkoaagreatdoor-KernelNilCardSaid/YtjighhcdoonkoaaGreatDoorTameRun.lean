/- Code and calls; the whole evaluator. -/
import Derived.Test.YtjighhcdoonkoaaGreatDoorTameDrawn4
set_option linter.all false
namespace Go.Tame
open Go

section rules
variable {F : Fence} {n : Nat} {P : Program} {Q : Exit → Act → World → Prop} {a : Act} {w : World}

theorem stepR_scope {b : Frame} {k : List Item} {cs : List Frame} {c : Code} : step P (lone (b.atR a (.code (.scope c) :: k)) cs w) = .next (lone (b.atR a (.code c :: .inScope c :: k)) cs w) :=
  step_lone_go (by simp [stepG, stepG.exec, Frame.atR])
theorem stepR_inScope {b : Frame} {k : List Item} {cs : List Frame} {c : Code} : step P (lone (b.atR a (.inScope c :: k)) cs w) = .next (lone (b.atR a k) cs w) :=
  step_lone_go (by simp [stepG, stepG.exec, Frame.atR])

theorem wpIn_scope_straight {c : Code} (h : c.wpIn F n P (Exit.noGoto Q) a w) : (Code.scope c).wpIn F n P Q a w := by
  intro b k cs hro hb hr
  have h0 : (lone (b.atR a (.code (.scope c) :: k)) cs w).fenced P F := fenced_calm hb hr rfl
  obtain ⟨e, a₁, w₁, hq, harr⟩ := h b (.inScope c :: k) cs hro hb hr
  cases e with
  | normal => exact ⟨.normal, a₁, w₁, hq, .head h0 stepR_scope (StepsIn.trans harr (.one (fenced_calm hb hr rfl) stepR_inScope))⟩
  | exit id =>
    have hx : exitTo id (.inScope c :: k) = exitTo id k := by simp [exitTo]
    exact ⟨.exit id, a₁, w₁, hq, fun k' hk => .head h0 stepR_scope (harr.1 k' (by rw [hx]; exact hk)),
      fun hr' hk => let ⟨k₁, h1, h2⟩ := harr.2 hr' (by rw [hx]; exact hk); ⟨k₁, h1, .head h0 stepR_scope h2⟩⟩
  | goto l => exact hq.elim
  | ret => exact ⟨_, a₁, w₁, hq, .of_steps (.one h0 stepR_scope) harr⟩
  | panic ch => exact ⟨_, a₁, w₁, hq, .of_steps (.one h0 stepR_scope) harr⟩
  | outgrown => exact ⟨_, a₁, w₁, hq, .of_steps (.one h0 stepR_scope) harr⟩

/-- from where a loop's round begins -/
def LoopW (F : Fence) (n : Nat) (P : Program) (c : Code) (Q : Exit → Act → World → Prop) (a : Act) (w : World) : Prop :=
  ∀ (b : Frame) (k : List Item) (cs : List Frame), b.roundOf = F.round → F.fn b.fn → F.room (cs.length + 1 + n) →
    ∃ e a' w', Q e a' w' ∧ ArrivesIn (Machine.fenced P F) P (lone (b.atR a (.code c :: .inLoop c :: k)) cs w) b k cs e a' w'

theorem LoopW.loop {c : Code} (h : LoopW F n P c Q a w) : (Code.loop c).wpIn F n P Q a w := by
  intro b k cs hro hb hr
  obtain ⟨e, a', w', hq, harr⟩ := h b k cs hro hb hr
  exact ⟨e, a', w', hq, .of_steps (.one (fenced_calm hb hr rfl) stepR_loop) harr⟩

theorem LoopW.round {c : Code} (h : c.wpIn F n P (Exit.then (LoopW F n P c Q) Q) a w) : LoopW F n P c Q a w := by
  intro b k cs hro hb hr
  obtain ⟨e, a₁, w₁, hq, harr⟩ := h b (.inLoop c :: k) cs hro hb hr
  cases e with
  | normal =>
    obtain ⟨e₂, a₂, w₂, hq₂, harr₂⟩ := hq b k cs hro hb hr
    exact ⟨e₂, a₂, w₂, hq₂, .of_steps (StepsIn.trans harr (.one (fenced_calm hb hr rfl) stepR_inLoop)) harr₂⟩
  | exit id => exact ⟨_, a₁, w₁, hq, .pass (x := .inLoop c) rfl (fun _ _ => .inl (by simp)) harr⟩
  | goto l => exact ⟨_, a₁, w₁, hq, .pass (x := .inLoop c) rfl (fun _ _ => .inl (by simp)) harr⟩
  | ret => exact ⟨_, a₁, w₁, hq, .pass (x := .inLoop c) rfl (fun _ _ => .inl (by simp)) harr⟩
  | panic ch => exact ⟨_, a₁, w₁, hq, .pass (x := .inLoop c) rfl (fun _ _ => .inl (by simp)) harr⟩
  | outgrown => exact ⟨_, a₁, w₁, hq, .pass (x := .inLoop c) rfl (fun _ _ => .inl (by simp)) harr⟩

def Runs (F : Fence) (n : Nat) (P : Program) (c : Code) (Q : Exit → Act → World → Prop) (a : Act) (w : World) : Prop :=
  match c with
  | .loop c => LoopW F n P c Q a w
  | c => c.wpIn F n P Q a w

theorem Runs.wp {c : Code} (h : Runs F n P c Q a w) : c.wpIn F n P Q a w := by
  cases c
  case loop c => exact LoopW.loop h
  all_goals exact h
end rules

def Out.toExit : Out → Exit
  | .normal => .normal
  | .exit id => .exit id
  | .ret => .ret

/-- the marks among the deferred calls -/
def DRel (ρ : Ren) : List Nat → List Deferred → Prop
  | [], ds => ds = []
  | m :: ms, ds => ∃ p ds', ρ m = some p ∧ ds = { target := .collected p.block, args := #[] } :: ds' ∧ DRel ρ ms ds'

theorem DRel.mono {ρ ρ' : Ren} (h : ρ.le ρ') : ∀ {ms : List Nat} {ds : List Deferred}, DRel ρ ms ds → DRel ρ' ms ds
  | [], _, hd => hd
  | m :: ms, _, ⟨p, ds', h1, h2, h3⟩ => ⟨p, ds', h _ _ h1, h2, h3.mono h⟩

def resOne (tmps : Array Value) : ResultVar → Sem Value
  | .tmp t => pure (tmps.getD t undef)
  | .cell a t => do loadVar t (← asAddr (tmps.getD a undef))

theorem results_eq (fn : Func) (tmps : Array Value) : results fn tmps = (do let vs ← fn.results.mapM (resOne tmps); pure (if h : vs.size = 1 then vs[0] else .tuple vs)) := by
  unfold results
  congr

def CodeOk (T : Tab) (P : Program) (base : Nat) (code : CodeF) : Prop :=
  ∀ f inr sz c t h nx ms out t' h' nx' ms', planned T f c = true → code f inr sz c t h nx ms = some (out, t', h', nx', ms') → nx ≤ nx' ∧
    ∀ (ρ : Ren) (w : World) (a : Act) (ro : Option Nat) (Q : Exit → Act → World → Prop), Rep T base ρ h.get w → ERel ρ sz t a.tmps → Fresh ρ nx nx' → DRel ρ ms a.defers →
      (∀ ρ' a' w', ERel ρ' sz t' a'.tmps → Rep T base ρ' h'.get w' → Ext ρ h.get nx w ρ' h'.get nx' w' → DRel ρ' ms' a'.defers → Q (Out.toExit out) a' w') → Runs (FW ro) 0 P c Q a w

section
variable {T : Tab} {P : Program} {base : Nat} (ok : TabOk T P) (ov : OverOk T) (hmix : P.follows .mixedOrders = true)
include ok ov hmix

theorem codeStep_ok {call : CallF} {round : RoundF} {code : CodeF} (hc : CallOk T P base call) (hd : RoundOk T P base round) (hk : CodeOk T P base code) : CodeOk T P base (codeStep T call round code) := by
  intro f inr sz c t h nx ms out t' h' nx' ms' hpl hh
  cases c with
  | skip =>
    simp only [codeStep, Option.some.injEq, Prod.mk.injEq] at hh; obtain ⟨rfl, rfl, rfl, rfl, rfl⟩ := hh
    exact ⟨Nat.le_refl _, fun ρ w a ro Q r e hf hde hQ => wpIn_skip (hQ ρ a w e r (Ext.refl _ _ _ _) hde)⟩
  | label l =>
    simp only [codeStep, Option.some.injEq, Prod.mk.injEq] at hh; obtain ⟨rfl, rfl, rfl, rfl, rfl⟩ := hh
    exact ⟨Nat.le_refl _, fun ρ w a ro Q r e hf hde hQ => wpIn_label (hQ ρ a w e r (Ext.refl _ _ _ _) hde)⟩
  | ret =>
    simp only [codeStep, Option.some.injEq, Prod.mk.injEq] at hh; obtain ⟨rfl, rfl, rfl, rfl, rfl⟩ := hh
    exact ⟨Nat.le_refl _, fun ρ w a ro Q r e hf hde hQ => wpIn_ret (hQ ρ a w e r (Ext.refl _ _ _ _) hde)⟩
  | exit id =>
    simp only [codeStep, Option.some.injEq, Prod.mk.injEq] at hh; obtain ⟨rfl, rfl, rfl, rfl, rfl⟩ := hh
    exact ⟨Nat.le_refl _, fun ρ w a ro Q r e hf hde hQ => wpIn_exit (hQ ρ a w e r (Ext.refl _ _ _ _) hde)⟩
  | seq x y =>
    simp only [planned, Bool.and_eq_true] at hpl
    simp only [codeStep] at hh
    split at hh
    · rename_i t1 h1 nx1 ms1 h1s
      obtain ⟨c1, k1⟩ := hk _ _ _ _ _ _ _ _ _ _ _ _ _ hpl.1 h1s
      obtain ⟨c2, k2⟩ := hk _ _ _ _ _ _ _ _ _ _ _ _ _ hpl.2 hh
      refine ⟨Nat.le_trans c1 c2, fun ρ w a ro Q r e hf hde hQ => wpIn_seq (Runs.wp (k1 ρ w a ro _ r e (hf.left c2) hde fun ρ1 a1 w1 e1 r1 x1 d1 => ?_))⟩
      exact Runs.wp (k2 ρ1 w1 a1 ro Q r1 e1 (hf.right x1) d1 fun ρ2 a2 w2 e2 r2 x2 d2 => hQ ρ2 a2 w2 e2 r2 (x1.trans x2) d2)
    · rename_i hne
      obtain ⟨c1, k1⟩ := hk _ _ _ _ _ _ _ _ _ _ _ _ _ hpl.1 hh
      refine ⟨c1, fun ρ w a ro Q r e hf hde hQ => wpIn_seq (Runs.wp (k1 ρ w a ro _ r e hf hde fun ρ1 a1 w1 e1 r1 x1 d1 => ?_))⟩
      have := hQ ρ1 a1 w1 e1 r1 x1 d1
      cases out with
      | normal => exact absurd hh (hne _ _ _ _)
      | exit id => exact this
      | ret => exact this
  | cond b x y =>
    simp only [planned, Bool.and_eq_true] at hpl
    simp only [codeStep] at hh
    split at hh
    · rename_i v hv
      obtain ⟨c1, k1⟩ := hk _ _ _ _ _ _ _ _ _ _ _ _ _ (by cases v <;> first | exact hpl.1 | exact hpl.2) hh
      refine ⟨c1, fun ρ w a ro Q r e hf hde hQ => ?_⟩
      have hb := e.val (a := a) hv
      simp only [VRel] at hb
      refine wpIn_cond hb ?_
      have := Runs.wp (k1 ρ w a ro Q r e hf hde hQ)
      cases v <;> exact this
    · cases hh
  | block id x =>
    simp only [planned] at hpl
    simp only [codeStep] at hh
    split at hh
    · rename_i j t1 h1 nx1 ms1 h1s
      obtain ⟨c1, k1⟩ := hk _ _ _ _ _ _ _ _ _ _ _ _ _ hpl h1s
      cases hj : Nat.beq j id with
      | true =>
        rw [hj] at hh; simp only [cond_true, Option.some.injEq, Prod.mk.injEq] at hh; obtain ⟨rfl, rfl, rfl, rfl, rfl⟩ := hh
        have hji := beq_true.1 hj
        refine ⟨c1, fun ρ w a ro Q r e hf hde hQ => wpIn_block (Runs.wp (k1 ρ w a ro _ r e hf hde fun ρ1 a1 w1 e1 r1 x1 d1 => ?_))⟩
        show (if j = id then Q .normal a1 w1 else Q (.exit j) a1 w1)
        rw [if_pos hji]; exact hQ ρ1 a1 w1 e1 r1 x1 d1
      | false =>
        rw [hj] at hh; simp only [cond_false, Option.some.injEq, Prod.mk.injEq] at hh; obtain ⟨rfl, rfl, rfl, rfl, rfl⟩ := hh
        have hji : ¬ j = id := fun h => by rw [beq_true.2 h] at hj; exact absurd hj (by decide)
        refine ⟨c1, fun ρ w a ro Q r e hf hde hQ => wpIn_block (Runs.wp (k1 ρ w a ro _ r e hf hde fun ρ1 a1 w1 e1 r1 x1 d1 => ?_))⟩
        show (if j = id then Q .normal a1 w1 else Q (.exit j) a1 w1)
        rw [if_neg hji]; exact hQ ρ1 a1 w1 e1 r1 x1 d1
    · rename_i hne
      obtain ⟨c1, k1⟩ := hk _ _ _ _ _ _ _ _ _ _ _ _ _ hpl hh
      refine ⟨c1, fun ρ w a ro Q r e hf hde hQ => wpIn_block (Runs.wp (k1 ρ w a ro _ r e hf hde fun ρ1 a1 w1 e1 r1 x1 d1 => ?_))⟩
      have := hQ ρ1 a1 w1 e1 r1 x1 d1
      cases out with
      | normal => exact this
      | exit id => exact absurd hh (hne _ _ _ _ _)
      | ret => exact this
  | loop x =>
    have hpx : planned T f x = true := by simpa only [planned] using hpl
    simp only [codeStep] at hh
    split at hh
    · rename_i t1 h1 nx1 ms1 h1s
      obtain ⟨c1, k1⟩ := hk _ _ _ _ _ _ _ _ _ _ _ _ _ hpx h1s
      obtain ⟨c2, k2⟩ := hk _ _ _ _ _ _ _ _ _ _ _ _ _ hpl hh
      refine ⟨Nat.le_trans c1 c2, fun ρ w a ro Q r e hf hde hQ => LoopW.round (Runs.wp (k1 ρ w a ro _ r e (hf.left c2) hde fun ρ1 a1 w1 e1 r1 x1 d1 => ?_))⟩
      exact k2 ρ1 w1 a1 ro Q r1 e1 (hf.right x1) d1 fun ρ2 a2 w2 e2 r2 x2 d2 => hQ ρ2 a2 w2 e2 r2 (x1.trans x2) d2
    · rename_i hne
      obtain ⟨c1, k1⟩ := hk _ _ _ _ _ _ _ _ _ _ _ _ _ hpx hh
      refine ⟨c1, fun ρ w a ro Q r e hf hde hQ => LoopW.round (Runs.wp (k1 ρ w a ro _ r e hf hde fun ρ1 a1 w1 e1 r1 x1 d1 => ?_))⟩
      have := hQ ρ1 a1 w1 e1 r1 x1 d1
      cases out with
      | normal => exact absurd hh (hne _ _ _ _)
      | exit id => exact this
      | ret => exact this
  | scope x =>
    simp only [planned] at hpl
    simp only [codeStep] at hh
    obtain ⟨c1, k1⟩ := hk _ _ _ _ _ _ _ _ _ _ _ _ _ hpl hh
    refine ⟨c1, fun ρ w a ro Q r e hf hde hQ => wpIn_scope_straight (Runs.wp (k1 ρ w a ro _ r e hf hde fun ρ1 a1 w1 e1 r1 x1 d1 => ?_))⟩
    have := hQ ρ1 a1 w1 e1 r1 x1 d1
    cases out <;> exact this
  | region id ops draw =>
    simp only [codeStep] at hh
    split at hh
    · rename_i t1 h1 nx1 h1s
      simp only [Option.some.injEq, Prod.mk.injEq] at hh; obtain ⟨rfl, rfl, rfl, rfl, rfl⟩ := hh
      cases draw with
      | true =>
        simp only [cond_true] at h1s
        obtain ⟨c1, k1⟩ := drawnA_ok ok ov hmix hc hd hpl h1s
        exact ⟨c1, fun ρ w a ro Q r e hf hde hQ => k1 r e hf fun ρ1 a1 w1 e1 r1 x1 d1 => hQ ρ1 a1 w1 e1 r1 x1 (by rw [d1]; exact hde.mono x1.le)⟩
      | false =>
        simp only [cond_false] at h1s
        obtain ⟨c1, k1⟩ := evOps_ok ok ov hc hd (ops := ops) ops.toList 0 (fun j => by simp) h1s
        refine ⟨c1, fun ρ w a ro Q r e hf hde hQ => wpIn_region ?_⟩
        rw [List.range_eq_range']
        have := k1 (ro := ro) (Q := Q) r e hf fun ρ1 a1 w1 e1 r1 x1 d1 => hQ ρ1 a1 w1 e1 r1 x1 (by rw [d1]; exact hde.mono x1.le)
        simpa using this
    · cases hh
  | _ => simp [codeStep] at hh

omit hmix ov in
theorem resA_ok {ρ : Ren} {h : Heap} {w : World} {sz : Nat} {t : Env} {tmps : Array Value} (r : Rep T base ρ h.get w) (e : ERel ρ sz t tmps) : ∀ {rs : List ResultVar} {vs : List AV}, resA T t h rs = some vs →
    ∃ cvs : List Value, VRels ρ vs cvs ∧ (rs.mapM (resOne tmps)).run P w = .ok cvs w
  | [], vs, hh => by simp only [resA, Option.some.injEq] at hh; subst hh; exact ⟨[], VRels.nil _, rfl⟩
  | .tmp x :: rs, vs, hh => by
    simp only [resA] at hh
    split at hh
    · cases hh
    · rename_i v hv
      split at hh
      · cases hh
      · rename_i vs' hvs
        injection hh with hh; subst hh
        obtain ⟨cv, hcv, hr⟩ := e.get x v hv
        obtain ⟨cvs, h1, h2⟩ := resA_ok r e hvs
        have h3 : (resOne tmps (.tmp x)).run P w = .ok cv w := by simp [resOne, hcv]
        exact ⟨cv :: cvs, VRels.cons hr h1, by simp [List.mapM_cons, h2, h3]⟩
  | .cell x ty :: rs, vs, hh => by
    simp only [resA] at hh
    split at hh
    · cases hh
    · rename_i pv hpv
      split at hh
      · cases hh
      · rename_i v hv
        split at hh
        · cases hh
        · rename_i vs' hvs
          injection hh with hh; subst hh
          obtain ⟨cp, hcp, hrp⟩ := e.get x pv hpv
          obtain ⟨cvs, h1, h2⟩ := resA_ok r e hvs
          obtain ⟨cv, hrun, hr⟩ := loadA_ok ok r hrp hv
          have hlook : ∃ cs off, lookCells T h pv = some (cs, off) := by
            unfold loadA at hv
            split at hv
            · rename_i cs off _ hl; exact ⟨cs, off, hl⟩
            · cases hv
          obtain ⟨cs, off, hl⟩ := hlook
          obtain ⟨ad, rfl, _, _⟩ := r.look hrp hl
          simp only [Instr.loadAt, Instr.sureAddr, pure_bind] at hrun
          have h3 : (resOne tmps (.cell x ty)).run P w = .ok cv w := by simp [resOne, hcp, asAddr, hrun]
          exact ⟨cv :: cvs, VRels.cons hr h1, by simp [List.mapM_cons, h2, h3]⟩

theorem callStep_ok {code : CodeF} (hplan : ∀ f fn c, T.funcs.get f = some fn → fn.body = some c → planned T f c = true) (hk : CodeOk T P base code) : CallOk T P base (callStep T code) := by
  intro f args h nx v h' nx' hh
  unfold callStep at hh
  split at hh
  · cases hh
  · rename_i fn hfn
    split at hh
    · cases hh
    · rename_i c hcb
      obtain ⟨hsz, hh⟩ := ite_bool hh
      simp only [Bool.and_eq_true, ble_true, blt_true] at hsz
      have main : ∀ {out : Out} {t' : Env} {g : Heap} {n : Nat}, (out = .normal ∨ out = .ret) → code f false fn.ntmps c (args0 args 0 .nil) h nx [] = some (out, t', g, n, []) →
          (match resA T t' g fn.results.toList with | some vs => some (single vs, g, n) | none => none) = some (v, h', nx') → nx ≤ nx' ∧
          ∀ (ρ : Ren) (w : World) (cargs : List Value), Rep T base ρ h.get w → VRels ρ args cargs → Fresh ρ nx nx' →
            CallsIn (FW none) 0 P f cargs.toArray w fun e w' => ∃ ρ' cv, e = .returned cv ∧ VRel ρ' v cv ∧ Rep T base ρ' h'.get w' ∧ Ext ρ h.get nx w ρ' h'.get nx' w' := by
        intro out t' g n hout hcode hres
        split at hres
        · rename_i vs hvs
          simp only [Option.some.injEq, Prod.mk.injEq] at hres; obtain ⟨rfl, rfl, rfl⟩ := hres
          obtain ⟨c1, k1⟩ := hk _ _ _ _ _ _ _ _ _ _ _ _ _ (hplan f fn c hfn hcb) hcode
          refine ⟨c1, fun ρ w cargs r hargs hf => callsIn_of_wp (ok.funcs f fn hfn) hcb trivial (Runs.wp (k1 ρ w _ none _ r ?_ hf rfl fun ρ1 a1 w1 e1 r1 x1 d1 => ?_))⟩
          · refine ⟨by simp [hargs.length]; omega, fun i b hi => ?_⟩
            have key : ∀ (l : List AV) (s : Nat) (u : Env), s + l.length < 1000000000 → ∀ i, (args0 l s u).get i = if s ≤ i ∧ i < s + l.length then l[i - s]? else u.get i := by
              intro l
              induction l with
              | nil => intro s u _ i; simp only [args0]; rw [if_neg (by simp only [List.length_nil]; omega)]
              | cons x l ih =>
                intro s u hs i
                simp only [List.length_cons] at hs
                simp only [args0]
                rw [ih (s + 1) _ (by omega) i, Tr.get_put _ _ _ _ _ (by have := D_pow; omega)]
                by_cases h1 : i = s
                · subst h1
                  rw [if_neg (by omega), if_pos rfl, if_pos (by simp)]; simp
                · rw [if_neg h1]
                  by_cases h2 : s + 1 ≤ i ∧ i < s + 1 + l.length
                  · rw [if_pos h2, if_pos (by simp; omega)]
                    rw [show i - s = (i - (s + 1)) + 1 by omega]; simp
                  · rw [if_neg h2, if_neg (by simp; omega)]
            rw [key args 0 .nil (by omega) i] at hi
            split at hi
            · rename_i hlt
              rw [Nat.sub_zero] at hi
              obtain ⟨cv, hcv, hr⟩ := hargs.get hi
              refine ⟨cv, ?_, hr⟩
              have : i < cargs.length := (List.getElem?_eq_some_iff.1 hcv).1
              rw [Array.getElem?_append_left (by simpa using this)]
              simpa using hcv
            · cases hi
          · obtain ⟨cvs, hcvs, hrun⟩ := resA_ok ok r1 e1 hvs
            have hdef : a1.defers = [] := d1
            have hres : (results fn a1.tmps).run P w1 = .ok (if h : cvs.toArray.size = 1 then cvs.toArray[0] else .tuple cvs.toArray) w1 := by
              have hm : (fn.results.mapM (resOne a1.tmps)).run P w1 = .ok cvs.toArray w1 := by
                rw [Array.mapM_eq_mapM_toList]
                simp [hrun]
              rw [results_eq]
              simp only [Sem.run_bind, hm, Result.andThen]
              rfl
            have hsingle : VRel ρ1 (single vs) (if h : cvs.toArray.size = 1 then cvs.toArray[0] else .tuple cvs.toArray) := by
              have hlen := hcvs.length
              cases vs with
              | nil => simp [VRels] at hcvs; subst hcvs; simp [single, VRel, VRels]
              | cons x xs =>
                cases xs with
                | nil =>
                  simp only [VRels] at hcvs
                  obtain ⟨cv, _, rfl, hx, rfl⟩ := hcvs
                  simpa [single] using hx
                | cons y ys =>
                  have hne : ¬ cvs.toArray.size = 1 := by simp at hlen ⊢; omega
                  rw [dif_neg hne]
                  simp only [single, VRel]
                  exact ⟨cvs, rfl, hcvs⟩
            rcases hout with rfl | rfl
            · exact ⟨hdef, _, hres, ρ1, _, rfl, hsingle, r1, x1⟩
            · exact ⟨hdef, _, hres, ρ1, _, rfl, hsingle, r1, x1⟩
        · cases hres
      split at hh
      · rename_i t' g n hcode; exact main (.inl rfl) hcode hh
      · rename_i t' g n hcode; exact main (.inr rfl) hcode hh
      · cases hh

theorem ev_ok (hplan : ∀ f fn c, T.funcs.get f = some fn → fn.body = some c → planned T f c = true) : ∀ n, CallOk T P base (ev T n).call ∧ CodeOk T P base (ev T n).code
  | 0 => ⟨fun _ _ _ _ _ _ _ h => (by cases h), fun _ _ _ _ _ _ _ _ _ _ _ _ _ _ h => (by cases h)⟩
  | n + 1 => by
    obtain ⟨h1, h2⟩ := ev_ok hplan n
    exact ⟨callStep_ok ok ov hmix hplan h2, codeStep_ok ok ov hmix h1 (fun _ _ _ _ _ _ _ h => by cases h) h2⟩

end
end Go.Tame
