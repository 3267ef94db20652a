/- Code and calls; the whole evaluator. -/
import Derived.Test.YtobkmmlodmdlgaaGreatDoorTameDrawn4
import Derived.Test.YtobkmmlodmdlgaaGreatDoorTameStep
import Derived.RangeFuncRecord
set_option linter.all false
namespace Go.Tame
open Go

section rules
variable {F : Fence} {n : Nat} {P : Program} {Q : Exit → Act → World → Prop} {a : Act} {w : World}

theorem stepR_scope {b : Frame} {k : List Item} {cs : List Frame} {c : Code} : step P (lone (b.atR a (.code (.scope c) :: k)) cs w) = .next (lone (b.atR a (.code c :: .inScope c :: k)) cs w) :=
  step_lone_go (by simp [stepG, stepG.exec, Frame.atR])
theorem stepR_inScope {b : Frame} {k : List Item} {cs : List Frame} {c : Code} : step P (lone (b.atR a (.inScope c :: k)) cs w) = .next (lone (b.atR a k) cs w) :=
  step_lone_go (by simp [stepG, stepG.exec, Frame.atR])

theorem wpIn_scope_straight {c : Code} (h : c.wpIn F n P (Exit.noGoto Q) a w) : (Code.scope c).wpIn F n P Q a w := by
  intro b k cs hro hb hr
  have h0 : (lone (b.atR a (.code (.scope c) :: k)) cs w).fenced P F := fenced_calm hb hr rfl
  obtain ⟨e, a₁, w₁, hq, harr⟩ := h b (.inScope c :: k) cs hro hb hr
  cases e with
  | normal => exact ⟨.normal, a₁, w₁, hq, .head h0 stepR_scope (StepsIn.trans harr (.one (fenced_calm hb hr rfl) stepR_inScope))⟩
  | exit id =>
    have hx : exitTo id (.inScope c :: k) = exitTo id k := by simp [exitTo]
    exact ⟨.exit id, a₁, w₁, hq, fun k' hk => .head h0 stepR_scope (harr.1 k' (by rw [hx]; exact hk)),
      fun hr' hk => let ⟨k₁, h1, h2⟩ := harr.2 hr' (by rw [hx]; exact hk); ⟨k₁, h1, .head h0 stepR_scope h2⟩⟩
  | goto l => exact hq.elim
  | ret => exact ⟨_, a₁, w₁, hq, .of_steps (.one h0 stepR_scope) harr⟩
  | panic ch => exact ⟨_, a₁, w₁, hq, .of_steps (.one h0 stepR_scope) harr⟩
  | outgrown => exact ⟨_, a₁, w₁, hq, .of_steps (.one h0 stepR_scope) harr⟩

/-- from where a loop's round begins -/
def LoopW (F : Fence) (n : Nat) (P : Program) (c : Code) (Q : Exit → Act → World → Prop) (a : Act) (w : World) : Prop :=
  ∀ (b : Frame) (k : List Item) (cs : List Frame), b.roundOf = F.round → F.fn b.fn → F.room (cs.length + 1 + n) →
    ∃ e a' w', Q e a' w' ∧ ArrivesIn (Machine.fenced P F) P (lone (b.atR a (.code c :: .inLoop c :: k)) cs w) b k cs e a' w'

theorem LoopW.loop {c : Code} (h : LoopW F n P c Q a w) : (Code.loop c).wpIn F n P Q a w := by
  intro b k cs hro hb hr
  obtain ⟨e, a', w', hq, harr⟩ := h b k cs hro hb hr
  exact ⟨e, a', w', hq, .of_steps (.one (fenced_calm hb hr rfl) stepR_loop) harr⟩

theorem LoopW.round {c : Code} (h : c.wpIn F n P (Exit.then (LoopW F n P c Q) Q) a w) : LoopW F n P c Q a w := by
  intro b k cs hro hb hr
  obtain ⟨e, a₁, w₁, hq, harr⟩ := h b (.inLoop c :: k) cs hro hb hr
  cases e with
  | normal =>
    obtain ⟨e₂, a₂, w₂, hq₂, harr₂⟩ := hq b k cs hro hb hr
    exact ⟨e₂, a₂, w₂, hq₂, .of_steps (StepsIn.trans harr (.one (fenced_calm hb hr rfl) stepR_inLoop)) harr₂⟩
  | exit id => exact ⟨_, a₁, w₁, hq, .pass (x := .inLoop c) rfl (fun _ _ => .inl (by simp)) harr⟩
  | goto l => exact ⟨_, a₁, w₁, hq, .pass (x := .inLoop c) rfl (fun _ _ => .inl (by simp)) harr⟩
  | ret => exact ⟨_, a₁, w₁, hq, .pass (x := .inLoop c) rfl (fun _ _ => .inl (by simp)) harr⟩
  | panic ch => exact ⟨_, a₁, w₁, hq, .pass (x := .inLoop c) rfl (fun _ _ => .inl (by simp)) harr⟩
  | outgrown => exact ⟨_, a₁, w₁, hq, .pass (x := .inLoop c) rfl (fun _ _ => .inl (by simp)) harr⟩

def Runs (F : Fence) (n : Nat) (P : Program) (c : Code) (Q : Exit → Act → World → Prop) (a : Act) (w : World) : Prop :=
  match c with
  | .loop c => LoopW F n P c Q a w
  | c => c.wpIn F n P Q a w

theorem Runs.wp {c : Code} (h : Runs F n P c Q a w) : c.wpIn F n P Q a w := by
  cases c
  case loop c => exact LoopW.loop h
  all_goals exact h
end rules

def Out.toExit : Out → Exit
  | .normal => .normal
  | .exit id => .exit id
  | .ret => .ret

/-- the deferred calls -/
def DRel (ρ : Ren) : List Dfr → List Deferred → Prop
  | [], ds => ds = []
  | .mark m :: ms, ds => ∃ p ds', ρ m = some p ∧ ds = { target := .collected p.block, args := #[] } :: ds' ∧ DRel ρ ms ds'
  | .call f args :: ms, ds => ∃ ls cs ds', ds = { target := .fn (.func f) (cs : List Value).toArray, args := (ls : List Value).toArray } :: ds' ∧ VRels ρ args (ls ++ cs) ∧ DRel ρ ms ds'

theorem DRel.mono {ρ ρ' : Ren} (h : ρ.le ρ') : ∀ {ms : List Dfr} {ds : List Deferred}, DRel ρ ms ds → DRel ρ' ms ds
  | [], _, hd => hd
  | .mark m :: ms, _, ⟨p, ds', h1, h2, h3⟩ => ⟨p, ds', h _ _ h1, h2, h3.mono h⟩
  | .call f args :: ms, _, ⟨ls, cs, ds', h1, h2, h3⟩ => ⟨ls, cs, ds', h1, h2.mono h, h3.mono h⟩

def resOne (tmps : Array Value) : ResultVar → Sem Value
  | .tmp t => pure (tmps.getD t undef)
  | .cell a t => do loadVar t (← asAddr (tmps.getD a undef))

theorem results_eq (fn : Func) (tmps : Array Value) : results fn tmps = (do let vs ← fn.results.mapM (resOne tmps); pure (if h : vs.size = 1 then vs[0] else .tuple vs)) := by
  unfold results
  congr

def CodeOk (T : Tab) (P : Program) (base : Nat) (code : CodeF) : Prop :=
  ∀ f inr sz c t h nx ms out t' h' nx' ms', planned T f c = true → code f inr sz c t h nx ms = some (out, t', h', nx', ms') → nx ≤ nx' ∧
    ∀ (ρ : Ren) (w : World) (a : Act) (ro : Option Nat) (Q : Exit → Act → World → Prop), (inr = false → ro = none) → Rep T base ρ h.get w → ERel ρ sz t a.tmps → Fresh ρ nx nx' → DRel ρ ms a.defers →
      (∀ ρ' a' w', ERel ρ' sz t' a'.tmps → Rep T base ρ' h'.get w' → Ext ρ h.get nx w ρ' h'.get nx' w' → DRel ρ' ms' a'.defers → Q (Out.toExit out) a' w') → Runs (FW ro) 0 P c Q a w

theorem Rep.drop {T : Tab} {base : Nat} {ρ : Ren} {h h' : HF} {w w' : World} (r : Rep T base ρ h w) {m : Nat} {b : Blk} {p : Place} {o' : Obj}
    (hm : h m = some b) (hp : ρ m = some p) (hh : ∀ n, h' n = if n = m then none else h n)
    (hsize : w'.heap.size = w.heap.size) (hos : w'.os = w.os) (htape : w'.tape = w.tape) (hout : w'.output = w.output)
    (hat : w'.heap[p.block]? = some o') (hoth : ∀ k, k ≠ p.block → w'.heap[k]? = w.heap[k]?) (hfr : ∀ a : Addr, a.block = p.block → w'.frozen? a = false) (nx : Nat) :
    Rep T base ρ h' w' ∧ Ext ρ h nx w ρ h' nx w' := by
  obtain ⟨p', o, hp', hbase, hw, hbr0⟩ := r.own m b hm
  rw [hp] at hp'; injection hp' with hp'; subst hp'
  have hfzz : ∀ a, w'.frozen? a = w.frozen? a := fun a => by
    by_cases ha : a.block = p.block
    · rw [hfr a ha, hbr0.fz (w := w) (a := a) (by rw [ha]; exact hw)]
    · unfold World.frozen?; rw [hoth _ ha]
  have back : ∀ n c, h' n = some c → n ≠ m ∧ h n = some c := fun n c hn => by
    rw [hh] at hn
    by_cases e : n = m
    · rw [if_pos e] at hn; cases hn
    · rw [if_neg e] at hn; exact ⟨e, hn⟩
  refine ⟨⟨by rw [hsize]; exact r.low, fun n c hn => ?_, fun n k c c' q q' hn hk hq hq' hqq => ?_, fun g cs hg => ?_⟩, ⟨Ren.le_refl ρ, Nat.le_refl _, fun _ _ => rfl, by rw [hsize]; exact Nat.le_refl _, hos, htape, hout, hfzz, fun k hk hno => ?_, fun n c q hn hq => ?_, fun n c hn => ?_⟩⟩
  · obtain ⟨e, hn⟩ := back n c hn
    obtain ⟨q, oq, hq, hqb, hqw, hqr⟩ := r.own n c hn
    refine ⟨q, oq, hq, hqb, ?_, hqr⟩
    rw [hoth _ (fun e' => e (r.inj n m c b q p hn hm hq hp e'))]
    exact hqw
  · exact r.inj n k c c' q q' (back n c hn).2 (back k c' hk).2 hq hq' hqq
  · obtain ⟨hlt, c, e, fz, hw', hc⟩ := r.glob g cs hg
    refine ⟨hlt, c, e, fz, ?_, hc⟩
    rw [hoth _ (by omega)]; exact hw'
  · exact hoth k (fun e => hno m b p hm hp e.symm)
  · exact .inr ⟨n, c, q, (back n c hn).2, hq, rfl⟩
  · exact .inl ⟨c, (back n c hn).2⟩

section marks
variable {T : Tab} {P : Program} {base : Nat}

theorem loopA_ok {ρ : Ren} {h h' : Heap} {w : World} {m : Nat} {p : Place} {g : LoopState → Option Out → LoopState × Option Out} (r : Rep T base ρ h.get w) (hl : loopA h m g = some h') (hp : ρ m = some p)
    (hg : ∀ st pe, pe ≠ some .normal → (g st pe).2 ≠ some .normal) : ∃ (fn : FuncId) (st : LoopState) (pe : Option Out) (sz : Nat) (t : Env) (ps : List Nat) (assign body : Code) (dfr : Nat) (rec : Loop),
      h.get m = some (.loop fn st pe sz t ps assign body dfr) ∧ w.heap[p.block]? = some (.loop rec) ∧ rec.state = st ∧ rec.pending = pe.bind Out.code ∧ pe ≠ some .normal ∧
      ∀ nx, Rep T base ρ h'.get (w.putObj p.block (.loop { rec with state := (g st pe).1, pending := (g st pe).2.bind Out.code })) ∧
        Ext ρ h.get nx w ρ h'.get nx (w.putObj p.block (.loop { rec with state := (g st pe).1, pending := (g st pe).2.bind Out.code })) := by
  unfold loopA at hl
  split at hl
  · rename_i fn st pe sz t ps assign body dfr hm
    obtain ⟨p', o, hp', _, hw, fnw, tmps, q, hq, rfl, he, hne⟩ := r.own _ _ hm
    rw [hp] at hp'; injection hp' with hp'; subst hp'
    have hlt : p.block < w.heap.size := (Array.getElem?_eq_some_iff.1 hw).1
    refine ⟨fn, st, pe, sz, t, ps, assign, body, dfr, _, hm, hw, rfl, rfl, hne, fun nx => ?_⟩
    exact r.turn (h' := h'.get) (w' := w.putObj p.block (.loop { state := (g st pe).1, pending := (g st pe).2.bind Out.code, fn := fnw, tmps, params := ps.toArray, assign, body, defers := q.block })) hm hp (fun n => upd_get hl n) (by simp) rfl rfl rfl (World.putObj_heap_same hlt) (fun k hk => World.putObj_heap_other hk)
      ⟨fnw, tmps, q, hq, rfl, he, hg st pe hne⟩ nx
  · cases hl

theorem puts_ok' {ρ : Ren} {sz : Nat} : ∀ {ps : List Nat} {args : List AV} {cargs : List Value} {t t' : Env} {tmps : Array Value}, putsA sz ps args t = some t' → VRels ρ args cargs → ERel ρ sz t tmps →
    ERel ρ sz t' ((ps.zip cargs).foldl (fun ts (q, v) => ts.setIfInBounds q v) tmps)
  | [], [], cargs, t, t', tmps, h, hr, e => by
    simp only [putsA, Option.some.injEq] at h; subst h
    have : cargs = [] := by simpa [VRels] using hr
    subst this; exact e
  | p :: ps, v :: vs, cargs, t, t', tmps, h, hr, e => by
    simp only [putsA] at h
    split at h
    · rename_i t1 h1
      simp only [VRels] at hr
      obtain ⟨cv, cvs, rfl, hv, hvs⟩ := hr
      have e1 : ERel ρ sz t1 (tmps.setIfInBounds p cv) := ERel.put (a := ⟨tmps, []⟩) (dst := some p) e h1 hv
      have h3 := puts_ok' h hvs e1
      exact h3
    · cases h
  | [], _ :: _, _, _, _, _, h, _, _ => by simp [putsA] at h
  | _ :: _, [], _, _, _, _, h, _, _ => by simp [putsA] at h

theorem puts_ok {ρ : Ren} {sz : Nat} {ps : List Nat} {args : List AV} {cargs : List Value} {t t' : Env} {tmps : Array Value} (h : putsA sz ps args t = some t') (hr : VRels ρ args cargs) (e : ERel ρ sz t tmps) :
    ERel ρ sz t' ((ps.toArray.zip cargs.toArray).foldl (fun ts (q, v) => ts.setIfInBounds q v) tmps) := by
  have : (ps.toArray.zip cargs.toArray).foldl (fun (ts : Array Value) (x : Nat × Value) => ts.setIfInBounds x.1 x.2) tmps = (ps.zip cargs).foldl (fun (ts : Array Value) (x : Nat × Value) => ts.setIfInBounds x.1 x.2) tmps := by
    rw [← Array.foldl_toList, Array.toList_zip]
  have h2 := puts_ok' h hr e
  exact (show _ = _ from this) ▸ h2

theorem roundStep_ok {code : CodeF} (hk : CodeOk T P base code) : RoundOk T P base (roundStep T code) := by
  intro m args h nx v h' nx' hh
  unfold roundStep at hh
  split at hh
  · rename_i fn st0 pe0 sz t ps assign body dfr hm
    obtain ⟨hpl, hh⟩ := ite_bool hh
    simp only [Bool.and_eq_true] at hpl
    split at hh
    · rename_i t1 ht1
      split at hh
      · rename_i t2 h2 nx2 hc1
        split at hh
        · rename_i gfn gpe gsz gt gps gas gbo gdf hm2
          split at hh
          · rename_i h3 hl3
            split at hh
            · rename_i out t4 h4 nx4 ms4 hc2
              split at hh
              · rename_i h5 hl5
                simp only [Option.some.injEq, Prod.mk.injEq] at hh; obtain ⟨rfl, rfl, rfl⟩ := hh
                obtain ⟨c1, k1⟩ := hk _ _ _ _ _ _ _ _ _ _ _ _ _ hpl.1 hc1
                obtain ⟨c2, k2⟩ := hk _ _ _ _ _ _ _ _ _ _ _ _ _ hpl.2 hc2
                refine ⟨Nat.le_trans c1 c2, fun fn' fnw st' pend' sz' t' ps' assign' body' dfr' ρ w p tmps cargs hm' hp r hargs hlen he hf => ?_⟩
                rw [hm] at hm'; simp only [Option.some.injEq, Blk.loop.injEq] at hm'
                obtain ⟨rfl, rfl, rfl, rfl, rfl, rfl, rfl, rfl, rfl⟩ := hm'
                refine roundIn_of_wpIn trivial ?_
                refine Runs.wp (k1 ρ w _ (some p.block) _ (fun h => by cases h) r (puts_ok ht1 hargs he) (hf.left c2) rfl fun ρ1 a1 w1 e1 r1 x1 d1 => ?_)
                obtain ⟨fn2, st2, pe2, sz2, tt2, ps2, as2, bo2, df2, rec2, hm2', hw2, hs2, hpe2, _, hturn⟩ := loopA_ok r1 hl3 (x1.le _ _ hp) (fun _ _ h => h)
                rw [hm2] at hm2'; simp only [Option.some.injEq, Blk.loop.injEq] at hm2'
                obtain ⟨_, hst, hpe, _⟩ := hm2'
                have hready : rec2.state = .ready := by rw [hs2, ← hst]
                obtain ⟨r2, x2⟩ := hturn nx2
                have hrec : ({ rec2 with state := .busy, pending := pe2.bind Out.code } : Loop) = { rec2 with state := .busy } := by rw [← hpe2]
                rw [hrec] at r2 x2
                refine ⟨_, run_beginRound hw2 hready, ?_⟩
                refine Runs.wp (k2 ρ1 _ a1 (some p.block) _ (fun h => by cases h) r2 e1 (hf.right x1) d1 fun ρ2 a2 w2 e2 r3 x3 d2 => ?_)
                have hpo : ∀ (st : LoopState) (pe : Option Out), pe ≠ some .normal → pendOf out ≠ some .normal := fun _ _ _ => by cases out <;> simp [pendOf]
                obtain ⟨fn3, st3, pe3, sz3, tt3, ps3, as3, bo3, df3, rec3, hm3, hw3, hs3, hpe3, _, hturn3⟩ := loopA_ok r3 hl5 (x3.le _ _ (x1.le _ _ hp)) hpo
                obtain ⟨r4, x4⟩ := hturn3 nx4
                have hx := ((x1.trans x2).trans x3).trans x4
                cases out with
                | normal => exact ⟨_, _, run_endRound none hw3, ρ2, _, rfl, by simp only [VRel]; rfl, r4, hx⟩
                | exit id => exact ⟨_, _, run_endRound (some (.exit id)) hw3, ρ2, _, rfl, by simp only [VRel]; rfl, r4, hx⟩
                | ret => exact ⟨_, _, run_endRound (some .ret) hw3, ρ2, _, rfl, by simp only [VRel]; rfl, r4, hx⟩
              · cases hh
            · cases hh
          · cases hh
        · cases hh
      · cases hh
    · cases hh
  · cases hh

theorem rangeFuncA_ok {call : CallF} (ok : TabOk T P) (hc : CallOk T P base call) {f : FuncId} {sz : Nat} {g : Operand} {gv : AV} {ps : Array Nat} {assign body : Code} {t : Env} {h : Heap} {nx : Nat} {ms : List Dfr} {out : Out} {t' : Env} {h' : Heap} {nx' : Nat} {ms' : List Dfr}
    (_ : planned T f assign = true) (_ : planned T f body = true) (hg : val t g = some gv) (hh : rangeFuncA T call f sz gv ps.toList assign body t h nx ms = some (out, t', h', nx', ms')) : nx ≤ nx' ∧
    ∀ (ρ : Ren) (w : World) (a : Act) (ro : Option Nat) (Q : Exit → Act → World → Prop), (false = false → ro = none) → Rep T base ρ h.get w → ERel ρ sz t a.tmps → Fresh ρ nx nx' → DRel ρ ms a.defers →
      (∀ ρ' a' w', ERel ρ' sz t' a'.tmps → Rep T base ρ' h'.get w' → Ext ρ h.get nx w ρ' h'.get nx' w' → DRel ρ' ms' a'.defers → Q (Out.toExit out) a' w') → Runs (FW ro) 0 P (.rangeFunc g ps assign body) Q a w := by
  unfold rangeFuncA at hh
  split at hh
  · rename_i gf fi ca
    split at hh
    · cases hh
    · split at hh
      · rename_i fn hfn
        split at hh
        · rename_i c hcb
          split at hh
          · rename_i h1 nx1 hn1
            split at hh
            · rename_i h2 nx2 hn2
              split at hh
              · rename_i rv h3 nx3 hcall
                split at hh
                · rename_i gfn st pe gsz gt gps gas gbo gdf hm3
                  obtain ⟨hnb, hh⟩ := ite_bool hh
                  split at hh
                  · rename_i h4 hl4
                    simp only [Option.some.injEq, Prod.mk.injEq] at hh; obtain ⟨rfl, rfl, rfl, rfl, rfl⟩ := hh
                    obtain ⟨c3, k3⟩ := hc _ _ _ _ _ _ _ hcall
                    obtain ⟨rfl, _⟩ := newA_get hn1
                    obtain ⟨rfl, _⟩ := newA_get hn2
                    refine ⟨by omega, fun ρ w a ro Q hro r e hf hde hQ => ?_⟩
                    have hro' := hro rfl
                    subst hro'
                    obtain ⟨r1, x1⟩ := newA_ok (o := .deferred (some [])) (cap := none) r hn1 (hf.left (by omega)) rfl
                    have hf1 : Fresh _ (nx + 1) nx3 := (hf : Fresh ρ nx nx3).right x1
                    have e1 := e.mono x1.le
                    refine wpIn_rangeFunc fun fnw _ => ?_
                    obtain ⟨r2, x2⟩ := newA_ok (o := .loop { state := .ready, pending := none, fn := fnw, tmps := a.tmps, params := ps, assign, body, defers := w.heap.size }) (cap := none) r1 hn2 (hf1.left (by omega))
                      ⟨fnw, a.tmps, _, Ren.add_at _ _ _, by simp, e1, by simp⟩
                    have hf2 := hf1.right x2
                    have hgv := e.val hg
                    simp only [VRel] at hgv
                    obtain ⟨ls, cs, hgv, hls, hcs⟩ := hgv
                    have hsz1 : (w.alloc (.deferred (some []))).heap.size = w.heap.size + 1 := World.size_alloc _ _
                    have hargs := ((hls.mono (Ren.le_trans x1.le x2.le)).append (VRels.cons (a := .yield (nx + 1)) (v := .func (.yield (w.heap.size + 1)) #[] #[]) (by simp only [VRel]; exact ⟨_, Ren.add_at _ _ _, by rw [hsz1]⟩) (VRels.nil _))).append (hcs.mono (Ren.le_trans x1.le x2.le))
                    refine ⟨w.heap.size + 1, _, (w.alloc (.deferred (some []))).alloc (.loop { state := .ready, pending := none, fn := fnw, tmps := a.tmps, params := ps, assign, body, defers := w.heap.size }), { target := .fn (.func gf) cs.toArray, args := (ls ++ [Value.func (.yield (w.heap.size + 1)) #[] #[]]).toArray }, (w.alloc (.deferred (some []))).alloc (.loop { state := .ready, pending := none, fn := fnw, tmps := a.tmps, params := ps, assign, body, defers := w.heap.size }), gf, (ls ++ [Value.func (.yield (w.heap.size + 1)) #[] #[]] ++ cs).toArray, (w.alloc (.deferred (some []))).alloc (.loop { state := .ready, pending := none, fn := fnw, tmps := a.tmps, params := ps, assign, body, defers := w.heap.size }), run_enterLoop_outer fnw a.tmps ps assign body, ?_, fun _ _ => trivial, ?_, by simp [FW], ?_⟩
                    · have hcv : ∀ v, a.eval (.const v) = v := fun _ => rfl
                      simp [resolve, hgv, Deferred.ofValue, hcv]
                    · have := ok.call gf fn c hfn hcb (ls ++ [Value.func (.yield (w.heap.size + 1)) #[] #[]] ++ cs).toArray ((w.alloc (.deferred (some []))).alloc (.loop { state := .ready, pending := none, fn := fnw, tmps := a.tmps, params := ps, assign, body, defers := w.heap.size }))
                      simpa [invoke] using this
                    · refine CallsIn.mono (F := FW none) (k3 _ _ _ r2 hargs hf2) fun en w3 he => ?_
                      obtain ⟨ρ3, cv, rfl, hv, r3, x3⟩ := he
                      obtain ⟨fn4, st4, pe4, sz4, tt4, ps4, as4, bo4, df4, rec4, hm4, hw4, hs4, hpe4, hne4, hturn4⟩ := loopA_ok r3 hl4 (x3.le _ _ (Ren.add_at _ _ _)) (fun _ _ h => h)
                      rw [hm3] at hm4; simp only [Option.some.injEq, Blk.loop.injEq] at hm4
                      obtain ⟨_, hst, hpe, _⟩ := hm4
                      subst hst hpe
                      obtain ⟨r4, x4⟩ := hturn4 nx3
                      have hrec : ({ rec4 with state := .exhausted, pending := pe.bind Out.code } : Loop) = { rec4 with state := .exhausted } := by rw [← hpe4]
                      rw [hrec] at r4 x4
                      simp only [hsz1] at hw4 r4 x4
                      have hnb' : rec4.state ≠ .busy := by rw [hs4]; intro hb; rw [hb] at hnb; cases hnb
                      have hx := ((x1.trans x2).trans x3).trans x4
                      have hfin := hQ ρ3 { a with defers := [{ target := .collected w.heap.size, args := #[] }] ++ a.defers } _ (e.mono hx.le) r4 hx
                        ⟨⟨w.heap.size, 0, none⟩, a.defers, x4.le _ _ (x3.le _ _ (x2.le _ _ (Ren.add_at _ _ _))), rfl, hde.mono hx.le⟩
                      refine ⟨pe.bind Out.code, _, by rw [← hpe4]; exact run_endLoop hw4 hnb', ?_⟩
                      cases pe with
                      | none => exact hfin
                      | some o => cases o with
                        | normal => exact absurd rfl hne4
                        | ret => exact wpIn_ret hfin
                        | exit id => exact wpIn_exit hfin
                  · cases hh
                · cases hh
              · cases hh
            · cases hh
          · cases hh
        · cases hh
      · cases hh
  · cases hh

theorem evOps_rest {call : CallF} {round : RoundF} (ok : TabOk T P) (ov : OverOk T) (hc : CallOk T P base call) (hd : RoundOk T P base round) {sz : Nat} {ops : Array Oper} : ∀ (l : List Oper) (i : Nat), (∀ j o, l[j]? = some o → ops[i + j]? = some o) → ∀ {t : Env} {h : Heap} {nx : Nat} {t' : Env} {h' : Heap} {nx' : Nat}, evOps T sz call round ops l t h nx = some (t', h', nx') →
    nx ≤ nx' ∧ ∀ {ρ : Ren} {w : World} {a : Act} {ro : Option Nat} {Q : Exit → Act → World → Prop} {rest : List Nat}, Rep T base ρ h.get w → ERel ρ sz t a.tmps → Fresh ρ nx nx' →
      (∀ ρ' a' w', ERel ρ' sz t' a'.tmps → Rep T base ρ' h'.get w' → Ext ρ h.get nx w ρ' h'.get nx' w' → a'.defers = a.defers → wpOpsIn (FW ro) 0 P ops Q rest a' w') → wpOpsIn (FW ro) 0 P ops Q (List.range' i l.length ++ rest) a w
  | [], i, hl, t, h, nx, t', h', nx', hs => by
    simp only [evOps, Option.some.injEq, Prod.mk.injEq] at hs; obtain ⟨rfl, rfl, rfl⟩ := hs
    exact ⟨Nat.le_refl _, fun {ρ w a ro Q rest} r e hf hQ => hQ ρ a w e r (Ext.refl _ _ _ _) rfl⟩
  | o :: l, i, hl, t, h, nx, t', h', nx', hs => by
    simp only [evOps] at hs
    split at hs
    · cases hs
    · rename_i t1 h1 nx1 h1s
      have ih := evOps_rest ok ov hc hd l (i + 1) (fun j o' hj => by rw [Nat.add_assoc, Nat.add_comm 1 j]; exact hl (j + 1) o' (by simpa using hj)) hs
      have hcnt := (stepOp_ok (ρ := fun _ => none) (w := default) (a := ⟨#[], []⟩) ok ov hc hd h1s).1
      refine ⟨Nat.le_trans hcnt ih.1, fun {ρ w a ro Q rest} r e hf hQ => ?_⟩
      rw [List.length_cons, List.range'_succ, List.cons_append, wpOpsIn_cons]
      refine (stepOp_ok ok ov hc hd h1s).2 (by have := hl 0 o (by simp); simpa using this) r e (hf.left ih.1) fun ρ1 cv w1 e1 r1 x1 => ?_
      refine ih.2 r1 e1 (hf.right x1) fun ρ2 a2 w2 e2 r2 x2 hde => ?_
      refine hQ ρ2 a2 w2 e2 r2 (x1.trans x2) (hde.trans ?_)
      cases o.dst <;> rfl

theorem lastDefer_ok : ∀ {l : List Oper} {c : Call}, lastDefer l = some c → ∃ o, l = initL l ++ [o] ∧ o.op = .defer c ∧ o.guard = none ∧ o.dst = none
  | [], c, h => by simp [lastDefer] at h
  | [o], c, h => by
    simp only [lastDefer] at h
    split at h
    · rename_i c' h1 h2 h3
      injection h with h; subst h
      exact ⟨o, by simp [initL], h1, h2, h3⟩
    · cases h
  | x :: o :: os, c, h => by
    simp only [lastDefer] at h
    obtain ⟨o', h1, h2⟩ := lastDefer_ok h
    exact ⟨o', by simp only [initL, List.cons_append]; rw [← h1], h2⟩

theorem regionA_ok {call : CallF} {round : RoundF} (ok : TabOk T P) (ov : OverOk T) (hc : CallOk T P base call) (hd : RoundOk T P base round) {sz id : Nat} {inr : Bool} {ops : Array Oper} {t : Env} {h : Heap} {nx : Nat} {ms : List Dfr} {t' : Env} {h' : Heap} {nx' : Nat} {ms' : List Dfr}
    (hh : regionA T sz call round inr ops t h nx ms = some (t', h', nx', ms')) : nx ≤ nx' ∧
    ∀ (ρ : Ren) (w : World) (a : Act) (ro : Option Nat) (Q : Exit → Act → World → Prop), (inr = false → ro = none) → Rep T base ρ h.get w → ERel ρ sz t a.tmps → Fresh ρ nx nx' → DRel ρ ms a.defers →
      (∀ ρ' a' w', ERel ρ' sz t' a'.tmps → Rep T base ρ' h'.get w' → Ext ρ h.get nx w ρ' h'.get nx' w' → DRel ρ' ms' a'.defers → Q .normal a' w') → Runs (FW ro) 0 P (.region id ops false) Q a w := by
  unfold regionA at hh
  split at hh
  · split at hh
    · rename_i t1 h1 nx1 h1s
      simp only [Option.some.injEq, Prod.mk.injEq] at hh; obtain ⟨rfl, rfl, rfl, rfl⟩ := hh
      obtain ⟨c1, k1⟩ := evOps_ok ok ov hc hd (ops := ops) ops.toList 0 (fun j => by simp) h1s
      refine ⟨c1, fun ρ w a ro Q hro r e hf hde hQ => wpIn_region ?_⟩
      rw [List.range_eq_range']
      have := k1 (ro := ro) (Q := Q) r e hf fun ρ1 a1 w1 e1 r1 x1 d1 => hQ ρ1 a1 w1 e1 r1 x1 (by rw [d1]; exact hde.mono x1.le)
      simpa using this
    · cases hh
  · rename_i c hlast
    cases inr with
    | true => simp at hh
    | false =>
      simp only [cond_false] at hh
      obtain ⟨o, hops, hop, hgu, hdst⟩ := lastDefer_ok hlast
      split at hh
      · rename_i t1 h1 nx1 h1s
        split at hh
        · rename_i d hdA
          simp only [Option.some.injEq, Prod.mk.injEq] at hh; obtain ⟨rfl, rfl, rfl, rfl⟩ := hh
          have hget : ∀ j o', (initL ops.toList)[j]? = some o' → ops[0 + j]? = some o' := fun j o' hj => by
            have h1 : ops.toList[j]? = some o' := by rw [hops, List.getElem?_append_left (List.getElem?_eq_some_iff.1 hj).1]; exact hj
            rw [Nat.zero_add]; simpa using h1
          have hlen : ops.size = (initL ops.toList).length + 1 := by
            have := congrArg List.length hops
            simpa using this
          have hlastget : ops[(initL ops.toList).length]? = some o := by
            have h1 : ops.toList[(initL ops.toList).length]? = some o := by
              have h2 : (initL ops.toList ++ [o])[(initL ops.toList).length]? = some o := by simp
              rw [← hops] at h2; exact h2
            simpa using h1
          obtain ⟨c1, k1⟩ := evOps_rest ok ov hc hd (ops := ops) (initL ops.toList) 0 hget h1s
          refine ⟨c1, fun ρ w a ro Q hro r e hf hde hQ => wpIn_region ?_⟩
          have hro' := hro rfl
          subst hro'
          rw [List.range_eq_range', hlen, ← List.range'_append (s := 0) (m := (initL ops.toList).length) (n := 1) (step := 1)]
          refine k1 r e hf fun ρ1 a1 w1 e1 r1 x1 d1 => ?_
          simp only [Nat.one_mul, Nat.zero_add, List.range'_one]
          rw [wpOpsIn_cons]
          unfold wpOpIn
          simp only [hlastget, Region.wanted, hgu, if_true]
          refine ⟨fun _ _ => trivial, ?_⟩
          unfold deferA at hdA
          split at hdA
          · rename_i f hcal
            split at hdA
            · rename_i g fi ca args hf1 hargs
              injection hdA with hdA; subst hdA
              have hfv := e1.val hf1
              simp only [VRel] at hfv
              obtain ⟨ls, cs, hfv, h1, h2⟩ := hfv
              have hr := e1.vals hargs
              have hrun : (Oper.semAt (FW none).round a1.eval o).run P w1 = .ok (.defer { target := .fn (.func g) cs.toArray, args := (ls ++ c.args.toList.map a1.eval).toArray }) w1 := by
                have hA : (c.args.toList.map a1.eval).toArray = c.args.map a1.eval := Array.ext' (by simp)
                show (execOp a1.eval o).run P w1 = _
                simp [execOp, hop, resolve, hcal, hfv, Deferred.ofValue, ← hA]
              rw [hrun, Oper.uponIn_defer]
              refine hQ ρ1 _ w1 ?_ r1 x1 ⟨ls ++ c.args.toList.map a1.eval, cs, a1.defers, by rw [hdst]; rfl, (h1.append hr).append h2, by rw [d1]; exact hde.mono x1.le⟩
              rw [hdst]; exact e1
            · cases hdA
          · cases hdA
        · cases hh
      · cases hh

end marks

section
variable {T : Tab} {P : Program} {base : Nat} (ok : TabOk T P) (ov : OverOk T) (hmix : P.follows .mixedOrders = true)
include ok ov hmix

theorem codeStep_ok {call : CallF} {round : RoundF} {code : CodeF} (hc : CallOk T P base call) (hd : RoundOk T P base round) (hk : CodeOk T P base code) : CodeOk T P base (codeStep T call round code) := by
  intro f inr sz c t h nx ms out t' h' nx' ms' hpl hh
  cases c with
  | skip =>
    simp only [codeStep, Option.some.injEq, Prod.mk.injEq] at hh; obtain ⟨rfl, rfl, rfl, rfl, rfl⟩ := hh
    exact ⟨Nat.le_refl _, fun ρ w a ro Q hro r e hf hde hQ => wpIn_skip (hQ ρ a w e r (Ext.refl _ _ _ _) hde)⟩
  | label l =>
    simp only [codeStep, Option.some.injEq, Prod.mk.injEq] at hh; obtain ⟨rfl, rfl, rfl, rfl, rfl⟩ := hh
    exact ⟨Nat.le_refl _, fun ρ w a ro Q hro r e hf hde hQ => wpIn_label (hQ ρ a w e r (Ext.refl _ _ _ _) hde)⟩
  | ret =>
    simp only [codeStep, Option.some.injEq, Prod.mk.injEq] at hh; obtain ⟨rfl, rfl, rfl, rfl, rfl⟩ := hh
    exact ⟨Nat.le_refl _, fun ρ w a ro Q hro r e hf hde hQ => wpIn_ret (hQ ρ a w e r (Ext.refl _ _ _ _) hde)⟩
  | exit id =>
    simp only [codeStep, Option.some.injEq, Prod.mk.injEq] at hh; obtain ⟨rfl, rfl, rfl, rfl, rfl⟩ := hh
    exact ⟨Nat.le_refl _, fun ρ w a ro Q hro r e hf hde hQ => wpIn_exit (hQ ρ a w e r (Ext.refl _ _ _ _) hde)⟩
  | seq x y =>
    simp only [planned, Bool.and_eq_true] at hpl
    simp only [codeStep] at hh
    split at hh
    · rename_i t1 h1 nx1 ms1 h1s
      obtain ⟨c1, k1⟩ := hk _ _ _ _ _ _ _ _ _ _ _ _ _ hpl.1 h1s
      obtain ⟨c2, k2⟩ := hk _ _ _ _ _ _ _ _ _ _ _ _ _ hpl.2 hh
      refine ⟨Nat.le_trans c1 c2, fun ρ w a ro Q hro r e hf hde hQ => wpIn_seq (Runs.wp (k1 ρ w a ro _ hro r e (hf.left c2) hde fun ρ1 a1 w1 e1 r1 x1 d1 => ?_))⟩
      exact Runs.wp (k2 ρ1 w1 a1 ro Q hro r1 e1 (hf.right x1) d1 fun ρ2 a2 w2 e2 r2 x2 d2 => hQ ρ2 a2 w2 e2 r2 (x1.trans x2) d2)
    · rename_i hne
      obtain ⟨c1, k1⟩ := hk _ _ _ _ _ _ _ _ _ _ _ _ _ hpl.1 hh
      refine ⟨c1, fun ρ w a ro Q hro r e hf hde hQ => wpIn_seq (Runs.wp (k1 ρ w a ro _ hro r e hf hde fun ρ1 a1 w1 e1 r1 x1 d1 => ?_))⟩
      have := hQ ρ1 a1 w1 e1 r1 x1 d1
      cases out with
      | normal => exact absurd hh (hne _ _ _ _)
      | exit id => exact this
      | ret => exact this
  | cond b x y =>
    simp only [planned, Bool.and_eq_true] at hpl
    simp only [codeStep] at hh
    split at hh
    · rename_i v hv
      obtain ⟨c1, k1⟩ := hk _ _ _ _ _ _ _ _ _ _ _ _ _ (by cases v <;> first | exact hpl.1 | exact hpl.2) hh
      refine ⟨c1, fun ρ w a ro Q hro r e hf hde hQ => ?_⟩
      have hb := e.val (a := a) hv
      simp only [VRel] at hb
      refine wpIn_cond hb ?_
      have := Runs.wp (k1 ρ w a ro Q hro r e hf hde hQ)
      cases v <;> exact this
    · cases hh
  | block id x =>
    simp only [planned] at hpl
    simp only [codeStep] at hh
    split at hh
    · rename_i j t1 h1 nx1 ms1 h1s
      obtain ⟨c1, k1⟩ := hk _ _ _ _ _ _ _ _ _ _ _ _ _ hpl h1s
      cases hj : Nat.beq j id with
      | true =>
        rw [hj] at hh; simp only [cond_true, Option.some.injEq, Prod.mk.injEq] at hh; obtain ⟨rfl, rfl, rfl, rfl, rfl⟩ := hh
        have hji := beq_true.1 hj
        refine ⟨c1, fun ρ w a ro Q hro r e hf hde hQ => wpIn_block (Runs.wp (k1 ρ w a ro _ hro r e hf hde fun ρ1 a1 w1 e1 r1 x1 d1 => ?_))⟩
        show (if j = id then Q .normal a1 w1 else Q (.exit j) a1 w1)
        rw [if_pos hji]; exact hQ ρ1 a1 w1 e1 r1 x1 d1
      | false =>
        rw [hj] at hh; simp only [cond_false, Option.some.injEq, Prod.mk.injEq] at hh; obtain ⟨rfl, rfl, rfl, rfl, rfl⟩ := hh
        have hji : ¬ j = id := fun h => by rw [beq_true.2 h] at hj; exact absurd hj (by decide)
        refine ⟨c1, fun ρ w a ro Q hro r e hf hde hQ => wpIn_block (Runs.wp (k1 ρ w a ro _ hro r e hf hde fun ρ1 a1 w1 e1 r1 x1 d1 => ?_))⟩
        show (if j = id then Q .normal a1 w1 else Q (.exit j) a1 w1)
        rw [if_neg hji]; exact hQ ρ1 a1 w1 e1 r1 x1 d1
    · rename_i hne
      obtain ⟨c1, k1⟩ := hk _ _ _ _ _ _ _ _ _ _ _ _ _ hpl hh
      refine ⟨c1, fun ρ w a ro Q hro r e hf hde hQ => wpIn_block (Runs.wp (k1 ρ w a ro _ hro r e hf hde fun ρ1 a1 w1 e1 r1 x1 d1 => ?_))⟩
      have := hQ ρ1 a1 w1 e1 r1 x1 d1
      cases out with
      | normal => exact this
      | exit id => exact absurd hh (hne _ _ _ _ _)
      | ret => exact this
  | loop x =>
    have hpx : planned T f x = true := by simpa only [planned] using hpl
    simp only [codeStep] at hh
    split at hh
    · rename_i t1 h1 nx1 ms1 h1s
      obtain ⟨c1, k1⟩ := hk _ _ _ _ _ _ _ _ _ _ _ _ _ hpx h1s
      obtain ⟨c2, k2⟩ := hk _ _ _ _ _ _ _ _ _ _ _ _ _ hpl hh
      refine ⟨Nat.le_trans c1 c2, fun ρ w a ro Q hro r e hf hde hQ => LoopW.round (Runs.wp (k1 ρ w a ro _ hro r e (hf.left c2) hde fun ρ1 a1 w1 e1 r1 x1 d1 => ?_))⟩
      exact k2 ρ1 w1 a1 ro Q hro r1 e1 (hf.right x1) d1 fun ρ2 a2 w2 e2 r2 x2 d2 => hQ ρ2 a2 w2 e2 r2 (x1.trans x2) d2
    · rename_i hne
      obtain ⟨c1, k1⟩ := hk _ _ _ _ _ _ _ _ _ _ _ _ _ hpx hh
      refine ⟨c1, fun ρ w a ro Q hro r e hf hde hQ => LoopW.round (Runs.wp (k1 ρ w a ro _ hro r e hf hde fun ρ1 a1 w1 e1 r1 x1 d1 => ?_))⟩
      have := hQ ρ1 a1 w1 e1 r1 x1 d1
      cases out with
      | normal => exact absurd hh (hne _ _ _ _)
      | exit id => exact this
      | ret => exact this
  | scope x =>
    simp only [planned] at hpl
    simp only [codeStep] at hh
    obtain ⟨c1, k1⟩ := hk _ _ _ _ _ _ _ _ _ _ _ _ _ hpl hh
    refine ⟨c1, fun ρ w a ro Q hro r e hf hde hQ => wpIn_scope_straight (Runs.wp (k1 ρ w a ro _ hro r e hf hde fun ρ1 a1 w1 e1 r1 x1 d1 => ?_))⟩
    have := hQ ρ1 a1 w1 e1 r1 x1 d1
    cases out <;> exact this
  | region id ops draw =>
    simp only [codeStep] at hh
    cases draw with
    | true =>
      simp only [cond_true] at hh
      split at hh
      · rename_i t1 h1 nx1 h1s
        simp only [Option.some.injEq, Prod.mk.injEq] at hh; obtain ⟨rfl, rfl, rfl, rfl, rfl⟩ := hh
        obtain ⟨c1, k1⟩ := drawnA_ok ok ov hmix hc hd hpl h1s
        exact ⟨c1, fun ρ w a ro Q hro r e hf hde hQ => k1 r e hf fun ρ1 a1 w1 e1 r1 x1 d1 => hQ ρ1 a1 w1 e1 r1 x1 (by rw [d1]; exact hde.mono x1.le)⟩
      · cases hh
    | false =>
      simp only [cond_false] at hh
      split at hh
      · rename_i t1 h1 nx1 ms1 h1s
        simp only [Option.some.injEq, Prod.mk.injEq] at hh; obtain ⟨rfl, rfl, rfl, rfl, rfl⟩ := hh
        exact regionA_ok ok ov hc hd h1s
      · cases hh
  | rangeFunc g ps assign body =>
    simp only [planned, Bool.and_eq_true] at hpl
    simp only [codeStep] at hh
    cases inr with
    | true => simp at hh
    | false =>
      simp only [cond_false] at hh
      split at hh
      · rename_i gv hgv
        exact rangeFuncA_ok ok hc hpl.1 hpl.2 hgv hh
      · cases hh
  | _ => simp [codeStep] at hh

omit hmix ov in
theorem resA_ok {ρ : Ren} {h : Heap} {w : World} {sz : Nat} {t : Env} {tmps : Array Value} (r : Rep T base ρ h.get w) (e : ERel ρ sz t tmps) : ∀ {rs : List ResultVar} {vs : List AV}, resA T t h rs = some vs →
    ∃ cvs : List Value, VRels ρ vs cvs ∧ (rs.mapM (resOne tmps)).run P w = .ok cvs w
  | [], vs, hh => by simp only [resA, Option.some.injEq] at hh; subst hh; exact ⟨[], VRels.nil _, rfl⟩
  | .tmp x :: rs, vs, hh => by
    simp only [resA] at hh
    split at hh
    · cases hh
    · rename_i v hv
      split at hh
      · cases hh
      · rename_i vs' hvs
        injection hh with hh; subst hh
        obtain ⟨cv, hcv, hr⟩ := e.get x v hv
        obtain ⟨cvs, h1, h2⟩ := resA_ok r e hvs
        have h3 : (resOne tmps (.tmp x)).run P w = .ok cv w := by simp [resOne, hcv]
        exact ⟨cv :: cvs, VRels.cons hr h1, by simp [List.mapM_cons, h2, h3]⟩
  | .cell x ty :: rs, vs, hh => by
    simp only [resA] at hh
    split at hh
    · cases hh
    · rename_i pv hpv
      split at hh
      · cases hh
      · rename_i v hv
        split at hh
        · cases hh
        · rename_i vs' hvs
          injection hh with hh; subst hh
          obtain ⟨cp, hcp, hrp⟩ := e.get x pv hpv
          obtain ⟨cvs, h1, h2⟩ := resA_ok r e hvs
          obtain ⟨cv, hrun, hr⟩ := loadA_ok ok r hrp hv
          have hlook : ∃ cs off, lookCells T h pv = some (cs, off) := by
            unfold loadA at hv
            split at hv
            · rename_i cs off _ hl; exact ⟨cs, off, hl⟩
            · cases hv
          obtain ⟨cs, off, hl⟩ := hlook
          obtain ⟨ad, rfl, _, _⟩ := r.look hrp hl
          simp only [Instr.loadAt, Instr.sureAddr, pure_bind] at hrun
          have h3 : (resOne tmps (.cell x ty)).run P w = .ok cv w := by simp [resOne, hcp, asAddr, hrun]
          exact ⟨cv :: cvs, VRels.cons hr h1, by simp [List.mapM_cons, h2, h3]⟩

omit ok ov hmix in
theorem args0_get : ∀ (l : List AV) (s : Nat) (u : Env), s + l.length < 1000000000 → ∀ i, (args0 l s u).get i = if s ≤ i ∧ i < s + l.length then l[i - s]? else u.get i := by
  intro l
  induction l with
  | nil => intro s u _ i; simp only [args0]; rw [if_neg (by simp only [List.length_nil]; omega)]
  | cons x l ih =>
    intro s u hs i
    simp only [List.length_cons] at hs
    simp only [args0]
    rw [ih (s + 1) _ (by omega) i, Tr.get_put _ _ _ _ _ (by have := D_pow; omega)]
    by_cases h1 : i = s
    · subst h1
      rw [if_neg (by omega), if_pos rfl, if_pos (by simp)]; simp
    · rw [if_neg h1]
      by_cases h2 : s + 1 ≤ i ∧ i < s + 1 + l.length
      · rw [if_pos h2, if_pos (by simp; omega)]
        rw [show i - s = (i - (s + 1)) + 1 by omega]; simp
      · rw [if_neg h2, if_neg (by simp; omega)]

omit ok ov hmix in
theorem enter_erel {ρ : Ren} {args : List AV} {cargs : List Value} {n : Nat} (hargs : VRels ρ args cargs) (h1 : args.length ≤ n) (h2 : n < 1000000000) :
    ERel ρ n (args0 args 0 .nil) (cargs.toArray ++ Array.replicate (n - cargs.toArray.size) undef) := by
  refine ⟨by simp [hargs.length]; omega, fun i b hi => ?_⟩
  rw [args0_get args 0 .nil (by omega) i] at hi
  split at hi
  · rename_i hlt
    rw [Nat.sub_zero] at hi
    obtain ⟨cv, hcv, hr⟩ := hargs.get hi
    refine ⟨cv, ?_, hr⟩
    have : i < cargs.length := (List.getElem?_eq_some_iff.1 hcv).1
    rw [Array.getElem?_append_left (by simpa using this)]
    simpa using hcv
  · cases hi

omit hmix ov in
theorem results_rel {ρ : Ren} {h : Heap} {w : World} {sz : Nat} {t : Env} {tmps : Array Value} {fn : Func} {vs : List AV} (r : Rep T base ρ h.get w) (e : ERel ρ sz t tmps) (hvs : resA T t h fn.results.toList = some vs) :
    ∃ v, (results fn tmps).run P w = .ok v w ∧ VRel ρ (single vs) v := by
  obtain ⟨cvs, hcvs, hrun⟩ := resA_ok ok r e hvs
  have hres : (results fn tmps).run P w = .ok (if h : cvs.toArray.size = 1 then cvs.toArray[0] else .tuple cvs.toArray) w := by
    have hm : (fn.results.mapM (resOne tmps)).run P w = .ok cvs.toArray w := by
      rw [Array.mapM_eq_mapM_toList]
      simp [hrun]
    rw [results_eq]
    simp only [Sem.run_bind, hm, Result.andThen]
    rfl
  refine ⟨_, hres, ?_⟩
  have hlen := hcvs.length
  cases vs with
  | nil => simp [VRels] at hcvs; subst hcvs; simp [single, VRel, VRels]
  | cons x xs =>
    cases xs with
    | nil =>
      simp only [VRels] at hcvs
      obtain ⟨cv, _, rfl, hx, rfl⟩ := hcvs
      simpa [single] using hx
    | cons y ys =>
      have hne : ¬ cvs.toArray.size = 1 := by simp at hlen ⊢; omega
      rw [dif_neg hne]
      simp only [single, VRel]
      exact ⟨cvs, rfl, hcvs⟩

omit ov hmix in
theorem callDStep_ok {code : CodeF} (hplan : ∀ f fn c, T.funcs.get f = some fn → fn.body = some c → planned T f c = true) (hk : CodeOk T P base code) {f : FuncId} {args : List AV} {h : Heap} {nx : Nat} {h' : Heap} {nx' : Nat}
    (hh : callDStep T code f args h nx = some (h', nx')) : nx ≤ nx' ∧ (∀ cargs w, (callFunc f cargs).run P w = .ok (.enter f cargs) w) ∧ ∀ (ρ : Ren) (w : World) (cargs : List Value) (u : FrameMode), Rep T base ρ h.get w → VRels ρ args cargs → Fresh ρ nx nx' →
      CallsDIn (FW none) 0 P f cargs.toArray u w fun e u' w' => u' = u ∧ ∃ ρ' cv, e = .returned cv ∧ Rep T base ρ' h'.get w' ∧ Ext ρ h.get nx w ρ' h'.get nx' w' := by
  unfold callDStep at hh
  split at hh
  · cases hh
  · rename_i fn hfn
    split at hh
    · cases hh
    · rename_i c hcb
      obtain ⟨hsz, hh⟩ := ite_bool hh
      simp only [Bool.and_eq_true, ble_true, blt_true] at hsz
      split at hh
      · cases hh
      · rename_i out t' g n hne hcode
        split at hh
        · rename_i vs hvs
          simp only [Option.some.injEq, Prod.mk.injEq] at hh; obtain ⟨rfl, rfl⟩ := hh
          obtain ⟨c1, k1⟩ := hk _ _ _ _ _ _ _ _ _ _ _ _ _ (hplan f fn c hfn hcb) hcode
          refine ⟨c1, fun cargs w => ok.call f fn c hfn hcb cargs w, fun ρ w cargs u r hargs hf => callsDIn_of_wp (R := fun e w' => ∃ ρ' cv, e = .returned cv ∧ Rep T base ρ' g.get w' ∧ Ext ρ h.get nx w ρ' g.get n w') (ok.funcs f fn hfn) hcb trivial (Runs.wp (k1 ρ w _ none _ (fun _ => rfl) r (enter_erel hargs hsz.1 hsz.2) hf rfl fun ρ1 a1 w1 e1 r1 x1 d1 => ?_))⟩
          obtain ⟨v, hres, hv⟩ := results_rel ok (fn := fn) r1 e1 hvs
          have hdef : a1.defers = [] := d1
          cases out with
          | normal => exact ⟨hdef, v, hres, ρ1, v, rfl, r1, x1⟩
          | ret => exact ⟨hdef, v, hres, ρ1, v, rfl, r1, x1⟩
          | exit i => exact absurd rfl (hne i)
        · cases hh
      · cases hh

omit ov hmix in
theorem leaves_ok {code : CodeF} (hplan : ∀ f fn c, T.funcs.get f = some fn → fn.body = some c → planned T f c = true) (hk : CodeOk T P base code) {fn : Func} {tmps : Array Value} {R : Ending → World → Prop} :
    ∀ {ms : List Dfr} {h : Heap} {nx : Nat} {h' : Heap} {nx' : Nat}, leavesA T code h nx ms = some (h', nx') → nx ≤ nx' ∧ ∀ {ρ : Ren} {w : World} {ds : List Deferred}, Rep T base ρ h.get w → DRel ρ ms ds → Fresh ρ nx nx' →
    (∀ ρ' w', Rep T base ρ' h'.get w' → Ext ρ h.get nx w ρ' h'.get nx' w' → ∃ v, (results fn tmps).run P w' = .ok v w' ∧ R (.returned v) w') → LeavesInM (FW none) 0 P fn tmps R ds .returning w
  | [], h, nx, h', nx', hd => by
    simp only [leavesA, Option.some.injEq, Prod.mk.injEq] at hd; obtain ⟨rfl, rfl⟩ := hd
    refine ⟨Nat.le_refl _, fun {ρ w ds} r hde hf k => ?_⟩
    have : ds = [] := hde
    subst this
    exact k ρ w r (Ext.refl _ _ _ _)
  | .mark m :: ms, h, nx, h', nx', hd => by
    simp only [leavesA] at hd
    split at hd
    · rename_i hm
      split at hd
      · rename_i h1 hu
        obtain ⟨c1, k1⟩ := leaves_ok hplan hk (fn := fn) (tmps := tmps) (R := R) hd
        refine ⟨c1, fun {ρ w ds} r hde hf k => ?_⟩
        obtain ⟨p, ds', hp, rfl, hde'⟩ := hde
        obtain ⟨p', o, hp', _, hw, hb⟩ := r.own _ _ hm
        rw [hp] at hp'; injection hp' with hp'; subst hp'
        have hb' : o = .deferred (some []) := hb
        subst hb'
        have hlt : p.block < w.heap.size := (Array.getElem?_eq_some_iff.1 hw).1
        have hsame : (w.putObj p.block (.deferred none)).heap[p.block]? = some (.deferred none) := World.putObj_heap_same hlt
        obtain ⟨r1, x1⟩ := r.drop (h' := h1.get) (w' := w.putObj p.block (.deferred none)) hm hp (fun n => upd_get hu n) (by simp) rfl rfl rfl hsame
          (fun k hk => World.putObj_heap_other hk) (fun a ha => by unfold World.frozen?; rw [ha, hsame]) nx
        exact ⟨by simp, .inl ⟨p.block, _, rfl, run_takeDeferred hw, k1 r1 hde' hf fun ρ' w' r' x' => k ρ' w' r' (x1.trans x')⟩⟩
      · cases hd
    · cases hd
  | .call f args :: ms, h, nx, h', nx', hd => by
    simp only [leavesA] at hd
    split at hd
    · rename_i h1 nx1 hcall
      obtain ⟨c1, hcf, k1⟩ := callDStep_ok ok hplan hk hcall
      obtain ⟨c2, k2⟩ := leaves_ok hplan hk (fn := fn) (tmps := tmps) (R := R) hd
      refine ⟨Nat.le_trans c1 c2, fun {ρ w ds} r hde hf k => ?_⟩
      obtain ⟨ls, cs, ds', rfl, hargs, hde'⟩ := hde
      refine ⟨by simp, .inr ⟨by simp [FW], .func f, cs.toArray, f, (ls ++ cs).toArray, rfl, ?_, fun _ _ => trivial, ?_⟩⟩
      · have := hcf (ls ++ cs).toArray w
        simpa [invoke] using this
      · refine CallsDIn.mono (k1 ρ w (ls ++ cs) .returning r hargs (hf.left c2)) fun e u' w' he => ?_
        obtain ⟨rfl, ρ1, cv, rfl, r1, x1⟩ := he
        exact k2 r1 (hde'.mono x1.le) (hf.right x1) fun ρ' w'' r' x' => k ρ' w'' r' (x1.trans x')
    · cases hd

omit hmix ov in
theorem callStep_ok {code : CodeF} (hplan : ∀ f fn c, T.funcs.get f = some fn → fn.body = some c → planned T f c = true) (hk : CodeOk T P base code) : CallOk T P base (callStep T code) := by
  intro f args h nx v h' nx' hh
  unfold callStep at hh
  split at hh
  · cases hh
  · rename_i fn hfn
    split at hh
    · cases hh
    · rename_i c hcb
      obtain ⟨hsz, hh⟩ := ite_bool hh
      simp only [Bool.and_eq_true, ble_true, blt_true] at hsz
      split at hh
      · cases hh
      · rename_i out t' g n ms hne hcode
        split at hh
        · rename_i h2 nx2 hlv
          split at hh
          · rename_i vs hvs
            simp only [Option.some.injEq, Prod.mk.injEq] at hh; obtain ⟨rfl, rfl, rfl⟩ := hh
            obtain ⟨c1, k1⟩ := hk _ _ _ _ _ _ _ _ _ _ _ _ _ (hplan f fn c hfn hcb) hcode
            have c2 := (leaves_ok ok hplan hk (fn := fn) (tmps := #[]) (R := fun _ _ => True) hlv).1
            refine ⟨Nat.le_trans c1 c2, fun ρ w cargs r hargs hf => callsIn_of_wp_marks (ok.funcs f fn hfn) hcb trivial (Runs.wp (k1 ρ w _ none _ (fun _ => rfl) r (enter_erel hargs hsz.1 hsz.2) (hf.left c2) rfl fun ρ1 a1 w1 e1 r1 x1 d1 => ?_))⟩
            have fin : LeavesInM (FW none) 0 P fn a1.tmps (fun e w' => ∃ ρ' cv, e = .returned cv ∧ VRel ρ' (single vs) cv ∧ Rep T base ρ' h2.get w' ∧ Ext ρ h.get nx w ρ' h2.get nx2 w') a1.defers .returning w1 := by
              refine (leaves_ok ok hplan hk hlv).2 r1 d1 (hf.right x1) fun ρ2 w2 r2 x2 => ?_
              obtain ⟨v, hres, hv⟩ := results_rel ok (fn := fn) r2 (e1.mono x2.le) hvs
              exact ⟨v, hres, ρ2, v, rfl, hv, r2, x1.trans x2⟩
            cases out with
            | normal => exact fin
            | ret => exact fin
            | exit i => exact absurd rfl (hne i)
          · cases hh
        · cases hh
      · cases hh

theorem ev_ok (hplan : ∀ f fn c, T.funcs.get f = some fn → fn.body = some c → planned T f c = true) : ∀ n, CallOk T P base (ev T n).call ∧ CodeOk T P base (ev T n).code
  | 0 => ⟨fun _ _ _ _ _ _ _ h => (by cases h), fun _ _ _ _ _ _ _ _ _ _ _ _ _ _ h => (by cases h)⟩
  | n + 1 => by
    obtain ⟨h1, h2⟩ := ev_ok hplan n
    exact ⟨callStep_ok ok hplan h2, codeStep_ok ok ov hmix h1 (roundStep_ok h2) h2⟩

end
end Go.Tame
