/- One operation: calls; all operations together. -/
import Derived.Test.YtobkmmlodmdlgaaGreatDoorTameRange
set_option linter.all false
namespace Go.Tame
open Go

/-- what `TabOk` says not: the sizes that the overlaps extern is given -/
def OverOk (T : Tab) : Prop := ∀ f s ty, T.exts.get f = some (.overlaps s ty) → ∃ e ti te, T.types.get ty = some ti ∧ ti.d = .slice e ∧ T.types.get e = some te ∧ te.size = s

section
variable {T : Tab} {P : Program} {base : Nat} {ρ : Ren} {h h' : Heap} {w : World} {nx nx' : Nat} {sz : Nat} {t : Env} {a : Act} {x : ORes}
variable (ok : TabOk T P) (ov : OverOk T) (r : Rep T base ρ h.get w)
include ok ov r

theorem BOk.next {f : FuncId} {s : Sem Value} {args : Array Value} (hb : BOk T base ρ h nx w x (s.run P w)) (hc : (callFunc f args).run P w = (s.run P w).andThen fun v w' => .ok (.value v) w') :
    OpOk T base ρ h nx w x ((callFunc f args).run P w) := by
  obtain ⟨v, h2, nx2, rfl, hd⟩ := hb
  intro hf
  obtain ⟨ρ', cv, w', hs, hv, hr', hx'⟩ := hd hf
  exact ⟨ρ', cv, w', .inl (by rw [hc, hs]; rfl), hv, hr', hx'⟩

variable (e : ERel ρ sz t a.tmps)
include e

theorem callA_ok {f : AV} {cf : Value} {args : List AV} {cargs : List Value} (hf : VRel ρ f cf) (hr : VRels ρ args cargs) (hh : callA T h nx f args = some x) :
    OpOk T base ρ h nx w x ((do let d ← Deferred.ofValue cf cargs.toArray; invoke d.target d.args : Sem Next).run P w) := by
  unfold callA at hh
  split at hh
  · rename_i g first caps
    simp only [VRel] at hf
    obtain ⟨ls, cs, rfl, h1, h2⟩ := hf
    have hrun : (do let d ← Deferred.ofValue (.func (.func g) ls.toArray cs.toArray) cargs.toArray; invoke d.target d.args : Sem Next).run P w = (callFunc g (ls ++ cargs ++ cs).toArray).run P w := by
      simp [Deferred.ofValue, invoke]
    rw [hrun]
    have hall : VRels ρ (first ++ args ++ caps) (ls ++ cargs ++ cs) := (h1.append hr).append h2
    split at hh
    · rename_i y he
      exact BOk.next ok ov r (extA_ok ok r e hall (fun s ty hy => ov g s ty (by rw [he, hy])) hh) (ok.exts g y he _ _)
    · split at hh
      · rename_i fn hfn
        split at hh
        · rename_i c hc
          injection hh with hh; subst hh
          exact ⟨_, ok.call g fn c hfn hc _ _, hall⟩
        · cases hh
      · cases hh
  · rename_i m
    simp only [VRel] at hf
    obtain ⟨p, hp, rfl⟩ := hf
    split at hh
    · rename_i fn st pend sz2 t2 ps assign body dfr hm
      cases hl : Nat.beq ps.length args.length with
      | false => rw [hl] at hh; cases hh
      | true =>
        rw [hl] at hh; simp only [cond_true] at hh; injection hh with hh; subst hh
        have hl' : ps.length = cargs.length := by rw [hr.length]; exact beq_true.1 hl
        obtain ⟨p', o, hp', _, hw, fnw, tmps, q, hq, rfl, he, _⟩ := r.own m _ hm
        rw [hp] at hp'; injection hp' with hp'; subst hp'
        refine ⟨fn, fnw, st, pend, sz2, t2, ps, assign, body, dfr, p, tmps, cargs, hm, hp, hr, hl', he, ?_⟩
        have hget : (getObj p.block).run P w = .ok (.loop { state := st, pending := pend.bind Out.code, fn := fnw, tmps, params := ps.toArray, assign, body, defers := q.block }) w := by simp [getObj, Sem.run, hw]
        simp [Deferred.ofValue, invoke, Instr.yield, Instr.getLoop, hget, hl']
    · cases hh
  · cases hh

theorem ok_call {o : Oper} {c : Call} (ho : o.op = .call c) (hh : opA T t h nx (.call c) = some x) : OpOk T base ρ h nx w x ((execOp a.eval o).run P w) := by
  have hA : (c.args.toList.map a.eval).toArray = c.args.map a.eval := Array.ext' (by simp)
  simp only [opA] at hh
  split at hh
  · rename_i args hargs
    have hr := e.vals hargs
    split at hh
    · rename_i f hcal
      split at hh
      · rename_i fv hfv
        have key := callA_ok ok ov r e (e.val hfv) hr hh
        have he : (execOp a.eval o).run P w = (do let d ← Deferred.ofValue (a.eval f) (c.args.toList.map a.eval).toArray; invoke d.target d.args : Sem Next).run P w := by
          rw [hA]; simp [execOp, ho, resolve, hcal]
        rw [he]; exact key
      · cases hh
    · rename_i b hcal
      have he : ∃ consts, (execOp a.eval o).run P w = (builtin b c.argTypes o.type consts (c.args.toList.map a.eval).toArray).run P w := by
        rw [hA]; exact ⟨_, by simp [execOp, ho, resolve, hcal, invoke]; rfl⟩
      obtain ⟨consts, he⟩ := he
      rw [he]
      exact builtinA_ok ok r e hr hh
    · cases hh
  · cases hh

theorem opA_ok {o : Oper} (hh : opA T t h nx o.op = some x) : OpOk T base ρ h nx w x ((execOp a.eval o).run P w) := by
  cases ho : o.op with
  | move y => rw [ho] at hh; exact ok_move ok r e (.inl ho) (by simpa only [opA] using hh)
  | assign y => rw [ho] at hh; exact ok_move ok r e (.inr ho) (by simpa only [opA] using hh)
  | pick c y z => rw [ho] at hh; exact ok_pick ok r e ho hh
  | alloc ty => rw [ho] at hh; exact ok_alloc ok r e ho hh
  | box ty y => rw [ho] at hh; exact ok_box ok r e ho hh
  | build ty ps => rw [ho] at hh; exact ok_build ok r e ho hh
  | buildSlice ty n ps => rw [ho] at hh; exact ok_buildSlice ok r e ho hh
  | load ty y => rw [ho] at hh; exact ok_load ok r e ho hh
  | store ty y z => rw [ho] at hh; exact ok_store ok r e ho hh
  | nilCheck y => rw [ho] at hh; exact ok_nilCheck ok r e ho hh
  | binOp op ty y z yt => rw [ho] at hh; exact ok_binOp ok r e ho hh
  | unOp op ty y => rw [ho] at hh; exact ok_unOp ok r e ho hh
  | convert s d y => rw [ho] at hh; exact ok_convert ok r e ho hh
  | makeFunc f fi ca => rw [ho] at hh; exact ok_makeFunc ok r e ho hh
  | makeMap ty y => rw [ho] at hh; exact ok_makeMap ok r e ho hh
  | makeSlice ty y z => rw [ho] at hh; exact ok_makeSlice ok r e ho hh
  | slice ty y l u m => rw [ho] at hh; exact ok_slice ok r e ho hh
  | fieldAddr s y n => rw [ho] at hh; exact ok_fieldAddr ok r e ho hh
  | field s y n => rw [ho] at hh; exact ok_field ok r e ho hh
  | indexAddr s y n => rw [ho] at hh; exact ok_indexAddr ok r e ho hh
  | index s y n => rw [ho] at hh; exact ok_index ok r e ho hh
  | lookup ty y z c => rw [ho] at hh; exact ok_lookup ok r e ho hh
  | mapUpdate ty y z u => rw [ho] at hh; exact ok_mapUpdate ok r e (.inl ho) hh
  | insert ty y z u => rw [ho] at hh; exact ok_mapUpdate ok r e (.inr ho) (by simpa only [opA] using hh)
  | makeInterface ty y => rw [ho] at hh; exact ok_makeInterface ok r e ho hh
  | typeAssert y xt ty c => rw [ho] at hh; exact ok_typeAssert ok r e ho hh
  | extract y n => rw [ho] at hh; exact ok_extract ok r e ho hh
  | range ty y => rw [ho] at hh; exact ok_range ok r e ho hh
  | next y c => rw [ho] at hh; exact ok_next r e ho hh
  | entry y => rw [ho] at hh; exact ok_entry r e ho hh
  | call c => rw [ho] at hh; exact ok_call ok ov r e ho hh
  | _ => rw [ho] at hh; simp [opA] at hh

end
end Go.Tame
