/- One operation: ranging over a map. -/
import Derived.Test.YtobkmmlodmdlgaaGreatDoorTameOps6
set_option linter.all false
namespace Go.Tame
open Go

theorem inB_iff {n : Nat} : ∀ {l : List Nat}, inB n l = true ↔ n ∈ l
  | [] => by simp [inB]
  | y :: ys => by
    simp only [inB, Bool.or_eq_true, beq_true, inB_iff, List.mem_cons]
    exact ⟨fun h => h.imp (fun h => h.symm) id, fun h => h.imp (fun h => h.symm) id⟩

theorem leftA_rel {ρ : Ren} {seen : List Nat} : ∀ {al : List (AV × AV × Nat)} {es : List MapEntry}, ESRel ρ al es → ESRel ρ (leftA seen al) (es.filter fun e => !seen.contains e.born)
  | [], es, h => by
    have : es = [] := h
    subst this; rfl
  | (k, v, b) :: al, es, h => by
    obtain ⟨e, es', rfl, h1, h2, h3, h4⟩ := h
    have ih := leftA_rel (seen := seen) h4
    simp only [leftA]
    cases hb : inB b seen with
    | true =>
      have : seen.contains e.born = true := by rw [h3]; simpa using inB_iff.1 hb
      simp only [cond_true, List.filter_cons, this, Bool.not_true, Bool.false_eq_true, if_false]
      exact ih
    | false =>
      have : seen.contains e.born = false := by
        rw [h3]
        cases hc : seen.contains b with
        | false => rfl
        | true => rw [inB_iff.2 (by simpa using hc)] at hb; cases hb
      simp only [cond_false, List.filter_cons, this, Bool.not_false, if_true]
      exact ⟨e, _, rfl, h1, h2, h3, ih⟩

theorem oldB_ok {ρ : Ren} {n : Nat} : ∀ {al : List (AV × AV × Nat)} {es : List MapEntry}, ESRel ρ al es → oldB n al = true → es.all (fun e => decide (e.born ≥ n)) = false
  | [], es, h, ho => by simp [oldB] at ho
  | (k, v, b) :: al, es, h, ho => by
    obtain ⟨e, es', rfl, h1, h2, h3, h4⟩ := h
    simp only [oldB, Bool.or_eq_true, blt_true] at ho
    simp only [List.all_cons, Bool.and_eq_false_iff]
    rcases ho with ho | ho
    · left; simp; omega
    · right; exact oldB_ok h4 ho

section
variable {P : Program}

theorem run_next_over {w : World} {r m since last clock : Nat} {seen : Array Nat} {es : Array MapEntry} {ty : TypeId} (hw : w.heap[r]? = some (.mapIter (some m) since seen last)) (hm : w.heap[m]? = some (.map es clock))
    (hc : (!seen.isEmpty && !es.isEmpty && es.all (fun e => decide (e.born ≥ last))) = false) (hl : es.filter (fun e => !seen.contains e.born) = #[]) :
    (Instr.next (.pointer (some ⟨r, 0, none⟩)) false ty).run P w = .ok (.tuple #[.bool false]) w := by
  simp only [Instr.next, getObj, Sem.run_bind, Sem.run, hw, hm, Result.andThen, hc, Bool.false_eq_true, if_false, hl]
  simp [choose, Sem.run, Question.forced]

theorem run_next_one {w : World} {r m since last clock : Nat} {seen : Array Nat} {es : Array MapEntry} {e : MapEntry} {ty : TypeId} (hw : w.heap[r]? = some (.mapIter (some m) since seen last)) (hm : w.heap[m]? = some (.map es clock))
    (hc : (!seen.isEmpty && !es.isEmpty && es.all (fun e => decide (e.born ≥ last))) = false) (hl : es.filter (fun e => !seen.contains e.born) = #[e]) (he : e.born < since) :
    (Instr.next (.pointer (some ⟨r, 0, none⟩)) false ty).run P w = .ok (.tuple #[.bool true, e.key, e.val]) { w with heap := w.heap.setIfInBounds r (.mapIter (some m) since (seen.push e.born) clock) } := by
  simp only [Instr.next, getObj, Sem.run_bind, Sem.run, hw, hm, Result.andThen, hc, Bool.false_eq_true, if_false, hl]
  have h1 : ¬ since ≤ e.born := by omega
  simp [choose, Sem.run, Question.forced, he, h1, setObj, hw]
end

section
variable {T : Tab} {P : Program} {base : Nat} {ρ : Ren} {h h' : Heap} {w : World} {nx nx' : Nat} {sz : Nat} {t : Env} {a : Act} {x : ORes}
variable (ok : TabOk T P) (r : Rep T base ρ h.get w) (e : ERel ρ sz t a.tmps)
include r

theorem stepA_ok {y : AV} {cy : Value} (hx : VRel ρ y cy) (hh : stepA h nx y = some x) (ty : TypeId) : ∃ v cv h' w', x = .val v h' nx ∧ (Instr.next cy false ty).run P w = .ok cv w' ∧ VRel ρ v cv ∧ Rep T base ρ h'.get w' ∧ Ext ρ h.get nx w ρ h'.get nx w' := by
  unfold stepA at hh
  split at hh
  · rename_i rr
    simp only [VRel] at hx
    obtain ⟨p, hp, rfl⟩ := hx
    split at hh
    · rename_i s1 s2 s3 hm
      obtain ⟨p', o, hp', _, hw, hoff, bb, rfl, hb⟩ := r.own _ _ hm
      rw [hp] at hp'; injection hp' with hp'; subst hp'
      simp only at hb; subst hb
      injection hh with hh; subst hh
      refine ⟨_, .tuple #[.bool false], h, w, rfl, ?_, ?_, r, Ext.refl _ _ _ _⟩
      · simp [Instr.next, getObj, Sem.run, hw, Place.addr, hoff]
      · simp only [VRel]; exact ⟨[.bool false], rfl, VRels.cons (by simp only [VRel]) (VRels.nil _)⟩
    · rename_i m since seen stepped hm
      obtain ⟨p', o, hp', _, hw, hoff, bb, rfl, q, hq, hb⟩ := r.own _ _ hm
      rw [hp] at hp'; injection hp' with hp'; subst hp'
      subst hb
      split at hh
      · rename_i es clock hmm
        obtain ⟨q', o', hq', _, hw', l, rfl, hes⟩ := r.own _ _ hmm
        rw [hq] at hq'; injection hq' with hq'; subst hq'
        unfold nextA at hh
        obtain ⟨hc, h2⟩ := ite_bool hh
        have hc' : (!seen.toArray.isEmpty && !l.toArray.isEmpty && l.toArray.all (fun e => decide (e.born ≥ stepped))) = false := by
          simp only [Bool.or_eq_true] at hc
          rcases hc with (hc | hc) | hc
          · have : seen.toArray.isEmpty = true := by simpa using hc
            simp [this]
          · have : es = [] := by simpa using hc
            subst this
            have : l = [] := hes
            subst this; simp
          · have := oldB_ok hes hc
            have h3 : l.toArray.all (fun e => decide (e.born ≥ stepped)) = false := by rw [List.all_toArray]; exact this
            rw [h3, Bool.and_false]
        have hleft := leftA_rel (seen := seen) hes
        have hfil : l.toArray.filter (fun e => !seen.toArray.contains e.born) = (l.filter fun e => !seen.contains e.born).toArray := by simp
        have hpa : p.addr 0 = ⟨p.block, 0, none⟩ := by simp [Place.addr, hoff]
        rw [hpa]
        split at h2
        · rename_i hl0
          rw [hl0] at hleft
          have hl0' : (l.filter fun e => !seen.contains e.born) = [] := hleft
          injection h2 with h2; subst h2
          refine ⟨_, .tuple #[.bool false], h, w, rfl, run_next_over hw hw' hc' (by rw [hfil, hl0']), ?_, r, Ext.refl _ _ _ _⟩
          simp only [VRel]; exact ⟨[.bool false], rfl, VRels.cons (by simp only [VRel]) (VRels.nil _)⟩
        · rename_i k v b hl0
          rw [hl0] at hleft
          obtain ⟨en, es', hl1, hk, hv, hb, hnil⟩ := hleft
          have hnil' : es' = [] := hnil
          subst hnil'
          obtain ⟨hlt, h3⟩ := ite_bool h2
          rw [blt_true] at hlt
          obtain ⟨g, hu, rfl⟩ := retH_some h3
          have hlt' : p.block < w.heap.size := (Array.getElem?_eq_some_iff.1 hw).1
          obtain ⟨r', x'⟩ := r.turn (h' := g.get) (w' := { w with heap := w.heap.setIfInBounds p.block (.mapIter (some q.block) since (seen.toArray.push en.born) clock) }) hm hp (fun n => upd_get hu n)
            (by simp) rfl rfl rfl (o' := .mapIter (some q.block) since (seen.toArray.push en.born) clock) (by simp [hlt']) (fun k hk => by simp [Array.getElem?_setIfInBounds_ne (Ne.symm hk)])
            ⟨hoff, some q.block, by rw [hb]; simp, q, hq, rfl⟩ nx
          refine ⟨_, .tuple #[.bool true, en.key, en.val], g, _, rfl, run_next_one hw hw' hc' (by rw [hfil, hl1]) (by rw [hb]; exact hlt), ?_, r', x'⟩
          simp only [VRel]; exact ⟨[.bool true, en.key, en.val], rfl, VRels.cons (by simp only [VRel]) (VRels.cons hk (VRels.cons hv (VRels.nil _)))⟩
        · cases h2
      · cases hh
    · cases hh
  · cases hh

include e

theorem ok_next {o : Oper} {y : Operand} {c : Bool} (ho : o.op = .next y c) (hh : opA T t h nx (.next y c) = some x) : OpOk T base ρ h nx w x ((execOp a.eval o).run P w) := by
  cases c with
  | true => simp [opA] at hh
  | false =>
    simp only [opA] at hh
    split at hh
    · rename_i v hv
      obtain ⟨v', cv, h2, w2, rfl, hrun, hr, r', x'⟩ := stepA_ok (P := P) r (e.val hv) hh o.type
      intro _
      exact ⟨ρ, cv, w2, .inl (by simp [execOp, ho, hrun]), hr, r', x'⟩
    · cases hh

omit r e in
theorem lastN_ok : ∀ {l : List Nat} {n : Nat}, lastN l = some n → l.toArray.back? = some n
  | [], n, h => by simp [lastN] at h
  | [y], n, h => by simp [lastN] at h; subst h; simp
  | _ :: y :: ys, n, h => by
    simp only [lastN] at h
    have := lastN_ok h
    simpa [Array.back?_eq_getElem?] using this

omit r e in
theorem bornA_ok {n : Nat} {k v : AV} : ∀ {al : List (AV × AV × Nat)} {es : List MapEntry}, ESRel ρ al es → bornA n al = some (k, v) → ∃ en, es.find? (fun e => e.born == n) = some en ∧ VRel ρ k en.key ∧ VRel ρ v en.val
  | [], es, _, h => by simp [bornA] at h
  | (k', v', b) :: al, es, hes, h => by
    obtain ⟨en, es', rfl, h1, h2, h3, h4⟩ := hes
    simp only [bornA] at h
    cases hb : Nat.beq b n with
    | true =>
      rw [hb] at h; simp only [cond_true, Option.some.injEq, Prod.mk.injEq] at h
      obtain ⟨rfl, rfl⟩ := h
      have : en.born = n := by rw [h3]; exact beq_true.1 hb
      exact ⟨en, by simp [List.find?_cons, this], h1, h2⟩
    | false =>
      rw [hb] at h; simp only [cond_false] at h
      obtain ⟨e2, h5, h6, h7⟩ := bornA_ok h4 h
      have : (en.born == n) = false := by
        rw [h3]
        cases hc : (b == n) with
        | false => rfl
        | true => rw [beq_true.2 (by simpa using hc)] at hb; cases hb
      exact ⟨e2, by simp [List.find?_cons, this, h5], h6, h7⟩

theorem ok_entry {o : Oper} {y : Operand} (ho : o.op = .entry y) (hh : opA T t h nx (.entry y) = some x) : OpOk T base ρ h nx w x ((execOp a.eval o).run P w) := by
  simp only [opA] at hh
  split at hh
  · rename_i v hv
    have hx := e.val hv
    unfold entryA at hh
    split at hh
    · rename_i rr
      simp only [VRel] at hx
      obtain ⟨p, hp, hx⟩ := hx
      split at hh
      · rename_i m since seen stepped hm
        obtain ⟨p', o', hp', _, hw, hoff, bb, rfl, q, hq, hb⟩ := r.own _ _ hm
        rw [hp] at hp'; injection hp' with hp'; subst hp'
        subst hb
        split at hh
        · rename_i es clock n hmm hlast
          obtain ⟨q', o2, hq', _, hw', l, rfl, hes⟩ := r.own _ _ hmm
          rw [hq] at hq'; injection hq' with hq'; subst hq'
          obtain ⟨hc, h2⟩ := ite_bool hh
          rw [beq_true] at hc; subst hc
          split at h2
          · rename_i k v2 hbo
            injection h2 with h2; subst h2
            obtain ⟨en, hfind, hk, hv2⟩ := bornA_ok hes hbo
            refine OpOk.pure r (cv := .tuple #[en.key, en.val]) (by simp only [VRel]; exact ⟨[en.key, en.val], rfl, VRels.cons hk (VRels.cons hv2 (VRels.nil _))⟩) ?_
            have h1 : (getObj p.block).run P w = .ok (.mapIter (some q.block) since seen.toArray clock) w := by simp [getObj, Sem.run, hw]
            have h3 : (getObj q.block).run P w = .ok (.map l.toArray clock) w := by simp [getObj, Sem.run, hw']
            have h4 : seen.toArray.back? = some n := lastN_ok hlast
            have h5 : l.toArray.find? (fun e => e.born == n) = some en := by rw [List.find?_toArray]; exact hfind
            have h6 : seen.getLast? = some n := by simpa using h4
            simp [execOp, ho, Instr.entry, hx, Place.addr, hoff, h1, h3, h6, hfind]
          · cases h2
        · cases hh
      · cases hh
    · cases hh
  · cases hh

include ok

theorem ok_range {o : Oper} {ty : TypeId} {y : Operand} (ho : o.op = .range ty y) (hh : opA T t h nx (.range ty y) = some x) : OpOk T base ρ h nx w x ((execOp a.eval o).run P w) := by
  simp only [opA] at hh
  split at hh
  · rename_i ti v ht hv
    obtain ⟨i, d, z, hi⟩ := ok.types ty ti ht
    have hvv := e.val hv
    split at hh
    · rename_i kt et hd
      have hu := hi.und
      rw [tdOf_map (hi.td.symm.trans hd)] at hu
      unfold rangeA at hh
      split at hh
      · split at hh
        · rename_i h2 nx2 hn
          injection hh with hh; subst hh
          simp only [VRel] at hvv
          refine OpOk.made ok r e hn (o := .mapIter none 0 #[] 0) (cap := none) ⟨rfl, none, rfl, rfl⟩ (VRel.at_ptr (Ren.add_at _ _ _) 0) ?_
          simp [execOp, ho, Instr.range, run_underlying hu, hvv, Place.addr]
        · cases hh
      · rename_i m
        split at hh
        · rename_i es clock hm
          split at hh
          · rename_i h2 nx2 hn
            injection hh with hh; subst hh
            simp only [VRel] at hvv
            obtain ⟨q, hq, hvv⟩ := hvv
            obtain ⟨q', o', hq', _, hw', l, rfl, hes⟩ := r.own _ _ hm
            rw [hq] at hq'; injection hq' with hq'; subst hq'
            refine OpOk.made ok r e hn (o := .mapIter (some q.block) clock #[] clock) (cap := none) ⟨rfl, some q.block, rfl, q, hq, rfl⟩ (VRel.at_ptr (Ren.add_at _ _ _) 0) ?_
            have hget : (getObj q.block).run P w = .ok (.map l.toArray clock) w := by simp [getObj, Sem.run, hw']
            simp [execOp, ho, Instr.range, run_underlying hu, hvv, Place.addr, hget]
          · cases hh
        · cases hh
      · cases hh
    · cases hh
  · cases hh
end
end Go.Tame
