/- One operation: parts of values, indexes, maps, composite values. -/
import Derived.Test.YtobkmmlodmdlgaaGreatDoorTameOps2
set_option linter.all false
namespace Go.Tame
open Go

section
variable {T : Tab} {P : Program} {base : Nat} {ρ : Ren} {h h' : Heap} {w : World} {nx nx' : Nat} {sz : Nat} {t : Env} {a : Act} {x : ORes}

/-- a part of a value -/
theorem part_ok (ok : TabOk T P) {ty : TypeId} {ti : TI} (ht : T.types.get ty = some ti) {cs : List AV} {vs : List Value} (hr : VRels ρ cs vs) {off : Nat} {v : AV}
    (hv : (bif isAggD ti.d then (match cut cs off ti.size with | some xs => some (.agg xs) | none => none) else nth cs off) = some v) :
    ∃ cv, (part ty vs.toArray off).run P w = .ok cv w ∧ VRel ρ v cv := by
  obtain ⟨i, d, z, hi⟩ := ok.types ty ti ht
  cases hg : isAggD ti.d with
  | true =>
    rw [hg] at hv; simp only [cond_true] at hv
    split at hv
    · rename_i xs hx
      injection hv with hv; subst hv
      obtain ⟨hlen, hget⟩ := cut_get hx
      obtain ⟨_, hfit⟩ := cut_eq hx
      refine ⟨.agg (vs.toArray.extract off (off + ti.size)), by simp [part, hi.run_isAgg, hg, hi.run_sizeOf], ?_⟩
      simp only [VRel]
      refine ⟨(vs.toArray.extract off (off + ti.size)).toList, by simp, VRels.of_get (by simp [hr.length, hlen]; omega) fun j b hj => ?_⟩
      have hlt : j < xs.length := by
        rcases Nat.lt_or_ge j xs.length with h1 | h1
        · exact h1
        · rw [List.getElem?_eq_none h1] at hj; cases hj
      rw [hget j (by omega)] at hj
      obtain ⟨u, hu, hr'⟩ := hr.get hj
      refine ⟨u, ?_, hr'⟩
      rw [Array.getElem?_toList, Array.getElem?_extract]
      have : j < min (off + ti.size) vs.toArray.size - off := by simp [hr.length]; omega
      rw [if_pos this]; simpa using hu
    · cases hv
  | false =>
    rw [hg] at hv; simp only [cond_false, nth_eq] at hv
    obtain ⟨u, hu, hr'⟩ := hr.get hv
    exact ⟨u, by simp [part, hi.run_isAgg, hg, hu], hr'⟩

variable (ok : TabOk T P) (r : Rep T base ρ h.get w) (e : ERel ρ sz t a.tmps)
include ok r e

theorem ok_field {o : Oper} {ty : TypeId} {y : Operand} {n : Nat} (ho : o.op = .field ty y n) (hh : opA T t h nx (.field ty y n) = some x) : OpOk T base ρ h nx w x ((execOp a.eval o).run P w) := by
  simp only [opA] at hh
  split at hh
  · rename_i ti cs ht hv
    obtain ⟨i, d, z, hti⟩ := ok.types ty ti ht
    have hu := hti.und
    have hval := e.val hv
    simp only [VRel] at hval
    obtain ⟨vs, hc, hrs⟩ := hval
    split at hh
    · rename_i fs hd
      obtain ⟨gs, hgs, hfs⟩ := tdOf_struct (hti.td.symm.trans hd)
      rw [hgs] at hu
      subst hfs
      rw [nth_eq] at hh
      split at hh
      · rename_i off ft b hf
        simp only [List.getElem?_map, Option.map_eq_some_iff, Prod.mk.injEq] at hf
        obtain ⟨f, hf1, hf2, hf3, _⟩ := hf
        subst hf2 hf3
        have hgf : gs[n]? = some f := by simpa using hf1
        split at hh
        · rename_i tf htf
          have : ∃ v, (bif isAggD tf.d then (match cut cs f.offset tf.size with | some xs => some (.agg xs) | none => none) else nth cs f.offset) = some v ∧ x = .val v h nx := by
            cases hg : isAggD tf.d with
            | true =>
              rw [hg] at hh; simp only [cond_true] at hh ⊢
              split at hh
              · rename_i xs hx
                injection hh with hh; exact ⟨_, by rw [hx], hh.symm⟩
              · cases hh
            | false =>
              rw [hg] at hh; simp only [cond_false] at hh ⊢
              obtain ⟨v, h1, h2⟩ := ret_some hh
              exact ⟨v, h1, h2⟩
          obtain ⟨v, hv2, rfl⟩ := this
          obtain ⟨cv, hrun, hr'⟩ := part_ok (w := w) ok htf hrs hv2
          exact OpOk.pure r hr' (by simp [execOp, ho, hc, Instr.field, run_underlying hu, hgf, asAgg, hrun])
        · cases hh
      · cases hh
    · cases hh
  · cases hh

theorem ok_indexAddr {o : Oper} {ty : TypeId} {y z : Operand} (ho : o.op = .indexAddr ty y z) (hh : opA T t h nx (.indexAddr ty y z) = some x) : OpOk T base ρ h nx w x ((execOp a.eval o).run P w) := by
  simp only [opA] at hh
  split at hh
  · rename_i ti v k n ht hv hn
    obtain ⟨i, d, zz, hti⟩ := ok.types ty ti ht
    have hu := hti.und
    have hval := e.val hv
    have hnv := e.val hn
    simp only [VRel] at hnv
    have hnv' : a.eval z = .int k (n : Int) := hnv
    split at hh
    · rename_i len el m off hd
      rw [tdOf_arr (hti.td.symm.trans hd)] at hu
      split at hh
      · rename_i te hte
        obtain ⟨ie, de, ze, hie⟩ := ok.types el te hte
        obtain ⟨hlt, h2⟩ := ite_bool hh
        injection h2 with h2; subst h2
        rw [blt_true] at hlt
        obtain ⟨p, hp, hc⟩ := hval.of_ptr
        refine OpOk.pure r (VRel.at_ptr hp _) ?_
        have hlt' : ¬ len ≤ n := by omega
        simp [execOp, ho, hc, hnv', Instr.indexAt, asIntOf, run_underlying hu, Instr.sureAddr, hlt', hie.run_sizeOf, addr_add]
      · cases hh
    · rename_i len el m off hd
      rw [tdOf_arr (hti.td.symm.trans hd)] at hu
      split at hh
      · rename_i te hte
        obtain ⟨ie, de, ze, hie⟩ := ok.types el te hte
        obtain ⟨hlt, h2⟩ := ite_bool hh
        injection h2 with h2; subst h2
        rw [blt_true] at hlt
        simp only [VRel] at hval
        have hlt' : ¬ len ≤ n := by omega
        have hadd : (⟨m, off, none⟩ : Addr).add (n * te.size) = ⟨m, off + n * te.size, none⟩ := by simp only [Addr.add]; split <;> simp_all
        refine OpOk.pure r (v := .gptr m (off + n * te.size)) (cv := .pointer (some ⟨m, off + n * te.size, none⟩)) (by simp only [VRel]) ?_
        simp [execOp, ho, hval, hnv', Instr.indexAt, asIntOf, run_underlying hu, Instr.sureAddr, hlt', hie.run_sizeOf, hadd]
      · cases hh
    · rename_i el m off len cap opn hd
      rw [tdOf_slice (hti.td.symm.trans hd)] at hu
      split at hh
      · rename_i te hte
        obtain ⟨ie, de, ze, hie⟩ := ok.types el te hte
        obtain ⟨hlt, h2⟩ := ite_bool hh
        injection h2 with h2; subst h2
        rw [blt_true] at hlt
        obtain ⟨p, c, hp, hc⟩ := hval.of_slice
        refine OpOk.pure r (VRel.at_ptr hp _) ?_
        have hlt' : ¬ len ≤ n := by omega
        simp [execOp, ho, hc, hnv', Instr.indexAt, asIntOf, run_underlying hu, hlt', hie.run_sizeOf, addr_add]
      · cases hh
    · cases hh
  · cases hh

theorem ok_index {o : Oper} {ty : TypeId} {y z : Operand} (ho : o.op = .index ty y z) (hh : opA T t h nx (.index ty y z) = some x) : OpOk T base ρ h nx w x ((execOp a.eval o).run P w) := by
  simp only [opA] at hh
  split at hh
  · rename_i ti cs k n ht hv hn
    obtain ⟨i, d, zz, hti⟩ := ok.types ty ti ht
    have hu := hti.und
    have hval := e.val hv
    simp only [VRel] at hval
    obtain ⟨vs, hc, hrs⟩ := hval
    have hnv := e.val hn
    simp only [VRel] at hnv
    have hnv' : a.eval z = .int k (n : Int) := hnv
    split at hh
    · rename_i len el hd
      rw [tdOf_arr (hti.td.symm.trans hd)] at hu
      split at hh
      · rename_i te hte
        obtain ⟨ie, de, ze, hie⟩ := ok.types el te hte
        obtain ⟨hlt, h2⟩ := ite_bool hh
        rw [blt_true] at hlt
        have hlt' : ¬ len ≤ n := by omega
        have : ∃ v, (bif isAggD te.d then (match cut cs (n * te.size) te.size with | some xs => some (.agg xs) | none => none) else nth cs (n * te.size)) = some v ∧ x = .val v h nx := by
          cases hg : isAggD te.d with
          | true =>
            rw [hg] at h2; simp only [cond_true] at h2 ⊢
            split at h2
            · rename_i xs hx
              injection h2 with h2; exact ⟨_, by rw [hx], h2.symm⟩
            · cases h2
          | false =>
            rw [hg] at h2; simp only [cond_false] at h2 ⊢
            obtain ⟨v, h1, h2⟩ := ret_some h2
            exact ⟨v, h1, h2⟩
        obtain ⟨v, hv2, rfl⟩ := this
        obtain ⟨cv, hrun, hr'⟩ := part_ok (w := w) ok hte hrs hv2
        exact OpOk.pure r hr' (by simp [execOp, ho, hc, hnv', Instr.index, asIntOf, run_underlying hu, hlt', hie.run_sizeOf, hrun])
      · cases hh
    · cases hh
  · rename_i k0 ti s k n ht hv hn
    obtain ⟨i, d, zz, hti⟩ := ok.types ty ti ht
    have hu := hti.und
    have hval := e.val hv
    simp only [VRel] at hval
    have hnv := e.val hn
    simp only [VRel] at hnv
    split at hh
    · rename_i hd
      rw [tdOf_string (hti.td.symm.trans hd)] at hu
      split at hh
      · rename_i b hb
        injection hh with hh; subst hh
        have hlt : n < s.data.toList.length := (List.getElem?_eq_some_iff.1 hb).1
        have hlt' : n < s.size := by rw [Array.length_toList] at hlt; exact hlt
        refine OpOk.pure r (cv := .int .u8 (Int.ofNat b.toNat)) (by simp only [VRel]) ?_
        have hg : s[n]'hlt' = b := by
          have h2 := (List.getElem?_eq_some_iff.1 hb).2
          rw [← h2, Array.getElem_toList]; rfl
        simp only [execOp, ho, hval.1, hnv]
        rw [show (Int.ofNat n) = (n : Int) from rfl]
        have hrun := run_index_string w ty s k (n : Int) hu (P := P)
        rw [dif_pos ⟨by omega, by omega⟩] at hrun
        simp [hrun, hg]
      · cases hh
    · cases hh
  · cases hh

theorem zeroA_ok {ty : TypeId} {ti : TI} {i : TypeInfo} {d : TypeDesc} {z : Value} (hi : TIOk P ty ti i d z) : VRel ρ (zeroA ti) z := by
  unfold zeroA
  cases hg : isAggD ti.d with
  | true =>
    simp only [cond_true, VRel]
    obtain ⟨cs, rfl⟩ := hi.agg hg
    exact ⟨cs.toList, rfl, by simpa [Value.cells] using hi.cells.none_le (ρ := ρ)⟩
  | false =>
    simp only [cond_false]
    have hl := hi.leaf hg
    have hz : z.cells = #[z] := by cases z <;> simp_all [leafV, Value.cells]
    have hc := hi.cells.none_le (ρ := ρ)
    rw [hz] at hc
    have hlen := hc.length
    match hzz : ti.zero with
    | [] => rw [hzz] at hlen; simp at hlen
    | [q] =>
      rw [hzz] at hc
      simp only [VRels] at hc
      obtain ⟨v, vs, h1, h2, h3⟩ := hc
      simp at h1
      rw [h1.1]; exact h2
    | _ :: _ :: _ => rw [hzz] at hlen; simp at hlen

theorem ok_lookup {o : Oper} {ty : TypeId} {y z : Operand} {c : Bool} (ho : o.op = .lookup ty y z c) (hh : opA T t h nx (.lookup ty y z c) = some x) : OpOk T base ρ h nx w x ((execOp a.eval o).run P w) := by
  simp only [opA] at hh
  split at hh
  · rename_i ti v k ht hv hk
    obtain ⟨i, d, zz, hti⟩ := ok.types ty ti ht
    have hu := hti.und
    have hval := e.val hv
    have hkv := e.val hk
    split at hh
    · rename_i kt et hd
      rw [tdOf_map (hti.td.symm.trans hd)] at hu
      split at hh
      · rename_i te hte
        obtain ⟨ie, de, ze, hie⟩ := ok.types et te hte
        have hz := zeroA_ok ok r e hie
        obtain ⟨hkok, h2⟩ := ite_bool hh
        have hck : ∀ b, (Instr.checkKey b 10000 kt (a.eval z)).run P w = .ok () w := fun b => checkKey_ok ok hkv hkok b
        split at h2
        · -- a nil map
          injection h2 with h2; subst h2
          simp only [VRel] at hval
          have hf : (Instr.findKey kt (a.eval z) []).run P w = .ok none w := findKey_ok ok r hkv hkok (es := []) (pos := none) rfl rfl
          refine OpOk.pure r (cv := if c then .tuple #[ze, .bool false] else ze) ?_ ?_
          · cases c with
            | true => simp only [foundA, cond_true, if_true, VRel]; exact ⟨[ze, .bool false], by simp, VRels.cons hz (VRels.cons rfl (VRels.nil ρ))⟩
            | false => simpa [foundA] using hz
          · simp [execOp, ho, hval, Instr.lookup, run_underlying hu, hck, hf, hie.run_zeroValue]
        · rename_i m
          split at h2
          · rename_i es cl hm
            simp only [VRel] at hval
            obtain ⟨p, hp, hc⟩ := hval
            obtain ⟨p', ob, hp', _, hw, l, rfl, hl⟩ := r.own m _ hm
            rw [hp] at hp'; injection hp' with hp'; subst hp'
            have hget : (getObj p.block).run P w = .ok (.map l.toArray cl) w := by simp [getObj, Sem.run, hw]
            split at h2
            · rename_i hpos
              injection h2 with h2; subst h2
              have hf := findKey_ok ok r hkv hkok hl hpos
              refine OpOk.pure r (cv := if c then .tuple #[ze, .bool false] else ze) ?_ ?_
              · cases c with
                | true => simp only [foundA, cond_true, if_true, VRel]; exact ⟨[ze, .bool false], by simp, VRels.cons hz (VRels.cons rfl (VRels.nil ρ))⟩
                | false => simpa [foundA] using hz
              · simp [execOp, ho, hc, Instr.lookup, run_underlying hu, hget, hck, hf, found, hie.run_zeroValue]
            · rename_i j hpos
              rw [nth_eq] at h2
              split at h2
              · rename_i k2 v2 b2 hj
                injection h2 with h2; subst h2
                have hf := findKey_ok ok r hkv hkok hl hpos
                obtain ⟨en, hen, _, hv2, _⟩ := hl.get hj
                refine OpOk.pure r (cv := if c then .tuple #[en.val, .bool true] else en.val) ?_ ?_
                · cases c with
                  | true => simp only [foundA, cond_true, if_true, VRel]; exact ⟨[en.val, .bool true], by simp, VRels.cons hv2 (VRels.cons rfl (VRels.nil ρ))⟩
                  | false => simpa [foundA] using hv2
                · simp [execOp, ho, hc, Instr.lookup, run_underlying hu, hget, hck, hf, found, hen]
              · cases h2
            · cases h2
          · cases h2
        · cases h2
      · cases hh
    · cases hh
  · cases hh

/-- the block of a map is turned -/
theorem turnMap {m : Nat} {p : Place} {es es' : List (AV × AV × Nat)} {cl cl' : Nat} {l' : List MapEntry} {h2 : Heap} (hm : h.get m = some (.map es cl)) (hp : ρ m = some p) (hu : upd h m (some (.map es' cl')) = some h2) (hr : ESRel ρ es' l') :
    ∃ w', (setObj p.block (.map l'.toArray cl')).run P w = .ok () w' ∧ Rep T base ρ h2.get w' ∧ Ext ρ h.get nx w ρ h2.get nx w' := by
  obtain ⟨p', ob, hp', hb, hw, l, rfl, hl⟩ := r.own m _ hm
  rw [hp] at hp'; injection hp' with hp'; subst hp'
  have hlt := (Array.getElem?_eq_some_iff.1 hw).1
  refine ⟨{ w with heap := w.heap.setIfInBounds p.block (.map l'.toArray cl') }, by simp [setObj, Sem.run, hw], ?_⟩
  exact r.turn (h' := h2.get) (w' := { w with heap := w.heap.setIfInBounds p.block (.map l'.toArray cl') }) (o' := .map l'.toArray cl') hm hp (fun n => upd_get hu n) (by simp) rfl rfl rfl (Array.getElem?_setIfInBounds_self_of_lt hlt) (fun k hk => Array.getElem?_setIfInBounds_ne (Ne.symm hk)) ⟨l', rfl, hr⟩ nx

omit ok r e in
theorem eqCells_true : ∀ {zs xs ys : List AV}, eqCells zs xs ys = some true → xs = ys ∧ ∀ c ∈ xs, (∃ k n, c = .int k n) ∨ ∃ b, c = .bool b
  | [], [], [], _ => ⟨rfl, by simp⟩
  | [], [], _ :: _, hh => by simp [eqCells] at hh
  | [], _ :: _, _, hh => by simp [eqCells] at hh
  | _ :: _, [], _, hh => by simp [eqCells] at hh
  | _ :: _, _ :: _, [], hh => by simp [eqCells] at hh
  | z :: zs, x :: xs, y :: ys, hh => by
    simp only [eqCells] at hh
    split at hh
    · rename_i k₀ _ k n k' m
      obtain ⟨hk, h2⟩ := ite_bool hh
      simp only [Bool.and_eq_true, decide_eq_true_eq] at hk
      split at h2
      · rename_i q hq
        injection h2 with h2
        simp only [Bool.and_eq_true, beq_iff_eq] at h2
        obtain ⟨h3, h4⟩ := h2
        subst h4
        obtain ⟨h5, h6⟩ := eqCells_true hq
        refine ⟨by rw [h5, h3, hk.1], fun c hc => ?_⟩
        rcases List.mem_cons.1 hc with rfl | hc
        · exact .inl ⟨_, _, rfl⟩
        · exact h6 c hc
      · cases h2
    · split at hh
      · rename_i q hq
        injection hh with h2
        simp only [Bool.and_eq_true, beq_iff_eq] at h2
        obtain ⟨h3, h4⟩ := h2
        subst h4
        obtain ⟨h5, h6⟩ := eqCells_true hq
        refine ⟨by rw [h5, h3], fun c hc => ?_⟩
        rcases List.mem_cons.1 hc with rfl | hc
        · exact .inr ⟨_, rfl⟩
        · exact h6 c hc
      · cases hh
    · cases hh

omit ok r e in
theorem VRels.plain : ∀ {xs : List AV} {vs us : List Value}, (∀ c ∈ xs, (∃ k n, c = .int k n) ∨ ∃ b, c = .bool b) → VRels ρ xs vs → VRels ρ xs us → vs = us ∧ ∀ (d : Nat), (vs.zip us).all (fun (x, y) => Instr.sameBits d x y) = true
  | [], vs, us, _, h1, h2 => by
    simp only [VRels] at h1 h2; subst h1 h2; simp
  | x :: xs, vs, us, hp, h1, h2 => by
    simp only [VRels] at h1 h2
    obtain ⟨v, vs', rfl, a1, a2⟩ := h1
    obtain ⟨u, us', rfl, b1, b2⟩ := h2
    obtain ⟨c1, c2⟩ := VRels.plain (fun c hc => hp c (by simp [hc])) a2 b2
    rcases hp x (by simp) with ⟨k, n, rfl⟩ | ⟨b, rfl⟩
    · simp only [VRel] at a1 b1; subst a1 b1
      refine ⟨by rw [c1], fun d => ?_⟩
      simp only [List.zip_cons_cons, List.all_cons, c2 d, Bool.and_true]
      cases d <;> simp [Instr.sameBits]
    · simp only [VRel] at a1 b1; subst a1 b1
      refine ⟨by rw [c1], fun d => ?_⟩
      simp only [List.zip_cons_cons, List.all_cons, c2 d, Bool.and_true]
      cases d <;> simp [Instr.sameBits]

omit ok r e in
theorem sameBits_ok {kt : TypeId} {k k' : AV} {ck ck' : Value} (hk : VRel ρ k ck) (hk' : VRel ρ k' ck') (hok : keyOk T kt k = true) (he : eqA T h kt k k' = some true) : Instr.sameBits 10000 ck' ck = true := by
  unfold keyOk at hok
  split at hok
  · rename_i ti ht
    split at hok
    · obtain ⟨c, rfl, hb⟩ := eqA_int he
      simp only [VRel] at hk hk'; subst hk hk'
      have hnc := beq_iff_eq.1 hb.symm
      subst hnc
      simp [Instr.sameBits]
    · obtain ⟨c, rfl, hb⟩ := eqA_bool he
      simp only [VRel] at hk hk'; subst hk hk'
      have hnc := beq_iff_eq.1 hb.symm
      subst hnc
      simp [Instr.sameBits]
    · rename_i xs
      unfold eqA at he
      rw [ht] at he
      simp only at he
      split at he
      · rename_i ys h0
        injection h0 with h0; subst h0
        obtain ⟨_, he2⟩ := ite_bool he
        obtain ⟨h3, h4⟩ := eqCells_true he2
        subst h3
        simp only [VRel] at hk hk'
        obtain ⟨vs, rfl, h5⟩ := hk
        obtain ⟨us, rfl, h6⟩ := hk'
        obtain ⟨h7, h8⟩ := VRels.plain h4 h6 h5
        obtain ⟨n, hn⟩ : ∃ n, (10000 : Nat) = n + 1 := ⟨9999, rfl⟩
        rw [hn]
        subst h7
        simp only [Instr.sameBits, beq_self_eq_true, Bool.true_and]
        exact h8 n
      · rename_i hna
        split at he <;> first | (cases he; done) | (rename_i e1; cases e1; done)
    · cases hok
  · cases hok

omit ok r e in
theorem posA_eq {kt : TypeId} {k : AV} : ∀ {es : List (AV × AV × Nat)} {i : Nat}, posA T h kt k es = some (some i) → ∃ x, es[i]? = some x ∧ eqA T h kt k x.1 = some true
  | [], i, hp => by simp [posA] at hp
  | (k', v, b) :: es, i, hp => by
    rcases posA_cons hp with ⟨he, h0⟩ | ⟨he, q, hq, h0⟩
    · injection h0 with h0; subst h0; exact ⟨_, rfl, he⟩
    · cases q with
      | none => simp at h0
      | some j =>
        simp only [Option.map_some, Option.some.injEq] at h0; subst h0
        obtain ⟨x, hx, hr⟩ := posA_eq hq
        exact ⟨x, by simpa using hx, hr⟩

theorem ok_mapUpdate {o : Oper} {ty : TypeId} {y z u : Operand} (ho : o.op = .mapUpdate ty y z u ∨ o.op = .insert ty y z u) (hh : opA T t h nx (.mapUpdate ty y z u) = some x) : OpOk T base ρ h nx w x ((execOp a.eval o).run P w) := by
  have hex : (execOp a.eval o).run P w = ((Instr.mapUpdate ty (a.eval y) (a.eval z) (a.eval u)).run P w).andThen fun _ w' => .ok .skip w' := by
    rcases ho with ho | ho <;> simp [execOp, ho]
  simp only [opA] at hh
  split at hh
  · rename_i ti m k v ht hm0 hk hv
    obtain ⟨i, d, zz, hti⟩ := ok.types ty ti ht
    have hu := hti.und
    have hval := e.val hm0
    simp only [VRel] at hval
    obtain ⟨p, hp, hc⟩ := hval
    have hkv := e.val hk
    have hvv := e.val hv
    split at hh
    · rename_i kt et es cl hd hm
      rw [tdOf_map (hti.td.symm.trans hd)] at hu
      obtain ⟨hkok, h2⟩ := ite_bool hh
      have hck : ∀ b, (Instr.checkKey b 10000 kt (a.eval z)).run P w = .ok () w := fun b => checkKey_ok ok hkv hkok b
      obtain ⟨p', ob, hp', _, hw, l, rfl, hl⟩ := r.own m _ hm
      rw [hp] at hp'; injection hp' with hp'; subst hp'
      have hget : (getObj p.block).run P w = .ok (.map l.toArray cl) w := by simp [getObj, Sem.run, hw]
      split at h2
      · rename_i j hpos
        obtain ⟨h3, hup, rfl⟩ := retH_some h2
        have hf := findKey_ok ok r hkv hkok hl hpos
        obtain ⟨x, hx, heq⟩ := posA_eq hpos
        obtain ⟨en, hen, hke, _, _⟩ := hl.get hx
        have hsb := sameBits_ok hkv hke hkok heq
        obtain ⟨w', hrun, hr', hx'⟩ := turnMap ok r e (nx := nx) hm hp hup (hl.set j hkv hvv)
        refine OpOk.unit hr' ?_ hx'
        rw [hex, hc]
        simp [Instr.mapUpdate, run_underlying hu, hget, hck, hf, found, hen, Instr.keyThatStays, hsb, hrun]
      · rename_i hpos
        obtain ⟨h3, hup, rfl⟩ := retH_some h2
        have hf := findKey_ok ok r hkv hkok hl hpos
        obtain ⟨w', hrun, hr', hx'⟩ := turnMap ok r e (nx := nx) hm hp hup (hl.snoc (e := { key := a.eval z, val := a.eval u, born := cl }) hkv hvv)
        refine OpOk.unit hr' ?_ hx'
        rw [hex, hc]
        simp [Instr.mapUpdate, run_underlying hu, hget, hck, hf, found, hrun]
      · cases h2
    · cases hh
  · cases hh

theorem ok_makeInterface {o : Oper} {ty : TypeId} {y : Operand} (ho : o.op = .makeInterface ty y) (hh : opA T t h nx (.makeInterface ty y) = some x) : OpOk T base ρ h nx w x ((execOp a.eval o).run P w) := by
  simp only [opA] at hh
  split at hh
  · rename_i ti v ht hv
    obtain ⟨i, d, zz, hti⟩ := ok.types ty ti ht
    have hu := hti.und
    have hrun : ∀ (hne : ti.d ≠ .iface ∧ ti.d ≠ .other), (execOp a.eval o).run P w = .ok (.value (.iface ty (a.eval y))) w := by
      rintro ⟨h1, h2⟩
      rw [hti.td] at h1 h2
      simp only [execOp, ho, Instr.makeInterface, Sem.run_bind, run_underlying hu, Result.andThen_ok]
      cases d <;> first | rfl | (simp [tdOf] at h1; done) | (simp [tdOf] at h2; done)
    split at hh
    · cases hh
    · cases hh
    · rename_i h1 h2
      injection hh with hh; subst hh
      refine OpOk.pure r (cv := .iface ty (a.eval y)) ?_ (hrun ⟨h1, h2⟩)
      simp only [VRel]; exact ⟨_, rfl, e.val hv⟩
  · cases hh

theorem ok_typeAssert {o : Oper} {ty xt : TypeId} {y : Operand} {c : Bool} (ho : o.op = .typeAssert y xt ty c) (hh : opA T t h nx (.typeAssert y xt ty c) = some x) : OpOk T base ρ h nx w x ((execOp a.eval o).run P w) := by
  simp only [opA] at hh
  split at hh
  · rename_i ti t' v ht hv
    obtain ⟨i, d, zz, hti⟩ := ok.types ty ti ht
    have hu := hti.und
    have hval := e.val hv
    simp only [VRel] at hval
    obtain ⟨q, hq, hqr⟩ := hval
    split at hh
    · cases hh
    · cases hh
    · rename_i h1 h2
      obtain ⟨hb, h3⟩ := ite_bool hh
      rw [beq_true] at hb; subst hb
      injection h3 with h3; subst h3
      rw [hti.td] at h1 h2
      have hrun : (execOp a.eval o).run P w = .ok (.value (if c then .tuple #[q, .bool true] else q)) w := by
        simp only [execOp, ho, hq, Instr.typeAssert, Sem.run_bind, run_underlying hu, Result.andThen_ok]
        cases d <;> first | (simp [tdOf] at h1; done) | (simp [tdOf] at h2; done) | (simp; done)
      refine OpOk.pure r ?_ hrun
      cases c with
      | true => simp only [cond_true, if_true, VRel]; exact ⟨[q, .bool true], by simp, VRels.cons hqr (VRels.cons rfl (VRels.nil ρ))⟩
      | false => simpa using hqr
  · cases hh

theorem ok_extract {o : Oper} {y : Operand} {n : Nat} (ho : o.op = .extract y n) (hh : opA T t h nx (.extract y n) = some x) : OpOk T base ρ h nx w x ((execOp a.eval o).run P w) := by
  simp only [opA] at hh
  split at hh
  · rename_i vs hv
    obtain ⟨u, hu, rfl⟩ := ret_some hh
    rw [nth_eq] at hu
    have hval := e.val hv
    simp only [VRel] at hval
    obtain ⟨us, hc, hrs⟩ := hval
    obtain ⟨cv, hcv, hr'⟩ := hrs.get hu
    exact OpOk.pure r hr' (by simp [execOp, ho, hc, Instr.extract, hcv])
  · cases hh

end
end Go.Tame
