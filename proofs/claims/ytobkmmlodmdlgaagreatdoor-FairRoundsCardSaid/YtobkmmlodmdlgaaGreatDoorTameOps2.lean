/- One operation: addresses, slices, parts. -/
import Derived.Test.YtobkmmlodmdlgaaGreatDoorTameOps
set_option linter.all false
namespace Go.Tame
open Go

section
variable {T : Tab} {P : Program} {base : Nat} {ρ : Ren} {h h' : Heap} {w : World} {nx nx' : Nat} {sz : Nat} {t : Env} {a : Act} {x : ORes}

/-- a bound that is written, or is not -/
def OptRel (n : Option Nat) (v : Option Value) : Prop :=
  match n, v with
  | none, none => True
  | some n, some v => ∃ k, v = .int k (n : Int)
  | _, _ => False

theorem natOf_some {v : AV} {n : Nat} (hn : natOf v = some n) : ∃ k, v = .int k (Int.ofNat n) := by
  unfold natOf at hn
  split at hn
  · injection hn with hn; subst hn; exact ⟨_, rfl⟩
  · cases hn

theorem optNat_ok (e : ERel ρ sz t a.tmps) {y : Option Operand} {n : Option Nat} (hn : optNat t y = some n) : OptRel n (y.map a.eval) := by
  cases y with
  | none => simp only [optNat] at hn; injection hn with hn; subst hn; trivial
  | some q =>
    simp only [optNat] at hn
    split at hn
    · cases hn
    · rename_i v hv
      split at hn
      · cases hn
      · rename_i k hk
        injection hn with hn; subst hn
        obtain ⟨kk, rfl⟩ := natOf_some hk
        have := e.val hv; simp only [VRel] at this
        exact ⟨kk, this⟩

theorem run_sliceBound_ok {k : IntKind} {n y : Nat} (code : BoundsCode) (hle : n ≤ y) : (Instr.sliceBound (.int k (n : Int)) y code).run P w = .ok n w := by
  have h1 : (0 : Int) ≤ n ∧ (n : Int) ≤ y := ⟨by omega, by omega⟩
  simp [Instr.sliceBound, asIntOf, h1.2]

theorem run_sliceBounds_ok {isS : Bool} {len cap : Nat} {lo hi mx : Option Nat} {vlo vhi vmx : Option Value} (h1 : OptRel lo vlo) (h2 : OptRel hi vhi) (h3 : OptRel mx vmx)
    (hm : mx.isSome = true → hi.isSome = true) (hc : mx.getD cap ≤ cap) (hh : hi.getD len ≤ mx.getD cap ∨ hi = none) (hl : lo.getD 0 ≤ hi.getD len) :
    (Instr.sliceBounds isS len cap vlo vhi vmx).run P w = .ok (lo.getD 0, hi.getD len, mx.getD cap) w := by
  unfold Instr.sliceBounds
  cases mx with
  | none =>
    cases vmx with
    | some v => simp [OptRel] at h3
    | none =>
      cases hi with
      | none =>
        cases vhi with
        | some v => simp [OptRel] at h2
        | none =>
          cases lo with
          | none => cases vlo with
            | none => simp
            | some v => simp [OptRel] at h1
          | some l => cases vlo with
            | none => simp [OptRel] at h1
            | some v =>
              obtain ⟨k, rfl⟩ := h1
              simp at hl
              simp [run_sliceBound_ok _ hl]
      | some hn =>
        cases vhi with
        | none => simp [OptRel] at h2
        | some v =>
          obtain ⟨k, rfl⟩ := h2
          have hh : hn ≤ cap := by simpa using hh
          cases lo with
          | none => cases vlo with
            | none => simp [run_sliceBound_ok _ hh]
            | some v => simp [OptRel] at h1
          | some l => cases vlo with
            | none => simp [OptRel] at h1
            | some v =>
              obtain ⟨k, rfl⟩ := h1
              simp at hl
              simp [run_sliceBound_ok _ hl, run_sliceBound_ok _ hh]
  | some m =>
    cases vmx with
    | none => simp [OptRel] at h3
    | some v =>
      obtain ⟨k, rfl⟩ := h3
      have hc : m ≤ cap := by simpa using hc
      cases hi with
      | none => simp at hm
      | some hn =>
        cases vhi with
        | none => simp [OptRel] at h2
        | some v =>
          obtain ⟨k, rfl⟩ := h2
          have hh : hn ≤ m := by simpa using hh
          cases lo with
          | none => cases vlo with
            | none => simp [run_sliceBound_ok _ hh, run_sliceBound_ok _ hc]
            | some v => simp [OptRel] at h1
          | some l => cases vlo with
            | none => simp [OptRel] at h1
            | some v =>
              obtain ⟨k, rfl⟩ := h1
              simp at hl
              simp [run_sliceBound_ok _ hl, run_sliceBound_ok _ hh, run_sliceBound_ok _ hc]

/-- what slicing comes to, in the model -/
theorem sliceA_ok {size known m off len cap : Nat} {opn : Bool} {lo hi mx : Option Nat} {v : AV} {p : Place} {ccap : Nat} (hs : VRel ρ (.slice m off len cap opn) (.slice (some (p.addr off)) len ccap)) (hp : ρ m = some p)
    (hk : opn = true → known ≤ ccap) (hh : sliceA size known m off len cap opn lo hi mx = some v) :
    (mx.isSome = true → hi.isSome = true) ∧ mx.getD ccap ≤ ccap ∧ (hi.getD len ≤ mx.getD ccap ∨ hi = none) ∧ lo.getD 0 ≤ hi.getD len ∧
      VRel ρ v (.slice (some (if mx.getD ccap = lo.getD 0 then p.addr off else (p.addr off).add (lo.getD 0 * size))) (hi.getD len - lo.getD 0) (mx.getD ccap - lo.getD 0)) := by
  have hm : mx.isSome = true → hi.isSome = true := fun h1 => by
    cases hi with
    | some _ => rfl
    | none => unfold sliceA at hh; simp [h1] at hh
  unfold sliceA at hh
  have hf : (mx.isSome && hi.isNone) = false := by
    cases hb : (mx.isSome && hi.isNone) with
    | false => rfl
    | true => simp only [Bool.and_eq_true] at hb; have := hm hb.1; rw [Option.isSome_iff_ne_none] at this; simp at hb; exact absurd hb.2 this
  simp only [hf, cond_false] at hh
  refine ⟨hm, ?_⟩
  cases opn with
  | false =>
    obtain ⟨q, hq, he⟩ := hs.of_closed
    rw [hp] at hq; injection hq with hq; subst hq
    simp only [Value.slice.injEq, true_and] at he
    subst he
    simp only at hh
    obtain ⟨hb, h2⟩ := ite_bool hh
    simp only [Bool.and_eq_true, ble_true] at hb
    obtain ⟨⟨h3, h4⟩, h5⟩ := hb
    injection h2 with h2; subst h2
    refine ⟨h5, .inl h4, h3, ?_⟩
    by_cases he : mx.getD ccap = lo.getD 0
    · rw [if_pos he, beq_true.2 he]; exact VRel.closed hp _ _ _
    · rw [if_neg he, addr_add]
      have : Nat.beq (mx.getD ccap) (lo.getD 0) = false := by
        cases hb : Nat.beq (mx.getD ccap) (lo.getD 0) with
        | false => rfl
        | true => exact absurd (beq_true.1 hb) he
      rw [this]; exact VRel.closed hp _ _ _
  | true =>
    have hk := hk rfl
    obtain ⟨q, C, hq, hC, hcl, he⟩ := hs.of_opened
    rw [hp] at hq; injection hq with hq; subst hq
    simp only [Value.slice.injEq, true_and] at he
    subst he
    cases mx with
    | some c =>
      simp only at hh
      obtain ⟨hb, h2⟩ := ite_bool hh
      simp only [Bool.and_eq_true, ble_true] at hb
      obtain ⟨⟨h3, h4⟩, h5⟩ := hb
      injection h2 with h2; subst h2
      refine ⟨by simp only [Option.getD_some]; omega, .inl (by simpa using h4), h3, ?_⟩
      simp only [Option.getD_some]
      by_cases he : c = lo.getD 0
      · rw [if_pos he, beq_true.2 he]; exact VRel.closed hp _ _ _
      · rw [if_neg he, addr_add]
        have : Nat.beq c (lo.getD 0) = false := by
          cases hb : Nat.beq c (lo.getD 0) with
          | false => rfl
          | true => exact absurd (beq_true.1 hb) he
        rw [this]; exact VRel.closed hp _ _ _
    | none =>
      simp only at hh
      obtain ⟨hb, h2⟩ := ite_bool hh
      simp only [Bool.and_eq_true, ble_true] at hb
      obtain ⟨h3, h4⟩ := hb
      simp only [Option.getD_none]
      refine ⟨Nat.le_refl _, .inl (by omega), h3, ?_⟩
      cases hlt : Nat.blt (lo.getD 0) known with
      | true =>
        rw [hlt] at h2; simp only [cond_true] at h2; injection h2 with h2; subst h2
        rw [blt_true] at hlt
        rw [if_neg (by omega), addr_add, show C - cap - lo.getD 0 = C - (cap + lo.getD 0) from by omega]
        exact VRel.opened hp hC _ (by omega)
      | false =>
        rw [hlt] at h2; simp only [cond_false] at h2; injection h2 with h2; subst h2
        have : known ≤ lo.getD 0 := by
          rcases Nat.lt_or_ge (lo.getD 0) known with h | h
          · rw [blt_true.2 h] at hlt; cases hlt
          · exact h
        simp only [VRel]
        exact ⟨_, _, by rw [show hi.getD len - lo.getD 0 = 0 from by omega]⟩

variable (ok : TabOk T P) (r : Rep T base ρ h.get w) (e : ERel ρ sz t a.tmps)
include ok r e

theorem ok_slice {o : Oper} {ty : TypeId} {y : Operand} {l u m : Option Operand} (ho : o.op = .slice ty y l u m) (hh : opA T t h nx (.slice ty y l u m) = some x) : OpOk T base ρ h nx w x ((execOp a.eval o).run P w) := by
  simp only [opA] at hh
  split at hh
  · rename_i ti v lo hi mx ht hv hlo hhi hmx
    obtain ⟨i, d, z, hti⟩ := ok.types ty ti ht
    have hu := hti.und
    have r1 := optNat_ok e hlo
    have r2 := optNat_ok e hhi
    have r3 := optNat_ok e hmx
    have hex : (execOp a.eval o).run P w = ((Instr.sliceAt ty (a.eval y) (l.map a.eval) (u.map a.eval) (m.map a.eval)).run P w).andThen fun v w' => .ok (.value v) w' := by
      simp [execOp, ho]
    split at hh
    · -- a slice
      rename_i el mm off len cap opn hd
      rw [tdOf_slice (hti.td.symm.trans hd)] at hu
      split at hh
      · rename_i te e' cs hte hm
        obtain ⟨ie, de, ze, hie⟩ := ok.types el te hte
        obtain ⟨hchk, h2⟩ := ite_bool hh
        obtain ⟨q, hq, rfl⟩ := ret_some h2
        have hval := e.val hv
        obtain ⟨p, ccap, hp, hc⟩ := hval.of_slice
        have hval' := hval
        rw [hc] at hval'
        obtain ⟨k1, k2, k3, k4, k5⟩ := sliceA_ok (known := (cs.length - off) / te.size) hval' hp (fun ho => by
          subst ho
          simp only [Bool.not_true, Bool.false_or, Bool.and_eq_true, beq_true, blt_true] at hchk
          obtain ⟨⟨c1, c2⟩, c3⟩ := hchk
          obtain ⟨p', C, hp', hC, hcl, he⟩ := hval'.of_opened
          rw [hp] at hp'; injection hp' with hp'; subst hp'
          simp only [Value.slice.injEq, true_and] at he
          obtain ⟨p'', ob, hp'', _, hw, c, rfl, hsz, hcc, hcap⟩ := r.own mm _ hm
          rw [hp] at hp''; injection hp'' with hp''; subst hp''
          obtain ⟨te', hte', hcs1, _⟩ := hcap C hC
          subst c2
          rw [hte] at hte'; injection hte' with hte'; subst hte'
          rw [he, c1]
          have h1 : (cs.length - cap * te.size) / te.size ≤ (C * te.size - cap * te.size) / te.size := Nat.div_le_div_right (by omega)
          rw [← Nat.sub_mul, Nat.mul_div_cancel _ c3] at h1
          exact h1) hq
        refine OpOk.pure r k5 ?_
        rw [hex, hc]
        simp [Instr.sliceAt, Instr.slice, run_underlying hu, run_sliceBounds_ok (isS := true) (P := P) (w := w) r1 r2 r3 k1 k2 k3 k4, hie.run_sizeOf]
        split <;> rfl
      · cases hh
    · -- the nil slice
      rename_i el hd
      rw [tdOf_slice (hti.td.symm.trans hd)] at hu
      split at hh
      · rename_i te hte
        obtain ⟨ie, de, ze, hie⟩ := ok.types el te hte
        obtain ⟨hchk, h2⟩ := ite_bool hh
        injection h2 with h2; subst h2
        simp only [Bool.and_eq_true, beq_true] at hchk
        obtain ⟨⟨⟨c1, c2⟩, c3⟩, c4⟩ := hchk
        have hval := e.val hv
        simp only [VRel] at hval
        have hmm : mx.isSome = true → hi.isSome = true := fun hs => by
          cases mx with
          | none => cases hs
          | some _ => simpa using c4
        have hb := run_sliceBounds_ok (isS := true) (P := P) (w := w) (len := 0) (cap := 0) r1 r2 r3 hmm (by omega) (.inl (by omega)) (by omega)
        refine OpOk.pure r (v := .nilslice) (cv := .slice none 0 0) (by simp only [VRel]) ?_
        rw [hex, hval]
        simp [Instr.sliceAt, Instr.slice, run_underlying hu, hb, hie.run_sizeOf, c1, c2, c3]
      · cases hh
    · -- an array
      rename_i n el mm off hd
      rw [tdOf_arr (hti.td.symm.trans hd)] at hu
      split at hh
      · rename_i te hte
        obtain ⟨ie, de, ze, hie⟩ := ok.types el te hte
        obtain ⟨q, hq, rfl⟩ := ret_some hh
        have hval := e.val hv
        obtain ⟨p, hp, hc⟩ := hval.of_ptr
        obtain ⟨k1, k2, k3, k4, k5⟩ := sliceA_ok (ccap := n) (VRel.closed hp off n n) hp (fun ho => by cases ho) hq
        refine OpOk.pure r k5 ?_
        rw [hex, hc]
        simp [Instr.sliceAt, Instr.sureAddr, run_underlying hu, run_sliceBounds_ok (isS := false) (P := P) (w := w) r1 r2 r3 k1 k2 k3 k4, hie.run_sizeOf]
      · cases hh
    · cases hh
  · cases hh

theorem placesA_ok : ∀ {fs : List Field} {n off size : Nat}, placesA T (fs.map fun f => (f.offset, f.type, f.name == "_")) n = some (off, size) → ∃ f ti, fs[n]? = some f ∧ f.offset = off ∧ T.types.get f.type = some ti ∧ ti.size = size
  | [], n, off, size, hh => by simp [placesA] at hh
  | f :: fs, 0, off, size, hh => by
    simp only [List.map_cons, placesA] at hh
    split at hh
    · rename_i ti ht
      injection hh with hh; injection hh with h1 h2
      exact ⟨f, ti, rfl, h1, ht, h2⟩
    · cases hh
  | f :: fs, n + 1, off, size, hh => by
    simp only [List.map_cons, placesA] at hh
    obtain ⟨f', ti, h1, h2⟩ := placesA_ok hh
    exact ⟨f', ti, by simpa using h1, h2⟩

theorem ok_fieldAddr {o : Oper} {s : TypeId} {y : Operand} {n : Nat} (ho : o.op = .fieldAddr s y n) (hh : opA T t h nx (.fieldAddr s y n) = some x) : OpOk T base ρ h nx w x ((execOp a.eval o).run P w) := by
  simp only [opA] at hh
  split at hh
  · rename_i ti v ht hv
    obtain ⟨i, d, z, hti⟩ := ok.types s ti ht
    have hu := hti.und
    split at hh
    · rename_i fs hd
      obtain ⟨gs, hgs, hfs⟩ := tdOf_struct (hti.td.symm.trans hd)
      rw [hgs] at hu
      subst hfs
      split at hh
      · rename_i off size hpl
        obtain ⟨f, tf, hf, hoff, htf, hsz⟩ := placesA_ok ok r e hpl
        obtain ⟨jf, df, zf, hjf⟩ := ok.types f.type tf htf
        have hgf : gs[n]? = some f := by simpa using hf
        cases hz : Nat.beq size 0 with
        | true => rw [hz] at hh; simp at hh
        | false =>
          rw [hz] at hh; simp only [cond_false] at hh
          have hz' : ¬ tf.size = 0 := fun e0 => by rw [hsz] at e0; rw [e0] at hz; simp at hz
          have hrun : ∀ ad : Addr, (Instr.fieldAt s (.pointer (some ad)) n).run P w = .ok (.pointer (some (ad.add off))) w := fun ad => by
            simp [Instr.fieldAt, run_underlying hu, hgf, Instr.sureAddr, fieldPlace, hjf.run_sizeOf, hz', hoff]
          have hval := e.val hv
          split at hh
          · injection hh with hh; subst hh
            obtain ⟨p, hp, hc⟩ := hval.of_ptr
            refine OpOk.pure r (VRel.at_ptr hp _) ?_
            simp [execOp, ho, hc, hrun, addr_add]
          · rename_i g k
            injection hh with hh; subst hh
            simp only [VRel] at hval
            refine OpOk.pure r (v := .gptr g (k + off)) (cv := .pointer (some ⟨g, k + off, none⟩)) (by simp only [VRel]) ?_
            have hadd : (⟨g, k, none⟩ : Addr).add off = ⟨g, k + off, none⟩ := by simp only [Addr.add]; split <;> simp_all
            simp [execOp, ho, hval, hrun, hadd]
          · cases hh
      · cases hh
    · cases hh
  · cases hh

end
end Go.Tame
