/- Types of flat values: their == and their keys. -/
import Derived.Test.YtobkmmlodmdlgaaGreatDoorTameRun
import Derived.Laws.StructEq
set_option linter.all false
namespace Go.Tame
open Go

section
variable {P : Program}

def ScalarAt (P : Program) (t : TypeId) (z : AV) : Prop := (∃ k n, z = .int k n ∧ P.underlying t = some (.int k)) ∨ (∃ b, z = .bool b ∧ P.underlying t = some .bool)

def FieldsFlat (P : Program) : List Field → List AV → Nat → Prop
  | [], [], _ => True
  | f :: fs, z :: zs, o => f.offset = o ∧ f.name ≠ "_" ∧ ScalarAt P f.type z ∧ FieldsFlat P fs zs (o + 1)
  | _, _, _ => False

theorem ScalarAt.notAgg {t : TypeId} {z : AV} (h : ScalarAt P t z) (w : World) : (isAgg t).run P w = .ok false w := by
  unfold isAgg
  rcases h with ⟨k, n, _, h⟩ | ⟨b, _, h⟩ <;> (rw [Sem.run_bind, run_underlying h]; rfl)

theorem ScalarAt.part {t : TypeId} {z : AV} (h : ScalarAt P t z) {X : Array Value} {o : Nat} {v : Value} (hv : X[o]? = some v) (w : World) : (part t X o).run P w = .ok v w := by
  simp [Go.part, h.notAgg, hv]

/-- one pair of cells -/
theorem ScalarAt.one {t : TypeId} {z x y : AV} (h : ScalarAt P t z) {zs xs ys : List AV} {b : Bool} (he : eqCells (z :: zs) (x :: xs) (y :: ys) = some b) {ρ : Ren} {v u : Value} (hv : VRel ρ x v) (hu : VRel ρ y u) (d : Nat) (w : World) :
    ∃ r r', (Op.equalIn (d + 1) t v u).run P w = .ok r w ∧ eqCells zs xs ys = some r' ∧ b = (r && r') := by
  rcases h with ⟨k, n, rfl, hu'⟩ | ⟨c, rfl, hu'⟩
  · cases x <;> cases y <;> simp only [eqCells] at he <;> try (cases he; done)
    rename_i k1 a k2 c
    split at he
    · rename_i r' hr'
      obtain ⟨h1, h2⟩ := ite_bool he
      injection h2 with h2
      simp only [Bool.and_eq_true, decide_eq_true_eq] at h1
      obtain ⟨h3, h4⟩ := h1
      subst h3
      simp only [VRel] at hv hu; subst hv hu
      exact ⟨a == c, r', run_equalIn_int w d t k1 k a c hu', hr', h2.symm⟩
    · simp at he
  · cases x <;> cases y <;> simp only [eqCells] at he <;> try (cases he; done)
    rename_i a c
    split at he
    · rename_i r' hr'
      injection he with h2
      simp only [VRel] at hv hu; subst hv hu
      exact ⟨a == c, r', run_equalIn_bool' w d t a c hu', hr', h2.symm⟩
    · cases he

theorem eqFields_flat {ρ : Ren} {X Y : Array Value} (d : Nat) (w : World) : ∀ {fs : List Field} {zs xs ys : List AV} {xs' ys' : List Value} {o : Nat} {b : Bool}, FieldsFlat P fs zs o → eqCells zs xs ys = some b → VRels ρ xs xs' → VRels ρ ys ys' →
    (∀ j, xs'[j]? = X[o + j]?) → (∀ j, ys'[j]? = Y[o + j]?) → (Op.eqFields (d + 1) X Y fs).run P w = .ok b w
  | [], zs, xs, ys, xs', ys', o, b, hf, he, hx, hy, h1, h2 => by
    cases zs with
    | cons z zs => exact hf.elim
    | nil =>
      cases xs <;> cases ys <;> simp only [eqCells] at he <;> try (cases he; done)
      injection he with he; subst he; simp [Op.eqFields]
  | f :: fs, zs, xs, ys, xs', ys', o, b, hf, he, hx, hy, h1, h2 => by
    cases zs with
    | nil => exact hf.elim
    | cons z zs =>
      obtain ⟨hoff, hname, hsc, hrest⟩ := hf
      cases xs with
      | nil => cases ys <;> (cases z <;> simp [eqCells] at he)
      | cons x xs =>
        cases ys with
        | nil => cases z <;> cases x <;> simp [eqCells] at he
        | cons y ys =>
          simp only [VRels] at hx hy
          obtain ⟨v, vs, rfl, hv, hvs⟩ := hx
          obtain ⟨u, us, rfl, hu, hus⟩ := hy
          obtain ⟨r, r', hrun, hcells, rfl⟩ := hsc.one he hv hu d w
          have p1 : (part f.type X f.offset).run P w = .ok v w := hsc.part (by rw [hoff]; have := h1 0; simpa using this.symm) w
          have p2 : (part f.type Y f.offset).run P w = .ok u w := hsc.part (by rw [hoff]; have := h2 0; simpa using this.symm) w
          have ih := eqFields_flat (d := d) w hrest hcells hvs hus (fun j => by have := h1 (j + 1); simpa [Nat.add_assoc, Nat.add_comm 1 j] using this) (fun j => by have := h2 (j + 1); simpa [Nat.add_assoc, Nat.add_comm 1 j] using this)
          simp only [Op.eqFields, hname, ne_eq, not_false_eq_true, if_true, Sem.run_bind, p1, p2, hrun, Result.andThen_ok]
          cases r with
          | true => simpa using ih
          | false => simp

theorem plain_struct {t : TypeId} {zs : List AV} {fs : Array Field} (hu : P.underlying t = some (.struct fs)) (hg : P.eqGuardType P.depth t = false) (hs : P.stoodInHeld t = false) (hf : FieldsFlat P fs.toList zs 0) : PlainOk P t zs where
  guard := hg
  eq := by
    intro ρ xs ys b xs' ys' w he hx hy
    have hfs : P.fieldsOf t = fs := by simp [Program.fieldsOf, hu]
    rw [run_equalIn_struct w 9999 t _ _ (by rw [hfs]; exact hu) hs, hfs]
    exact eqFields_flat 9998 w hf he hx hy (by simp) (by simp)
  key := by
    intro ρ xs xs' b w ht hx
    show (Instr.checkKey b (9998 + 1 + 1) t _).run P w = _
    generalize 9998 = d
    rw [Instr.checkKey]
    simp only [Sem.run_bind, run_underlying hu, Result.andThen_ok]
    rw [← Array.forIn_toList]
    have : ∀ (l : List Field) (zs xs : List AV) (vs : List Value) (o : Nat), FieldsFlat P l zs o → typed zs xs = true → VRels ρ xs vs → (∀ j, vs[j]? = xs'[o + j]?) →
        (forIn l PUnit.unit (fun f (_ : PUnit) => if f.name ≠ "_" then (do
            let v ← part f.type xs'.toArray f.offset
            Instr.checkKey b (d + 1) f.type v
            pure (ForInStep.yield PUnit.unit)) else pure (ForInStep.yield PUnit.unit) : Field → PUnit → Sem (ForInStep PUnit))).run P w = .ok PUnit.unit w := by
      intro l
      induction l with
      | nil => intro zs xs vs o _ _ _ _; simp
      | cons f l ih =>
        intro zs xs vs o hf ht hx hv
        cases zs with
        | nil => exact hf.elim
        | cons z zs =>
          obtain ⟨hoff, hname, hsc, hrest⟩ := hf
          cases xs with
          | nil => cases z <;> simp [typed] at ht
          | cons x xs =>
            simp only [VRels] at hx
            obtain ⟨v, vs', rfl, hxv, hxs⟩ := hx
            have p1 : (part f.type xs'.toArray f.offset).run P w = .ok v w := hsc.part (by rw [hoff]; have := hv 0; simpa using this.symm) w
            have hk : (Instr.checkKey b (d + 1) f.type v).run P w = .ok () w := by
              rcases hsc with ⟨k, n, rfl, h⟩ | ⟨c, rfl, h⟩ <;> simp [Instr.checkKey, run_underlying h]
            have ht' : typed zs xs = true := by
              cases z <;> cases x <;> simp [typed] at ht <;> first | exact ht.2 | exact ht
            have := ih zs xs vs' (o + 1) hrest ht' hxs (fun j => by have := hv (j + 1); simpa [Nat.add_assoc, Nat.add_comm 1 j] using this)
            simp only [List.forIn_cons, hname, ne_eq, not_false_eq_true, if_true, Sem.run_bind, p1, hk, Result.andThen_ok, Sem.run_pure]
            exact this
    have h := this fs.toList zs xs xs' 0 hf ht hx (by simp)
    rw [h]; rfl
  not := fun k h => by rw [hu] at h; cases h

theorem eqCells_at : ∀ {zs xs ys : List AV} {b : Bool}, eqCells zs xs ys = some b → zs.length = xs.length ∧ zs.length = ys.length
  | [], xs, ys, b, h => by cases xs <;> cases ys <;> simp [eqCells] at h; exact ⟨rfl, rfl⟩
  | z :: zs, [], ys, b, h => by cases z <;> simp [eqCells] at h
  | z :: zs, x :: xs, [], b, h => by cases z <;> cases x <;> simp [eqCells] at h
  | z :: zs, x :: xs, y :: ys, b, h => by
    cases z <;> cases x <;> cases y <;> simp only [eqCells] at h <;> try (cases h; done)
    · split at h
      · rename_i hr; have := eqCells_at hr; simp only [List.length_cons]; omega
      · simp at h
    · split at h
      · rename_i hr; have := eqCells_at hr; simp only [List.length_cons]; omega
      · cases h

theorem typed_length : ∀ {zs xs : List AV}, typed zs xs = true → zs.length = xs.length
  | [], xs, h => by cases xs <;> simp [typed] at h; rfl
  | z :: zs, [], h => by cases z <;> simp [typed] at h
  | z :: zs, x :: xs, h => by
    cases z <;> cases x <;> simp [typed] at h
    · simp [typed_length h.2]
    · simp [typed_length h]

theorem plain_array {t e : TypeId} {n : Nat} {zs : List AV} (hu : P.underlying t = some (.array n e)) (hg : P.eqGuardType P.depth t = false) (hsz : ∀ w, (sizeOf e).run P w = .ok 1 w) (hn : zs.length = n) (hz : ∀ z ∈ zs, ScalarAt P e z) : PlainOk P t zs where
  guard := hg
  eq := by
    intro ρ xs ys b xs' ys' w he hx hy
    show (Op.equalIn (9998 + 1 + 1) t _ _).run P w = _
    generalize 9998 = d
    rw [Op.equalIn]
    simp only [Sem.run_bind, run_underlying hu, Result.andThen_ok, hsz, Std.Legacy.Range.forIn_eq_forIn_range', Std.Legacy.Range.size, Nat.sub_zero, Nat.add_sub_cancel, Nat.div_one]
    have hx0 : ∀ j, xs'[j]? = xs'.toArray[0 + j]? := by simp
    have hy0 : ∀ j, ys'[j]? = ys'.toArray[0 + j]? := by simp
    generalize xs'.toArray = X at hx0 ⊢
    generalize ys'.toArray = Y at hy0 ⊢
    subst hn
    clear hu
    generalize 0 = o at hx0 hy0 ⊢
    induction zs generalizing xs ys xs' ys' o b with
    | nil =>
      cases xs <;> cases ys <;> simp only [eqCells] at he <;> try (cases he; done)
      injection he with he; subst he; simp
    | cons z zs ih =>
      cases xs with
      | nil => have := eqCells_at he; simp at this
      | cons x xs =>
        cases ys with
        | nil => have := eqCells_at he; simp at this
        | cons y ys =>
          simp only [VRels] at hx hy
          obtain ⟨v, vs, rfl, hv, hvs⟩ := hx
          obtain ⟨u, us, rfl, hu', hus⟩ := hy
          have hsc := hz z (by simp)
          obtain ⟨r, r', hrun, hcells, rfl⟩ := hsc.one he hv hu' d w
          have p1 : (part e X (o * 1)).run P w = .ok v w := hsc.part (by have := hx0 0; simpa using this.symm) w
          have p2 : (part e Y (o * 1)).run P w = .ok u w := hsc.part (by have := hy0 0; simpa using this.symm) w
          simp only [List.length_cons, List.range'_succ, List.forIn_cons, Sem.run_bind, p1, p2, hrun, Result.andThen_ok]
          have ih' := ih (fun z hz' => hz z (by simp [hz'])) xs ys r' vs us hcells hvs hus (o + 1) (fun j => by have := hx0 (j + 1); simpa [Nat.add_assoc, Nat.add_comm 1 j] using this) (fun j => by have := hy0 (j + 1); simpa [Nat.add_assoc, Nat.add_comm 1 j] using this)
          cases r with
          | true => simpa using ih'
          | false => simp
  key := by
    intro ρ xs xs' b w ht hx
    show (Instr.checkKey b (9998 + 1 + 1) t _).run P w = _
    generalize 9998 = d
    rw [Instr.checkKey]
    simp only [Sem.run_bind, run_underlying hu, Result.andThen_ok, hsz, Std.Legacy.Range.forIn_eq_forIn_range', Std.Legacy.Range.size, Nat.sub_zero, Nat.add_sub_cancel, Nat.div_one]
    have hx0 : ∀ j, xs'[j]? = xs'.toArray[0 + j]? := by simp
    generalize xs'.toArray = X at hx0 ⊢
    subst hn
    clear hu
    generalize 0 = o at hx0 ⊢
    induction zs generalizing xs xs' o with
    | nil => simp
    | cons z zs ih =>
      cases xs with
      | nil => have := typed_length ht; simp at this
      | cons x xs =>
        simp only [VRels] at hx
        obtain ⟨v, vs, rfl, hv, hvs⟩ := hx
        have hsc := hz z (by simp)
        have p1 : (part e X (o * 1)).run P w = .ok v w := hsc.part (by have := hx0 0; simpa using this.symm) w
        have hk : (Instr.checkKey b (d + 1) e v).run P w = .ok () w := by
          rcases hsc with ⟨k, n, rfl, h⟩ | ⟨c, rfl, h⟩ <;> simp [Instr.checkKey, run_underlying h]
        have ht' : typed zs xs = true := by
          cases z <;> cases x <;> simp [typed] at ht <;> first | exact ht.2 | exact ht
        simp only [List.length_cons, List.range'_succ, List.forIn_cons, Sem.run_bind, hsz, p1, hk, Result.andThen_ok, Sem.run_pure]
        exact ih (fun z hz' => hz z (by simp [hz'])) xs vs ht' hvs (o + 1) (fun j => by have := hx0 (j + 1); simpa [Nat.add_assoc, Nat.add_comm 1 j] using this)
  not := fun k h => by rw [hu] at h; cases h

end
end Go.Tame
