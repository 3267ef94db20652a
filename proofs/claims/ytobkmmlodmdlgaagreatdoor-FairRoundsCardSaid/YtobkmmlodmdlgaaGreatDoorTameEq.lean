/- Equality; keys of maps. -/
import Derived.Test.YtobkmmlodmdlgaaGreatDoorTameAppend
import Derived.Laws.StructEq
set_option linter.all false
namespace Go.Tame
open Go

theorem tdOf_int {d : TypeDesc} {k : IntKind} (h : tdOf d = .int k) : d = .int k := by cases d <;> simp_all [tdOf]
theorem tdOf_string {d : TypeDesc} (h : tdOf d = .string) : d = .string := by cases d <;> simp_all [tdOf]
theorem tdOf_unsafe {d : TypeDesc} (h : tdOf d = .unsafe_) : d = .unsafePointer := by cases d <;> simp_all [tdOf]
theorem tdOf_bool {d : TypeDesc} (h : tdOf d = .bool) : d = .bool := by cases d <;> simp_all [tdOf]
theorem tdOf_ptr {d : TypeDesc} {e : TypeId} (h : tdOf d = .ptr e) : d = .pointer e := by cases d <;> simp_all [tdOf]
theorem tdOf_arr {d : TypeDesc} {n : Nat} {e : TypeId} (h : tdOf d = .arr n e) : d = .array n e := by cases d <;> simp_all [tdOf]
theorem tdOf_map {d : TypeDesc} {k e : TypeId} (h : tdOf d = .map k e) : d = .map k e := by cases d <;> simp_all [tdOf]
theorem tdOf_func {d : TypeDesc} (h : tdOf d = .func) : ∃ a b c, d = .func a b c := by cases d <;> simp_all [tdOf]
theorem tdOf_struct {d : TypeDesc} {fs : List (Nat × TypeId × Bool)} (h : tdOf d = .struct fs) : ∃ gs, d = .struct gs ∧ fs = gs.toList.map fun f => (f.offset, f.type, f.name == "_") := by
  cases d <;> simp_all [tdOf]

section
variable {T : Tab} {P : Program} {base : Nat} {ρ : Ren} {h : Heap} {w : World}

theorem Rep.cells_at (r : Rep T base ρ h.get w) {m : Nat} {e : TypeId} {cs : List AV} (hm : h.get m = some (.cells e cs)) {p : Place} (hp : ρ m = some p) : ∃ c, w.heap[p.block]? = some (.cells c e (0, 0)) := by
  obtain ⟨q, o, hq, _, hw, c, rfl, _⟩ := r.own m _ hm
  rw [hp] at hq; injection hq with hq; subst hq
  exact ⟨c, hw⟩

theorem run_sameAddr_apart {a b : Addr} {c c' : Array Value} {e e' : TypeId} (ha : w.heap[a.block]? = some (.cells c e (0, 0))) (hb : w.heap[b.block]? = some (.cells c' e' (0, 0))) (hne : a.block ≠ b.block) :
    (sameAddr a b).run P w = .ok false w := by
  have hne' : (a.block == b.block) = false := by simpa using hne
  have fa : ∀ o s, w.frozen? ⟨a.block, o, s⟩ = false := fun o s => by simp [World.frozen?, ha]
  have fa' : w.frozen? a = false := by simp [World.frozen?, ha]
  have fb' : w.frozen? b = false := by simp [World.frozen?, hb]
  have fb : ∀ o s, w.frozen? ⟨b.block, o, s⟩ = false := fun o s => by simp [World.frozen?, hb]
  have sa : w.shape? a.block = some (e, c.size) := by simp [World.shape?, ha]
  have sb : w.shape? b.block = some (e', c'.size) := by simp [World.shape?, hb]
  simp [sameAddr, hne', fa', fb', noView, viewAt, sa, sb, mayBeOne, stringish, fa, fb]

theorem eqA_ok (ok : TabOk T P) (r : Rep T base ρ h.get w) {t : TypeId} {x y : AV} {b : Bool} {cx cy : Value} (he : eqA T h t x y = some b) (hx : VRel ρ x cx) (hy : VRel ρ y cy) :
    (Op.equal t cx cy).run P w = .ok b w := by
  unfold eqA at he
  split at he
  · cases he
  · rename_i ti ht
    obtain ⟨i, d, z, hi⟩ := ok.types t ti ht
    show (Op.equalIn 10000 t cx cy).run P w = _
    split at he
    · rename_i xs ys
      obtain ⟨hp, he⟩ := ite_bool he
      simp only [VRel] at hx hy
      obtain ⟨xs', rfl, hxs⟩ := hx
      obtain ⟨ys', rfl, hys⟩ := hy
      exact (ok.plain t ti ht hp).eq ρ xs ys b xs' ys' w he hxs hys
    · have hu := hi.und
      obtain ⟨d', hd'⟩ : ∃ d', (10000 : Nat) = d' + 1 := ⟨9999, rfl⟩
      rw [hd']; clear hd'
      split at he
      · rename_i hd _
        obtain ⟨hk, he2⟩ := ite_bool he
        simp only [decide_eq_true_eq] at hk
        injection he2 with he2; subst he2 hk
        rw [tdOf_int (hi.td.symm.trans hd)] at hu
        simp only [VRel] at hx hy; subst hx hy
        exact run_equalIn_int w _ t _ _ _ _ hu
      · rename_i hd _
        injection he with he; subst he
        rw [tdOf_bool (hi.td.symm.trans hd)] at hu
        simp only [VRel] at hx hy; subst hx hy
        exact run_equalIn_bool' w _ t _ _ hu
      · rename_i hd _
        injection he with he; subst he
        rw [tdOf_ptr (hi.td.symm.trans hd)] at hu
        simp only [VRel] at hx hy; subst hx hy
        simp [Op.equalIn, run_underlying hu]
      · rename_i hd _
        injection he with he; subst he
        rw [tdOf_ptr (hi.td.symm.trans hd)] at hu
        obtain ⟨p, _, rfl⟩ := hy.of_ptr
        simp only [VRel] at hx; subst hx
        simp [Op.equalIn, run_underlying hu]
      · rename_i hd _
        injection he with he; subst he
        rw [tdOf_ptr (hi.td.symm.trans hd)] at hu
        obtain ⟨p, _, rfl⟩ := hx.of_ptr
        simp only [VRel] at hy; subst hy
        simp [Op.equalIn, run_underlying hu]
      · rename_i e m a n c hd _
        rw [tdOf_ptr (hi.td.symm.trans hd)] at hu
        obtain ⟨p, hp, rfl⟩ := hx.of_ptr
        obtain ⟨q, hq, rfl⟩ := hy.of_ptr
        split at he
        · rename_i te e1 cs1 e2 cs2 hte hm hn
          obtain ⟨ie, de, ze, hie⟩ := ok.types e te hte
          cases hz : Nat.beq te.size 0 with
          | true => rw [hz] at he; simp at he
          | false =>
            rw [hz] at he; simp only [cond_false] at he; injection he with he; subst he
            have hz' : te.size ≠ 0 := fun e => by rw [e] at hz; simp at hz
            have hrun : (Op.equalIn (d' + 1) t (.pointer (some (p.addr a))) (.pointer (some (q.addr c)))).run P w = (sameAddr (p.addr a) (q.addr c)).run P w := by
              simp [Op.equalIn, run_underlying hu, hie.run_sizeOf, hz']
            rw [hrun]
            by_cases hmn : m = n
            · subst hmn
              rw [hp] at hq; injection hq with hq; subst hq
              have : (p.addr a == p.addr c) = Nat.beq a c := by
                rw [Bool.eq_iff_iff, beq_true, beq_iff_eq]
                simp [Place.addr]
              simp [sameAddr, Place.addr] at this ⊢
              exact this
            · have hb1 : Nat.beq m n = false := by
                cases hb : Nat.beq m n with
                | false => rfl
                | true => exact absurd (beq_true.1 hb) hmn
              rw [hb1]
              obtain ⟨c1, h1⟩ := r.cells_at hm hp
              obtain ⟨c2, h2⟩ := r.cells_at hn hq
              exact run_sameAddr_apart (a := p.addr a) (b := q.addr c) h1 h2 (fun e => hmn (r.inj m n _ _ p q hm hn hp hq e))
        · cases he
      · rename_i hd _
        injection he with he; subst he
        rw [tdOf_slice (hi.td.symm.trans hd)] at hu
        simp only [VRel] at hx hy; subst hx hy
        simp [Op.equalIn, run_underlying hu]
      · rename_i hd _
        injection he with he; subst he
        rw [tdOf_slice (hi.td.symm.trans hd)] at hu
        obtain ⟨p, c, _, rfl⟩ := hy.of_slice
        simp only [VRel] at hx; subst hx
        simp [Op.equalIn, run_underlying hu]
      · rename_i hd _
        injection he with he; subst he
        rw [tdOf_slice (hi.td.symm.trans hd)] at hu
        obtain ⟨p, c, _, rfl⟩ := hx.of_slice
        simp only [VRel] at hy; subst hy
        simp [Op.equalIn, run_underlying hu]
      · rename_i hd _
        injection he with he; subst he
        rw [tdOf_map (hi.td.symm.trans hd)] at hu
        simp only [VRel] at hx hy; subst hx hy
        simp [Op.equalIn, run_underlying hu]
      · rename_i hd _
        injection he with he; subst he
        rw [tdOf_map (hi.td.symm.trans hd)] at hu
        simp only [VRel] at hx hy
        obtain ⟨p, _, rfl⟩ := hy
        subst hx
        simp [Op.equalIn, run_underlying hu]
      · rename_i hd _
        injection he with he; subst he
        rw [tdOf_map (hi.td.symm.trans hd)] at hu
        simp only [VRel] at hx hy
        obtain ⟨p, _, rfl⟩ := hx
        subst hy
        simp [Op.equalIn, run_underlying hu]
      · rename_i hd _
        injection he with he; subst he
        obtain ⟨_, _, _, hd'⟩ := tdOf_func (hi.td.symm.trans hd)
        rw [hd'] at hu
        simp only [VRel] at hx hy; subst hx hy
        simp [Op.equalIn, run_underlying hu]
      · rename_i hd _
        injection he with he; subst he
        obtain ⟨_, _, _, hd'⟩ := tdOf_func (hi.td.symm.trans hd)
        rw [hd'] at hu
        simp only [VRel] at hx hy
        obtain ⟨_, _, rfl, _⟩ := hy
        subst hx
        simp [Op.equalIn, run_underlying hu]
      · rename_i hd _
        injection he with he; subst he
        obtain ⟨_, _, _, hd'⟩ := tdOf_func (hi.td.symm.trans hd)
        rw [hd'] at hu
        simp only [VRel] at hx hy
        obtain ⟨_, _, rfl, _⟩ := hx
        subst hy
        simp [Op.equalIn, run_underlying hu]
      · cases he

end
end Go.Tame
