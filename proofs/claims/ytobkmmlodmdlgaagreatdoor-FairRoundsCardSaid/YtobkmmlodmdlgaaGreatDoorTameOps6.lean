/- One operation: calls; all operations together. -/
import Derived.Test.YtobkmmlodmdlgaaGreatDoorTameOps5
set_option linter.all false
namespace Go.Tame
open Go

theorem toList_one {α : Type} {xs : Array α} {y : α} (h : xs.toList = [y]) : xs = #[y] := by
  have := congrArg List.toArray h; simpa using this
theorem toList_two {α : Type} {xs : Array α} {y z : α} (h : xs.toList = [y, z]) : xs = #[y, z] := by
  have := congrArg List.toArray h; simpa using this

theorem marked_run {P : Program} {w : World} (m : Addr → Mark) (args : Array Value) : (Extern.Race.marked m args).run P w = (extSem .markAt args).run P w := by
  simp [Extern.Race.marked, extSem, Extern.Race.none_, Sem.run_bind, mark, Sem.run]

theorem mark_run {P : Program} {w : World} (m : Mark) (args : Array Value) : ((do mark m; pure Extern.Race.none_ : Sem Value)).run P w = (extSem .mark args).run P w := by
  simp [extSem, Extern.Race.none_]

section
variable {T : Tab} {P : Program} {base : Nat} {ρ : Ren} {h h' : Heap} {w : World} {nx nx' : Nat} {sz : Nat} {t : Env} {a : Act} {x : ORes}
variable (ok : TabOk T P) (r : Rep T base ρ h.get w) (e : ERel ρ sz t a.tmps)
include ok r e

theorem builtinA_ok {b : Builtin} {ats : Array TypeId} {tt : TypeId} {consts : Array Bool} {args : List AV} {cargs : List Value} (hr : VRels ρ args cargs) (hh : builtinA T h nx b ats.toList args = some x) :
    OpOk T base ρ h nx w x ((builtin b ats tt consts cargs.toArray).run P w) := by
  have fin : ∀ {s : Sem Value}, BOk T base ρ h nx w x (s.run P w) → OpOk T base ρ h nx w x ((do pure (.value (← s)) : Sem Next).run P w) := by
    rintro s ⟨v, h2, nx2, rfl, hd⟩ hf
    obtain ⟨ρ', cv, w', hs, hv, hr', hx'⟩ := hd hf
    exact ⟨ρ', cv, w', .inl (by simp [hs]), hv, hr', hx'⟩
  have natR_ok : ∀ {n : Option Nat}, natR h nx n = some x → ∃ k, n = some k ∧ x = .val (.int .i64 (k : Int)) h nx := by
    intro n hn
    cases n with
    | none => cases hn
    | some k => injection hn with hn; exact ⟨k, rfl, hn.symm⟩
  unfold builtinA at hh
  split at hh
  · rename_i ty y hats
    rw [toList_one hats]
    obtain ⟨k, hk, rfl⟩ := natR_ok hh
    simp only [VRels] at hr
    obtain ⟨cv, _, rfl, hv, rfl⟩ := hr
    exact fin (s := Builtin.len_ #[ty] tt #[cv]) (BOk.pure ok r (cv := .int .i64 (k : Int)) rfl (lenB_ok ok r hv hk))
  · rename_i ty y hats
    rw [toList_one hats]
    obtain ⟨k, hk, rfl⟩ := natR_ok hh
    simp only [VRels] at hr
    obtain ⟨cv, _, rfl, hv, rfl⟩ := hr
    exact fin (s := Builtin.cap_ #[ty] tt #[cv]) (BOk.pure ok r (cv := .int .i64 (k : Int)) rfl (capB_ok ok r hv hk))
  · obtain ⟨v, hv, rfl⟩ := ret_some hh
    obtain ⟨cv, h1, h2⟩ := maxA_ok (w := w) (P := P) (tys := ats) (tt := tt) ok r hr hv
    exact fin (s := Builtin.max_ ats tt cargs.toArray) (BOk.pure ok r h2 h1)
  · obtain ⟨v, hv, rfl⟩ := ret_some hh
    obtain ⟨cv, h1, h2⟩ := minA_ok (w := w) (P := P) (tys := ats) (tt := tt) ok r hr hv
    exact fin (s := Builtin.min_ ats tt cargs.toArray) (BOk.pure ok r h2 h1)
  · rename_i st xt s y hats
    rw [toList_two hats]
    simp only [VRels] at hr
    obtain ⟨cs, _, rfl, hs, cy, _, rfl, hy, rfl⟩ := hr
    exact fin (s := Builtin.append_ #[st, xt] tt #[cs, cy]) (appendB_ok ok r hs hy hh)
  · rename_i dt st d s hats
    rw [toList_two hats]
    simp only [VRels] at hr
    obtain ⟨cd, _, rfl, hd, cs, _, rfl, hs, rfl⟩ := hr
    exact fin (s := Builtin.copy_ #[dt, st] tt #[cd, cs]) (copyB_ok ok r hd hs hh)
  · rename_i mt kt m k hats
    rw [toList_two hats]
    simp only [VRels] at hr
    obtain ⟨cd, _, rfl, hd, cs, _, rfl, hs, rfl⟩ := hr
    exact fin (s := Builtin.delete_ #[mt, kt] tt #[cd, cs]) (deleteB_ok ok r e hd hs hh)
  · rename_i ct y hats
    rw [toList_one hats]
    simp only [VRels] at hr
    obtain ⟨cv, _, rfl, hv, rfl⟩ := hr
    exact fin (s := Builtin.clear_ #[ct] tt #[cv]) (clearB_ok ok r e hv hh)
  · cases hh

omit ok r e in
theorem storeT_eq (c d : Value) : Extern.Atomic.storeT #[c, d] = (do store (← asAddr c) d .atomic; pure Extern.Atomic.none_) := rfl
omit ok r e in
theorem loadT_eq (k : Extern.Atomic.T) (c : Value) : Extern.Atomic.loadT k #[c] = (do Extern.Atomic.read k (← asAddr c)) := rfl
omit ok r e in
theorem update_eq (op : IntKind → Int → Int → Sem Value) (k : IntKind) (c d : Value) : Extern.Atomic.update op k true #[c, d] = (do
    let a ← asAddr c
    let old ← Extern.Atomic.read (.int k) a
    let new ← op k (← asInt old) (← asInt d)
    store a new .atomic
    pure new) := rfl
omit ok r e in
theorem clone_eq (t : TypeId) (b : Nat) : Extern.MapsClone.clone #[.iface t (.map (some b))] = (do
    let .map entries clock ← getObj b | stuck "maps.clone: a map expected"
    pure (.iface t (.map (some (← newObj (.map entries clock)))))) := rfl
omit ok r e in
theorem casT_eq (k : IntKind) (c d f : Value) : Extern.Atomic.casT (.int k) #[c, d, f] = (do
    let a ← asAddr c
    if ← Extern.Atomic.touchesFrozen a then unsupported (.unsafePointer "a write to bytes that a string shares")
    let eq ← match (Extern.Atomic.T.int k), ← Extern.Atomic.read (.int k) a, d with
      | _, .int _ x, .int _ y => pure (x == y)
      | .ptr, .pointer x, .pointer y => samePointer x y
      | .int _, .pointer (some _), .int _ 0 | .int _, .int _ 0, .pointer (some _) => pure false
      | .int _, .pointer (some _), _ | .int _, _, .pointer (some _) => unsupported .addressObserved
      | _, _, _ => stuck "atomic.CompareAndSwap: old is no T"
    if eq then store a f .atomic
    pure (.bool eq)) := rfl

omit ok r e in
theorem overlaps_eq (size : Nat) (ty : TypeId) (a b : Option Addr) (la ca lb cb : Nat) : extSem (.overlaps size ty) #[.slice a la ca, .slice b lb cb] = (do
    let .slice elem ← underlying ty | stuck "slices.overlaps: slice type expected"
    let size ← sizeOf elem
    match a, b with
    | some a, some b =>
      if la = 0 ∨ lb = 0 ∨ size = 0 then pure (.bool false)
      else if a.block != b.block && (← frozen a) && (← frozen b) then unsupported .addressObserved
      else do
        if a.block != b.block then do
          noView a; noView b
          if ← mayBeOne a b then return .bool ((← choose (.extern "sameAddr.stringBytes" 2)) == 1)
        pure (.bool (a.block == b.block && a.off < b.off + lb * size && b.off < a.off + la * size))
    | _, _ => pure (.bool false)) := rfl

omit ok r e in
theorem run_store_mode {ad : Addr} {u v : Value} (hc : w.cell? ad = some u) (hv : v.oneCell' = true) (m m' : Mode) : (store ad v m).run P w = (store ad v m').run P w := by
  rw [run_store P w ad v m hv, run_store P w ad v m' hv]; simp [hc]

omit e in
/-- one cell is stored -/
theorem storeOne_ok {m off : Nat} {v : AV} {cv : Value} {p : Place} (hp : ρ m = some p) (hv : VRel ρ v cv) (hs : storeCellsA h m off [v] = some h') (md : Mode) :
    ∃ w', (store (p.addr off) cv md).run P w = .ok () w' ∧ Rep T base ρ h'.get w' ∧ Ext ρ h.get nx w ρ h'.get nx w' := by
  have _ := ok
  obtain ⟨w', hrun, hr', hx'⟩ := storeCellsA_ok (P := P) r hp (VRels.cons hv (VRels.nil ρ)) hs nx
  refine ⟨w', ?_, hr', hx'⟩
  unfold storeCellsA at hs
  split at hs
  · rename_i el cs hm
    obtain ⟨hl, hs2⟩ := ite_bool hs
    split at hs2
    · rename_i cs' hov
      obtain ⟨_, _, hfit, _⟩ := over_get _ _ _ _ hov
      have hlt : off < cs.length := by have := hfit (by simp); simp at this; omega
      obtain ⟨u, hu, _⟩ := r.cellAt hm hp off (i := 0) (x := cs[off]) (by simp [hlt])
      have h0 : (p.addr off).add 0 = p.addr off := by simp [Addr.add]
      rw [h0] at hu
      have h1 : cv.oneCell' = true := allLeaf_mem hl (VRels.cons hv (VRels.nil ρ)) cv (by simp)
      rw [run_store_mode hu h1 md .plain]
      simp only [storeCells, h0, Sem.run_bind] at hrun
      generalize hst : (store (p.addr off) cv).run P w = q at hrun
      cases q with
      | ok _ w2 => simpa using hrun
      | halt _ _ => simp at hrun
    · cases hs2
  · cases hs

omit e in
theorem run_read_int {m off : Nat} {p : Place} {el : TypeId} {cs : List AV} {k : IntKind} {n : Int} (hp : ρ m = some p) (hm : h.get m = some (.cells el cs)) (hn : nth cs off = some (.int k n)) :
    (Extern.Atomic.read (.int k) (p.addr off)).run P w = .ok (.int k n) w ∧ w.cell? (p.addr off) = some (.int k n) := by
  have _ := ok
  rw [nth_eq] at hn
  obtain ⟨u, hu, hr⟩ := r.cellAt hm hp off (i := 0) (x := .int k n) (by simpa using hn)
  have h0 : (p.addr off).add 0 = p.addr off := by simp [Addr.add]
  rw [h0] at hu
  simp only [VRel] at hr; subst hr
  exact ⟨by simp [Extern.Atomic.read, hu], hu⟩

/-- a function that the model answers -/
theorem extA_ok {y : Xt} {args : List AV} {cargs : List Value} (hr : VRels ρ args cargs) (hov : ∀ s ty, y = .overlaps s ty → ∃ e ti te, T.types.get ty = some ti ∧ ti.d = .slice e ∧ T.types.get e = some te ∧ te.size = s)
    (hh : extA h nx y args = some x) : BOk T base ρ h nx w x ((extSem y cargs.toArray).run P w) := by
  unfold extA at hh
  split at hh
  · injection hh with hh; subst hh
    exact BOk.pure ok r undefRel (by simp [extSem, undef])
  · injection hh with hh; subst hh
    simp only [VRels] at hr
    obtain ⟨c1, _, rfl, hv1, rfl⟩ := hr
    obtain ⟨p, hp, rfl⟩ := hv1.of_ptr
    exact BOk.pure ok r undefRel (by simp [extSem, undef, Extern.Race.at_])
  · rename_i m off v
    obtain ⟨h3, hst, rfl⟩ := retH_some hh
    simp only [VRels] at hr
    obtain ⟨c1, _, rfl, hv1, c2, _, rfl, hv2, rfl⟩ := hr
    obtain ⟨p, hp, rfl⟩ := hv1.of_ptr
    obtain ⟨w', hrun, hr', hx'⟩ := storeOne_ok (P := P) (nx := nx) ok r hp hv2 hst .atomic
    exact ⟨_, _, _, rfl, fun _ => ⟨ρ, .tuple #[], w', by simp only [extSem]; rw [storeT_eq]; simp [asAddr, hrun, Extern.Atomic.none_], undefRel, hr', hx'⟩⟩
  · rename_i k m off
    split at hh
    · rename_i el cs hm
      split at hh
      · rename_i k' n hn
        obtain ⟨hk, h2⟩ := ite_bool hh
        simp only [decide_eq_true_eq] at hk; subst hk
        injection h2 with h2; subst h2
        simp only [VRels] at hr
        obtain ⟨c1, _, rfl, hv1, rfl⟩ := hr
        obtain ⟨p, hp, rfl⟩ := hv1.of_ptr
        obtain ⟨h3, _⟩ := run_read_int (P := P) ok r hp hm hn
        exact BOk.pure ok r (cv := .int k n) rfl (by simp only [extSem]; rw [loadT_eq]; simp [asAddr, h3])
      · cases hh
    · cases hh
  · rename_i k m off k₂ y
    split at hh
    · rename_i el cs hm
      split at hh
      · rename_i k' n hn
        obtain ⟨hk, h2⟩ := ite_bool hh
        simp only [Bool.and_eq_true, decide_eq_true_eq] at hk
        obtain ⟨hk1, hk2⟩ := hk
        subst hk1 hk2
        obtain ⟨h3, hst, rfl⟩ := retH_some h2
        simp only [VRels] at hr
        obtain ⟨c1, _, rfl, hv1, c2, _, rfl, hv2, rfl⟩ := hr
        obtain ⟨p, hp, rfl⟩ := hv1.of_ptr
        simp only [VRel] at hv2; subst hv2
        obtain ⟨hread, _⟩ := run_read_int (P := P) ok r hp hm hn
        obtain ⟨w', hrun, hr', hx'⟩ := storeOne_ok (P := P) (nx := nx) (v := .int k (k.wrap (n + y))) (cv := .int k (k.wrap (n + y))) ok r hp rfl hst .atomic
        exact ⟨_, _, _, rfl, fun _ => ⟨ρ, .int k (k.wrap (n + y)), w', by simp only [extSem]; rw [update_eq]; simp [asAddr, hread, Op.intArith, asInt, asIntOf, hrun], rfl, hr', hx'⟩⟩
      · cases hh
    · cases hh
  · rename_i k m off k₁ y k₂ z
    split at hh
    · rename_i el cs hm
      split at hh
      · rename_i k' n hn
        obtain ⟨hk, h2⟩ := ite_bool hh
        simp only [Bool.and_eq_true, decide_eq_true_eq] at hk
        obtain ⟨hk1, hk2⟩ := hk
        subst hk1 hk2
        simp only [VRels] at hr
        obtain ⟨c1, _, rfl, hv1, c2, _, rfl, hv2, c3, _, rfl, hv3, rfl⟩ := hr
        obtain ⟨p, hp, rfl⟩ := hv1.of_ptr
        simp only [VRel] at hv2 hv3; subst hv2 hv3
        obtain ⟨hread, _⟩ := run_read_int (P := P) ok r hp hm hn
        obtain ⟨c, hc⟩ := r.cells_at hm hp
        have hfro : ∀ o s, w.frozen? ⟨p.block, o, s⟩ = false := fun o s => by simp [World.frozen?, hc]
        have hsh : w.shape? p.block = some (el, c.size) := by simp [World.shape?, hc]
        have htf : (Extern.Atomic.touchesFrozen (p.addr off)).run P w = .ok false w := by
          simp [Extern.Atomic.touchesFrozen, viewAt, Place.addr, hsh, hfro]
        cases hq : (n == y) with
        | true =>
          rw [hq] at h2; simp only [cond_true] at h2
          obtain ⟨h3, hst, rfl⟩ := retH_some h2
          obtain ⟨w', hrun, hr', hx'⟩ := storeOne_ok (P := P) (nx := nx) (v := .int k z) (cv := .int k z) ok r hp rfl hst .atomic
          have hq' : n = y := by simpa using hq
          exact ⟨_, _, _, rfl, fun _ => ⟨ρ, .bool true, w', by simp only [extSem]; rw [casT_eq]; simp [asAddr, htf, hread, hq', hrun], rfl, hr', hx'⟩⟩
        | false =>
          rw [hq] at h2; simp only [cond_false] at h2
          injection h2 with h2; subst h2
          have hq' : ¬ n = y := by simpa using hq
          exact BOk.pure ok r (cv := .bool false) rfl (by simp only [extSem]; rw [casT_eq]; simp [asAddr, htf, hread, hq'])
      · cases hh
    · cases hh
  · rename_i ty m
    split at hh
    · rename_i es cl hm
      split at hh
      · rename_i h3 nx3 hn
        injection hh with hh; subst hh
        simp only [VRels, VRel] at hr
        obtain ⟨c1, _, rfl, ⟨y, rfl, p, hp, rfl⟩, rfl⟩ := hr
        obtain ⟨p', ob, hp', _, hw, l, rfl, hl⟩ := r.own m _ hm
        rw [hp] at hp'; injection hp' with hp'; subst hp'
        have hget : (getObj p.block).run P w = .ok (.map l.toArray cl) w := by simp [getObj, Sem.run, hw]
        refine ⟨_, _, _, rfl, fun hf => ?_⟩
        obtain ⟨hr', hx'⟩ := newA_ok r hn hf (o := .map l.toArray cl) (cap := none) ⟨l, rfl, hl⟩
        refine ⟨_, .iface ty (.map (some w.heap.size)), _, by simp only [extSem]; rw [clone_eq]; simp [hget], ?_, hr', hx'⟩
        simp only [VRel]; exact ⟨_, rfl, _, Ren.add_at _ _ _, rfl⟩
      · cases hh
    · cases hh
  · rename_i size ty m c la ca oa n d lb cb ob
    obtain ⟨el, ti, te, ht, htd, hte, hsz⟩ := hov size ty rfl
    obtain ⟨i, dd, z, hti⟩ := ok.types ty ti ht
    obtain ⟨ie, de, ze, hie⟩ := ok.types el te hte
    have hu := hti.und
    rw [tdOf_slice (hti.td.symm.trans htd)] at hu
    simp only [VRels] at hr
    obtain ⟨c1, _, rfl, hv1, c2, _, rfl, hv2, rfl⟩ := hr
    obtain ⟨p, pc, hp, rfl⟩ := hv1.of_slice
    obtain ⟨q, qc, hq, rfl⟩ := hv2.of_slice
    split at hh
    · rename_i e1 cs1 e2 cs2 hm hn
      rw [overlaps_eq]
      subst hsz
      cases hz : (Nat.beq la 0 || Nat.beq lb 0 || Nat.beq te.size 0) with
      | true =>
        rw [hz] at hh; simp only [cond_true] at hh; injection hh with hh; subst hh
        simp only [Bool.or_eq_true, beq_true] at hz
        have hz' : la = 0 ∨ lb = 0 ∨ te.size = 0 := by rcases hz with (h1 | h1) | h1 <;> simp [h1]
        exact BOk.pure ok r (cv := .bool false) rfl (by simp [run_underlying hu, hie.run_sizeOf, hz'])
      | false =>
        rw [hz] at hh; simp only [cond_false] at hh; injection hh with hh; subst hh
        have hz' : ¬ (la = 0 ∨ lb = 0 ∨ te.size = 0) := fun h0 => by
          have : (Nat.beq la 0 || Nat.beq lb 0 || Nat.beq te.size 0) = true := by
            simp only [Bool.or_eq_true, beq_true]; rcases h0 with h1 | h1 | h1 <;> simp [h1]
          rw [this] at hz; cases hz
        obtain ⟨c1, hc1⟩ := r.cells_at hm hp
        obtain ⟨c2, hc2⟩ := r.cells_at hn hq
        by_cases hmn : m = n
        · subst hmn
          rw [hp] at hq; injection hq with hq; subst hq
          have h1 : Nat.beq m m = true := beq_true.2 rfl
          rw [h1]
          refine BOk.pure ok r (cv := .bool (decide (p.off + c < p.off + d + lb * te.size) && decide (p.off + d < p.off + c + la * te.size))) ?_ ?_
          · simp only [VRel, Value.bool.injEq, Bool.true_and]
            rw [Bool.eq_iff_iff]; simp only [Bool.and_eq_true, decide_eq_true_eq, blt_true]; omega
          · simp [run_underlying hu, hie.run_sizeOf, hz', Place.addr]
            congr
        · have h1 : Nat.beq m n = false := by
            cases hb : Nat.beq m n with
            | false => rfl
            | true => exact absurd (beq_true.1 hb) hmn
          rw [h1]
          have hne : ¬ p.block = q.block := fun e => hmn (r.inj m n _ _ p q hm hn hp hq e)
          have fa : ∀ o s, w.frozen? ⟨p.block, o, s⟩ = false := fun o s => by simp [World.frozen?, hc1]
          have fb : ∀ o s, w.frozen? ⟨q.block, o, s⟩ = false := fun o s => by simp [World.frozen?, hc2]
          have sa : w.shape? p.block = some (e1, c1.size) := by simp [World.shape?, hc1]
          have sb : w.shape? q.block = some (e2, c2.size) := by simp [World.shape?, hc2]
          refine BOk.pure ok r (cv := .bool false) (by simp only [VRel, Bool.false_and]) ?_
          simp [run_underlying hu, hie.run_sizeOf, hz', Place.addr, hne, fa, fb, noView, viewAt, sa, sb, mayBeOne, stringish]
    · cases hh
  · rename_i size ty
    obtain ⟨el, ti, te, ht, htd, hte, hsz⟩ := hov size ty rfl
    obtain ⟨i, dd, z, hti⟩ := ok.types ty ti ht
    obtain ⟨ie, de, ze, hie⟩ := ok.types el te hte
    have hu := hti.und
    rw [tdOf_slice (hti.td.symm.trans htd)] at hu
    simp only [VRels, VRel] at hr
    obtain ⟨c1, _, rfl, rfl, c2, _, rfl, rfl, rfl⟩ := hr
    injection hh with hh; subst hh
    rw [overlaps_eq]
    exact BOk.pure ok r (cv := .bool false) rfl (by simp [run_underlying hu, hie.run_sizeOf])
  · rename_i size ty n d lb cb ob
    obtain ⟨el, ti, te, ht, htd, hte, hsz⟩ := hov size ty rfl
    obtain ⟨i, dd, z, hti⟩ := ok.types ty ti ht
    obtain ⟨ie, de, ze, hie⟩ := ok.types el te hte
    have hu := hti.und
    rw [tdOf_slice (hti.td.symm.trans htd)] at hu
    simp only [VRels] at hr
    obtain ⟨c1, _, rfl, hv1, c2, _, rfl, hv2, rfl⟩ := hr
    obtain ⟨q, qc, hq, rfl⟩ := hv2.of_slice
    simp only [VRel] at hv1; subst hv1
    injection hh with hh; subst hh
    rw [overlaps_eq]
    exact BOk.pure ok r (cv := .bool false) rfl (by simp [run_underlying hu, hie.run_sizeOf])
  · rename_i size ty n d lb cb ob
    obtain ⟨el, ti, te, ht, htd, hte, hsz⟩ := hov size ty rfl
    obtain ⟨i, dd, z, hti⟩ := ok.types ty ti ht
    obtain ⟨ie, de, ze, hie⟩ := ok.types el te hte
    have hu := hti.und
    rw [tdOf_slice (hti.td.symm.trans htd)] at hu
    simp only [VRels] at hr
    obtain ⟨c1, _, rfl, hv1, c2, _, rfl, hv2, rfl⟩ := hr
    obtain ⟨q, qc, hq, rfl⟩ := hv1.of_slice
    simp only [VRel] at hv2; subst hv2
    injection hh with hh; subst hh
    rw [overlaps_eq]
    exact BOk.pure ok r (cv := .bool false) rfl (by simp [run_underlying hu, hie.run_sizeOf])
  · cases hh

end
end Go.Tame
