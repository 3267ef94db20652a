/- Reading, writing and making blocks: what the evaluator does, the model does. -/
import Derived.Test.YtobkmmlodmdlgaaGreatDoorTameMem
import GoSem.Extern.Atomic
import GoSem.Extern.Race
import GoSem.Extern.MapsClone
import GoSem.Extern.SlicesOverlaps
import Derived.Laws.CopyRow
import Derived.Laws.Entries
import Derived.ChangeKeysEq
set_option linter.all false
namespace Go.Tame
open Go

theorem leafV_oneCell (v : Value) : leafV v = v.oneCell' := by cases v <;> rfl

theorem ite_bool {α : Type} {b : Bool} {x : Option α} {y : α} (h : (bif b then x else none) = some y) : b = true ∧ x = some y := by
  cases b with
  | false => simp at h
  | true => exact ⟨rfl, h⟩

/-- what is known of types -/
def tdOf : TypeDesc → TD
  | .bool => .bool
  | .int k => .int k
  | .string => .string
  | .pointer e => .ptr e
  | .slice e => .slice e
  | .array n e => .arr n e
  | .map k e => .map k e
  | .struct fs => .struct (fs.toList.map fun f => (f.offset, f.type, f.name == "_"))
  | .func .. => .func
  | .interface _ => .iface
  | .unsafePointer => .unsafe_
  | _ => .other

structure TIOk (P : Program) (t : TypeId) (ti : TI) (i : TypeInfo) (d : TypeDesc) (z : Value) : Prop where
  info : P.info? t = some i
  size : i.size = ti.size
  bytes : i.bytes = ti.bytes
  zero : i.zero = some z
  cells : VRels (fun _ => none) ti.zero z.cells.toList
  shape : z.cells.size = ti.size
  und : P.underlying t = some d
  td : ti.d = tdOf d
  agg : isAggD ti.d = true → ∃ cs, z = .agg cs
  leaf : isAggD ti.d = false → leafV z = true
  fields : ∀ gs, d = .struct gs → ∀ f ∈ gs.toList, (P.info? f.type).isSome = true

/-- of a type whose values are integers and bools alone: its == goes cell by cell, and its values are keys without more ado -/
structure PlainOk (P : Program) (t : TypeId) (zs : List AV) : Prop where
  guard : P.eqGuardType P.depth t = false
  eq : ∀ (ρ : Ren) (xs ys : List AV) (b : Bool) (xs' ys' : List Value) (w : World), eqCells zs xs ys = some b → VRels ρ xs xs' → VRels ρ ys ys' →
    (Op.equalIn 10000 t (.agg xs'.toArray) (.agg ys'.toArray)).run P w = .ok b w
  key : ∀ (ρ : Ren) (xs : List AV) (xs' : List Value) (b : Bool) (w : World), typed zs xs = true → VRels ρ xs xs' → (Instr.checkKey b 10000 t (.agg xs'.toArray)).run P w = .ok () w
  not : ∀ k, P.underlying t ≠ some (.int k)

/-- what a function without a body does -/
def extSem : Xt → Array Value → Sem Value
  | .mark, _ => pure (.tuple #[])
  | .markAt, args => do let _ ← Extern.Race.at_ args; pure (.tuple #[])
  | .store, args => Extern.Atomic.storeT args
  | .loadI k, args => Extern.Atomic.loadT (.int k) args
  | .addI k, args => Extern.Atomic.update (Op.intArith .add) k true args
  | .casI k, args => Extern.Atomic.casT (.int k) args
  | .mapClone, args => Extern.MapsClone.clone args
  | .overlaps _ t, args => Extern.SlicesOverlaps.overlaps #[t] #[] args

structure TabOk (T : Tab) (P : Program) : Prop where
  types : ∀ t ti, T.types.get t = some ti → ∃ i d z, TIOk P t ti i d z
  plain : ∀ t ti, T.types.get t = some ti → ti.plainEq = true → PlainOk P t ti.zero
  funcs : ∀ f fn, T.funcs.get f = some fn → P.funcs[f]? = some fn
  call : ∀ f fn c, T.funcs.get f = some fn → fn.body = some c → ∀ args w, (callFunc f args).run P w = .ok (.enter f args) w
  exts : ∀ f x, T.exts.get f = some x → ∀ args w, (callFunc f args).run P w = ((extSem x args).run P w).andThen fun v w' => .ok (.value v) w'

theorem TIOk.run_isAgg {P : Program} {t : TypeId} {ti : TI} {i : TypeInfo} {d : TypeDesc} {z : Value} (h : TIOk P t ti i d z) (w : World) : (isAgg t).run P w = .ok (isAggD ti.d) w := by
  rw [h.td]
  unfold isAgg
  rw [Sem.run_bind, run_underlying h.und]
  cases d <;> rfl

theorem TIOk.run_sizeOf {P : Program} {t : TypeId} {ti : TI} {i : TypeInfo} {d : TypeDesc} {z : Value} (h : TIOk P t ti i d z) (w : World) : (sizeOf t).run P w = .ok ti.size w := by
  simp [Go.sizeOf, run_typeInfo w h.info, h.size]

theorem TIOk.run_zeroValue {P : Program} {t : TypeId} {ti : TI} {i : TypeInfo} {d : TypeDesc} {z : Value} (h : TIOk P t ti i d z) (w : World) : (zeroValue t).run P w = .ok z w := by
  simp [Go.zeroValue, run_typeInfo w h.info, h.zero]

theorem VRel.none_le {ρ : Ren} {a : AV} {v : Value} (h : VRel (fun _ => none) a v) : VRel ρ a v := h.mono (fun _ _ h => by cases h)
theorem VRels.none_le {ρ : Ren} {a : List AV} {v : List Value} (h : VRels (fun _ => none) a v) : VRels ρ a v := h.mono (fun _ _ h => by cases h)

/-! ### reading -/
theorem Rep.look {T : Tab} {base : Nat} {ρ : Ren} {h : Heap} {w : World} (r : Rep T base ρ h.get w) {a : AV} {ca : Value} (ha : VRel ρ a ca)
    {cs : List AV} {off : Nat} (hl : lookCells T h a = some (cs, off)) :
    ∃ ad : Addr, ca = .pointer (some ad) ∧ ad.spot = none ∧ ∀ (i : Nat) (x : AV), cs[off + i]? = some x → ∃ v, w.cell? (ad.add i) = some v ∧ VRel ρ x v := by
  have addAt : ∀ (b o i : Nat), (⟨b, o, none⟩ : Addr).add i = ⟨b, o + i, none⟩ := fun b o i => by unfold Addr.add; split <;> simp_all
  cases a <;> simp only [lookCells] at hl
  case ptr m o =>
    split at hl
    · rename_i e cs' hm
      injection hl with hl; injection hl with h1 h2; subst h1 h2
      obtain ⟨p, ob, hp, _, hw, c, rfl, hsz, hc, _⟩ := r.own m _ hm
      simp only [VRel] at ha
      obtain ⟨q, hq, rfl⟩ := ha
      rw [hp] at hq; injection hq with hq; subst hq
      refine ⟨_, rfl, rfl, fun i x hx => ?_⟩
      obtain ⟨v, hv, hr⟩ := hc _ x hx
      refine ⟨v, ?_, hr⟩
      simp only [Place.addr, addAt, World.cell?, hw]
      simp only [Option.isSome_none, Bool.false_eq_true, if_false]
      rw [Nat.add_assoc]; exact hv
    · cases hl
  case gptr g o =>
    split at hl
    · rename_i cs' hg
      injection hl with hl; injection hl with h1 h2; subst h1 h2
      obtain ⟨_, c, e, fz, hw, hc⟩ := r.glob g _ hg
      simp only [VRel] at ha
      subst ha
      refine ⟨_, rfl, rfl, fun i x hx => ?_⟩
      obtain ⟨v, hv, hr⟩ := hc _ x hx
      refine ⟨v, ?_, hr.none_le⟩
      simp only [addAt, World.cell?, hw]
      simpa using hv
    · cases hl
  all_goals cases hl

theorem run_loadCells_rel {ρ : Ren} {P : Program} {w : World} {ad : Addr} {xs : List AV} (h : ∀ (i : Nat) (x : AV), xs[i]? = some x → ∃ v, w.cell? (ad.add i) = some v ∧ VRel ρ x v) :
    ∃ vs : List Value, (loadCells ad xs.length).run P w = .ok vs.toArray w ∧ VRels ρ xs vs := by
  have : ∃ vs : List Value, VRels ρ xs vs ∧ ∀ (i : Nat) (v : Value), vs[i]? = some v → w.cell? (ad.add i) = some v := by
    let f : Nat → Value := fun i => (w.cell? (ad.add i)).getD undef
    refine ⟨(List.range xs.length).map f, VRels.of_get (by simp) fun i a hi => ?_, fun i v hv => ?_⟩
    · obtain ⟨v, hv, hr⟩ := h i a hi
      have hlt : i < xs.length := by
        rcases Nat.lt_or_ge i xs.length with h1 | h1
        · exact h1
        · rw [List.getElem?_eq_none h1] at hi; cases hi
      refine ⟨v, ?_, hr⟩
      simp [hlt, f, hv]
    · have hlt : i < xs.length := by
        rcases Nat.lt_or_ge i xs.length with h1 | h1
        · exact h1
        · rw [List.getElem?_eq_none (by simpa using h1)] at hv; cases hv
      obtain ⟨u, hu, _⟩ := h i xs[i] (by simp [hlt])
      simp [hlt, f, hu] at hv
      subst hv; exact hu
  obtain ⟨vs, h1, h2⟩ := this
  refine ⟨vs, ?_, h1⟩
  have := run_loadCells_list (P := P) (w := w) ad vs (fun j v => h2 j v)
  rw [h1.length] at this
  exact this

theorem loadA_ok {T : Tab} {P : Program} {base : Nat} {ρ : Ren} {h : Heap} {w : World} (ok : TabOk T P) (r : Rep T base ρ h.get w) {t : TypeId} {a v : AV} {ca : Value}
    (ha : VRel ρ a ca) (hl : loadA T h t a = some v) : ∃ cv, (Instr.loadAt t ca).run P w = .ok cv w ∧ VRel ρ v cv := by
  simp only [loadA] at hl
  split at hl
  · rename_i ti cs off ht hlk
    obtain ⟨i, d, z, hti⟩ := ok.types t ti ht
    obtain ⟨ad, rfl, hs, hc⟩ := r.look ha hlk
    cases hg : isAggD ti.d with
    | true =>
      rw [hg] at hl; simp only [cond_true] at hl
      split at hl
      · rename_i xs hx
        injection hl with hl; subst hl
        obtain ⟨hlen, hget⟩ := cut_get hx
        obtain ⟨vs, hrun, hvs⟩ := run_loadCells_rel (ρ := ρ) (P := P) (w := w) (ad := ad) (xs := xs) (fun j x hj => by
          have hlt : j < xs.length := by
            rcases Nat.lt_or_ge j xs.length with h1 | h1
            · exact h1
            · rw [List.getElem?_eq_none h1] at hj; cases hj
          rw [hget j (by omega)] at hj
          exact hc j x hj)
        refine ⟨.agg vs.toArray, ?_, by simp only [VRel]; exact ⟨vs, rfl, hvs⟩⟩
        rw [hlen] at hrun
        simp [Instr.loadAt, Instr.sureAddr, loadVar, hti.run_isAgg, hg, hti.run_sizeOf, hrun]
      · cases hl
    | false =>
      rw [hg] at hl; simp only [cond_false, nth_eq] at hl
      obtain ⟨u, hu, hr⟩ := hc 0 v (by simpa using hl)
      have h0 : ad.add 0 = ad := by simp [Addr.add]
      rw [h0] at hu
      exact ⟨u, by simp [Instr.loadAt, Instr.sureAddr, loadVar, hti.run_isAgg, hg, hu], hr⟩
  · cases hl

/-! ### turning a block -/
theorem D_pow : (2 : Nat) ^ D = 1099511627776 := rfl

theorem upd_get {h h' : Heap} {m : Nat} {b : Option Blk} (hu : upd h m b = some h') (n : Nat) : h'.get n = if n = m then b else h.get n := by
  unfold upd at hu
  obtain ⟨h1, h2⟩ := ite_bool hu
  injection h2 with h2; subst h2
  rw [blt_true] at h1
  exact Tr.get_put _ _ _ _ _ (by have := D_pow; omega)

/-- one block's content is turned in place -/
theorem Rep.turn {T : Tab} {base : Nat} {ρ : Ren} {h h' : HF} {w w' : World} (r : Rep T base ρ h w) {m : Nat} {b b' : Blk} {p : Place} {o' : Obj}
    (hm : h m = some b) (hp : ρ m = some p) (hh : ∀ n, h' n = if n = m then some b' else h n)
    (hsize : w'.heap.size = w.heap.size) (hos : w'.os = w.os) (htape : w'.tape = w.tape) (hout : w'.output = w.output)
    (hat : w'.heap[p.block]? = some o') (hoth : ∀ k, k ≠ p.block → w'.heap[k]? = w.heap[k]?) (hb : BRel T ρ p b' o') (nx : Nat) :
    Rep T base ρ h' w' ∧ Ext ρ h nx w ρ h' nx w' := by
  obtain ⟨p', o, hp', hbase, hw, hbr0⟩ := r.own m b hm
  rw [hp] at hp'; injection hp' with hp'; subst hp'
  have hfzz : ∀ a, w'.frozen? a = w.frozen? a := fun a => by
    by_cases ha : a.block = p.block
    · rw [hb.fz (w := w') (a := a) (by rw [ha]; exact hat), hbr0.fz (w := w) (a := a) (by rw [ha]; exact hw)]
    · unfold World.frozen?; rw [hoth _ ha]
  have back : ∀ n c, h' n = some c → ∃ c', h n = some c' := fun n c hn => by
    rw [hh] at hn
    by_cases e : n = m
    · exact ⟨b, by rw [e]; exact hm⟩
    · rw [if_neg e] at hn; exact ⟨c, hn⟩
  refine ⟨⟨by rw [hsize]; exact r.low, fun n c hn => ?_, fun n k c c' q q' hn hk hq hq' hqq => ?_, fun g cs hg => ?_⟩, ⟨Ren.le_refl ρ, Nat.le_refl _, fun _ _ => rfl, by rw [hsize]; exact Nat.le_refl _, hos, htape, hout, hfzz, fun k hk hno => ?_, fun n c q hn hq => ?_, fun n c hn => ?_⟩⟩
  · by_cases e : n = m
    · rw [hh, if_pos e] at hn; injection hn with hn; subst hn
      exact ⟨p, o', by rw [e]; exact hp, hbase, hat, hb⟩
    · rw [hh, if_neg e] at hn
      obtain ⟨q, oq, hq, hqb, hqw, hqr⟩ := r.own n c hn
      refine ⟨q, oq, hq, hqb, ?_, hqr⟩
      rw [hoth _ (fun e' => e (r.inj n m c b q p hn hm hq hp e'))]
      exact hqw
  · obtain ⟨c1, h1⟩ := back n c hn
    obtain ⟨c2, h2⟩ := back k c' hk
    exact r.inj n k c1 c2 q q' h1 h2 hq hq' hqq
  · obtain ⟨hlt, c, e, fz, hw', hc⟩ := r.glob g cs hg
    refine ⟨hlt, c, e, fz, ?_, hc⟩
    rw [hoth _ (by omega)]; exact hw'
  · exact hoth k (fun e => hno m b p hm hp e.symm)
  · obtain ⟨c1, h1⟩ := back n c hn
    exact .inr ⟨n, c1, q, h1, hq, rfl⟩
  · obtain ⟨c1, h1⟩ := back n c hn
    exact .inl ⟨c1, h1⟩

theorem allLeaf_mem {ρ : Ren} : ∀ {as : List AV} {vs : List Value}, allLeaf as = true → VRels ρ as vs → ∀ v ∈ vs, v.oneCell' = true
  | [], vs, _, hv => by simp [VRels] at hv; subst hv; simp
  | a :: as, vs, hl, hv => by
    simp only [VRels] at hv
    obtain ⟨v, vs', rfl, h1, h2⟩ := hv
    simp only [allLeaf, Bool.and_eq_true] at hl
    intro x hx
    rcases List.mem_cons.1 hx with rfl | hx
    · rw [← leafV_oneCell]; exact h1.leaf hl.1
    · exact allLeaf_mem hl.2 h2 x hx

theorem storeCellsA_ok {T : Tab} {P : Program} {base : Nat} {ρ : Ren} {h h' : Heap} {w : World} (r : Rep T base ρ h.get w) {m off : Nat} {vs : List AV} {cvs : List Value} {p : Place}
    (hp : ρ m = some p) (hv : VRels ρ vs cvs) (hs : storeCellsA h m off vs = some h') (nx : Nat) :
    ∃ w', (storeCells (p.addr off) cvs).run P w = .ok () w' ∧ Rep T base ρ h'.get w' ∧ Ext ρ h.get nx w ρ h'.get nx w' := by
  unfold storeCellsA at hs
  split at hs
  · rename_i e cs hm
    obtain ⟨hl, hs2⟩ := ite_bool hs
    clear hs
    split at hs2
    · rename_i cs' ho
      obtain ⟨hlen, hmax, hfit, hget⟩ := over_get _ _ _ _ ho
      obtain ⟨p', o, hp', hbase, hw, c, rfl, hsz, hc, hcap⟩ := r.own m _ hm
      rw [hp] at hp'; injection hp' with hp'; subst hp'
      have hvl := hv.length
      by_cases hne : vs = []
      · -- nothing is stored
        subst hne
        have hcv : cvs = [] := List.eq_nil_of_length_eq_zero (by simpa using hvl)
        subst hcv
        have hcs : cs' = cs := by
          apply List.ext_getElem?; intro i; rw [hget i, if_neg (by simp only [List.length_nil]; omega)]
        subst hcs
        obtain ⟨r', ex⟩ := r.turn (h' := h'.get) (w' := w) hm hp (fun n => upd_get hs2 n) rfl rfl rfl rfl hw (fun _ _ => rfl) ⟨c, rfl, hsz, hc, hcap⟩ nx
        exact ⟨w, rfl, r', ex⟩
      · have hfit := hfit hne
        have hrun := run_storeCells_at (P := P) p.block (p.off + off) e cvs 0 c w hw (by simp only [Nat.add_zero]; omega) (allLeaf_mem hl hv)
        simp only [Nat.add_zero] at hrun
        refine ⟨_, hrun, ?_⟩
        refine r.turn (h' := h'.get) (w' := w.setRow p.block (c.toList.take (p.off + off) ++ cvs ++ c.toList.drop (p.off + off + cvs.length)).toArray) (o' := .cells (c.toList.take (p.off + off) ++ cvs ++ c.toList.drop (p.off + off + cvs.length)).toArray e (0, 0)) hm hp (fun n => upd_get hs2 n) (by simp) rfl rfl rfl
          (setRow_heap w _ c _ e _ hw) (fun k hk => setRow_other w _ k _ hk) ?_ nx
        have hcl : (c.toList.take (p.off + off) ++ cvs ++ c.toList.drop (p.off + off + cvs.length)).length = c.size := by simp; omega
        refine ⟨_, rfl, by rw [List.size_toArray, hcl]; omega, fun i a hi => ?_, fun C hC => ?_⟩
        · rw [hget i] at hi
          by_cases hin : off ≤ i ∧ i < off + vs.length
          · rw [if_pos hin] at hi
            obtain ⟨v, hv', hr⟩ := hv.get hi
            refine ⟨v, ?_, hr⟩
            rw [List.getElem?_toArray, List.append_assoc, List.getElem?_append_right (by simp; omega), List.getElem?_append_left (by simp; omega)]
            rw [← hv']; congr 1; simp; omega
          · rw [if_neg hin] at hi
            obtain ⟨v, hv', hr⟩ := hc i a hi
            refine ⟨v, ?_, hr⟩
            rw [List.getElem?_toArray, ← hv']
            by_cases hlo : i < off
            · rw [List.append_assoc, List.getElem?_append_left (by simp; omega), List.getElem?_take_of_lt (by omega)]; simp
            · rw [List.getElem?_append_right (by simp; omega), List.getElem?_drop]
              rw [← Array.getElem?_toList]; congr 1; simp; omega
        · obtain ⟨ti, h1, h2, h3⟩ := hcap C hC
          exact ⟨ti, h1, by omega, by rw [List.size_toArray, hcl]; exact h3⟩
    · cases hs2
  · cases hs

end Go.Tame
