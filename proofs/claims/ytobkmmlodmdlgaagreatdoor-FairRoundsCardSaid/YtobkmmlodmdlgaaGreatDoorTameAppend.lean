/- append. -/
import Derived.Test.YtobkmmlodmdlgaaGreatDoorTamePrim2
set_option linter.all false
namespace Go.Tame
open Go

section
variable {P : Program} {w : World}

theorem run_lenOf {b : Option Addr} {n c : Nat} : (Builtin.lenOf (.slice b n c)).run P w = .ok n w := rfl

theorem run_append_in {st xt ty e : TypeId} {i : TypeInfo} (hs : P.underlying st = some (.slice e)) {f : TypeId} (hx : P.underlying xt = some (.slice f)) (hi : P.info? e = some i)
    {base : Option Addr} {sLen sCap n : Nat} {xb : Option Addr} {xc : Nat} {news : List Value} (hfit : sLen + n ≤ sCap) (hnew : (Builtin.firstCells i.size n (.slice xb n xc)).run P w = .ok news.toArray w) :
    (Builtin.append_ #[st, xt] ty #[.slice base sLen sCap, .slice xb n xc]).run P w =
      (match base with
        | some a => ((storeCells (a.add (sLen * i.size)) news).run P w).andThen fun _ w' => .ok (.slice base (sLen + n) sCap) w'
        | none => .ok (.slice base (sLen + n) sCap) w) := by
  cases base with
  | none => simp [Builtin.append_, run_underlying hs, run_underlying hx, Go.sizeOf, run_typeInfo w hi, run_lenOf, hfit, hnew]
  | some a => simp [Builtin.append_, run_underlying hs, run_underlying hx, Go.sizeOf, run_typeInfo w hi, run_lenOf, hfit, hnew]

theorem run_append_out {st xt ty e : TypeId} {i : TypeInfo} {z : Value} (hs : P.underlying st = some (.slice e)) {f : TypeId} (hx : P.underlying xt = some (.slice f)) (hi : P.info? e = some i) (hz : i.zero = some z)
    {base : Option Addr} {sLen sCap n : Nat} {xb : Option Addr} {xc : Nat} {olds news : List Value} (hg : sCap < sLen + n)
    (hold : ∀ w' : World, w'.heap = w.heap → (Builtin.firstCells i.size sLen (.slice base sLen sCap)).run P w' = .ok olds.toArray w')
    (hnew : ∀ w' : World, w'.heap = w.heap → (Builtin.firstCells i.size n (.slice xb n xc)).run P w' = .ok news.toArray w')
    (h63 : ((sLen + n : Nat) : Int) ≤ 9223372036854775807) (hfit : Builtin.nextslicecap (sLen + n) sCap * i.bytes ≤ 281474976710656) :
    ∃ C, sLen + n ≤ C ∧ (Builtin.append_ #[st, xt] ty #[.slice base sLen sCap, .slice xb n xc]).run P w =
      .ok (.slice (some ⟨w.heap.size, 0, none⟩) (sLen + n) C) (w.drew.alloc (.cells (olds.toArray ++ news.toArray ++ Builtin.zeroCells z.cells (C - (sLen + n))) e)) := by
  have hn : ¬ (sLen + n ≤ sCap) := by omega
  have h63' : ¬ (9223372036854775807 < ((sLen : Int) + (n : Int))) := by omega
  have h48' : ¬ (281474976710656 < Builtin.nextslicecap (sLen + n) sCap * i.bytes) := by omega
  have hf := hnew w.drew rfl
  have hfo := hold w.drew rfl
  refine ⟨grownCap w (sLen + n) sCap e, ?_, ?_⟩
  · simp only [grownCap, Question.cut]; omega
  · simp [Builtin.append_, run_underlying hs, run_underlying hx, Go.sizeOf, typeInfo, zeroValue, hi, hz, run_lenOf, hn, h63', h48', Question.forced, hf, hfo, newRow, grownCap]
    congr 2
    rw [← Array.append_assoc]; congr 1; simp only [List.append_toArray]
end

/-- the new row that append makes -/
theorem BRel.grown {T : Tab} {ρ : Ren} {cs : List AV} {vs : List Value} (h : VRels ρ cs vs) {e : TypeId} {ti : TI} (ht : T.types.get e = some ti) (b : Nat) {C n : Nat} (hC : n ≤ C) (hl : cs.length = n * ti.size)
    (rest : Array Value) (hr : rest.size = (C - n) * ti.size) : BRel T ρ ⟨b, 0, some C⟩ (.cells e cs) (.cells (vs.toArray ++ rest) e) := by
  have hsz : (vs.toArray ++ rest).size = C * ti.size := by
    simp [h.length, hl, hr]
    rw [← Nat.add_mul]; congr 1; omega
  refine ⟨_, rfl, ?_, fun i a hi => ?_, fun C' hC' => ?_⟩
  · rw [hsz, Nat.zero_add, hl]; exact Nat.mul_le_mul_right _ hC
  · obtain ⟨v, hv, hr'⟩ := h.get hi
    have hlt : i < vs.length := by
      rcases Nat.lt_or_ge i vs.length with h1 | h1
      · exact h1
      · rw [List.getElem?_eq_none h1] at hv; cases hv
    exact ⟨v, by rw [Nat.zero_add, Array.getElem?_append_left (by simpa using hlt)]; simpa using hv, hr'⟩
  · injection hC' with hC'; subst hC'
    exact ⟨ti, ht, by rw [hl]; exact Nat.mul_le_mul_right _ hC, by rw [hsz]; simp⟩

theorem zeroCells_size (z : Array Value) (n : Nat) : (Builtin.zeroCells z n).size = n * z.size := by simp [Builtin.zeroCells]

/-- a block taken away, and another over the same stretch of memory -/
theorem Rep.rename {T : Tab} {base : Nat} {ρ : Ren} {h h' : HF} {w w' : World} (r : Rep T base ρ h w) {m nx : Nat} {b b' : Blk} {p p' : Place} {o' : Obj}
    (hm : h m = some b) (hp : ρ m = some p) (hf : ρ nx = none) (hh : ∀ n, h' n = if n = nx then some b' else if n = m then none else h n)
    (hsize : w'.heap.size = w.heap.size) (hos : w'.os = w.os) (htape : w'.tape = w.tape) (hout : w'.output = w.output)
    (hpb : p'.block = p.block) (hat : w'.heap[p.block]? = some o') (hoth : ∀ k, k ≠ p.block → w'.heap[k]? = w.heap[k]?) (hb : BRel T ρ p' b' o') :
    Rep T base (ρ.add nx p') h' w' ∧ Ext ρ h nx w (ρ.add nx p') h' (nx + 1) w' := by
  have hle : ρ.le (ρ.add nx p') := Ren.add_le hf
  obtain ⟨p0, o, hp0, hbase, hw, hbr0⟩ := r.own m b hm
  rw [hp] at hp0; injection hp0 with hp0; subst hp0
  have hfzz : ∀ a, w'.frozen? a = w.frozen? a := fun a => by
    by_cases ha : a.block = p.block
    · rw [hb.fz (w := w') (a := a) (by rw [ha]; exact hat), hbr0.fz (w := w) (a := a) (by rw [ha]; exact hw)]
    · unfold World.frozen?; rw [hoth _ ha]
  have hmn : m ≠ nx := fun e => by rw [e, hf] at hp; cases hp
  have addne : ∀ k q, k ≠ nx → ρ.add nx p' k = some q → ρ k = some q := fun k q hne hq => by
    unfold Ren.add at hq; rw [if_neg hne] at hq; exact hq
  have old : ∀ n c, n ≠ nx → h' n = some c → n ≠ m ∧ h n = some c := fun n c hn hc => by
    rw [hh, if_neg hn] at hc
    by_cases e : n = m
    · rw [if_pos e] at hc; cases hc
    · rw [if_neg e] at hc; exact ⟨e, hc⟩
  refine ⟨⟨by rw [hsize]; exact r.low, fun n c hn => ?_, fun n k c c' q q' hn hk hq hq' hqq => ?_, fun g cs hg => ?_⟩, ⟨hle, Nat.le_succ _, fun n hn => ?_, by rw [hsize]; exact Nat.le_refl _, hos, htape, hout, hfzz, fun k hk hno => ?_, fun n c q hn hq => ?_, fun n c hn => ?_⟩⟩
  · by_cases e : n = nx
    · rw [hh, if_pos e] at hn; injection hn with hn; subst hn
      exact ⟨p', o', by rw [e]; exact Ren.add_at _ _ _, by rw [hpb]; exact hbase, by rw [hpb]; exact hat, hb.mono hle⟩
    · obtain ⟨hnm, hc⟩ := old n c e hn
      obtain ⟨q, oq, hq, hqb, hqw, hqr⟩ := r.own n c hc
      exact ⟨q, oq, hle _ _ hq, hqb, by rw [hoth _ (fun e' => hnm (r.inj n m c b q p hc hm hq hp e'))]; exact hqw, hqr.mono hle⟩
  · by_cases en : n = nx
    · by_cases ek : k = nx
      · rw [en, ek]
      · obtain ⟨hkm, hc⟩ := old k c' ek hk
        have hq3 := addne k q' ek hq'
        subst en; rw [Ren.add_at] at hq; injection hq with hq; subst hq
        exact absurd (r.inj m k b c' p q' hm hc hp hq3 (hpb.symm.trans hqq)).symm hkm
    · obtain ⟨hnm, hc⟩ := old n c en hn
      have hq3 := addne n q en hq
      by_cases ek : k = nx
      · subst ek; rw [Ren.add_at] at hq'; injection hq' with hq'; subst hq'
        exact absurd (r.inj n m c b q p hc hm hq3 hp (hqq.trans hpb)) hnm
      · obtain ⟨hkm, hc'⟩ := old k c' ek hk
        exact r.inj n k c c' q q' hc hc' hq3 (addne k q' ek hq') hqq
  · obtain ⟨hlt, c, e, fz, hw', hc⟩ := r.glob g cs hg
    exact ⟨hlt, c, e, fz, by rw [hoth _ (by omega)]; exact hw', hc⟩
  · unfold Ren.add; rw [if_neg (by omega)]
  · exact hoth k (fun e => hno m b p hm hp e.symm)
  · by_cases en : n = nx
    · subst en; rw [Ren.add_at] at hq; injection hq with hq; subst hq
      exact .inr ⟨m, b, p, hm, hp, hpb.symm⟩
    · obtain ⟨hnm, hc⟩ := old n c en hn
      exact .inr ⟨n, c, q, hc, addne n q en hq, rfl⟩
  · by_cases en : n = nx
    · exact .inr (by omega)
    · exact .inl ⟨c, (old n c en hn).2⟩

/-- a block taken away -/
theorem Rep.forget {T : Tab} {base : Nat} {ρ : Ren} {h h' : HF} {w : World} (r : Rep T base ρ h w) (hh : ∀ n c, h' n = some c → h n = some c) (nx : Nat) :
    Rep T base ρ h' w ∧ Ext ρ h nx w ρ h' nx w :=
  ⟨⟨r.low, fun m b hm => r.own m b (hh m b hm), fun m n b c p q hm hn => r.inj m n b c p q (hh m b hm) (hh n c hn), r.glob⟩,
   ⟨Ren.le_refl ρ, Nat.le_refl _, fun _ _ => rfl, Nat.le_refl _, rfl, rfl, rfl, fun _ => rfl, fun _ _ _ => rfl, fun m c p hm hp => .inr ⟨m, c, p, hh m c hm, hp, rfl⟩, fun m c hm => .inl ⟨c, hh m c hm⟩⟩⟩

theorem tdOf_slice {d : TypeDesc} {e : TypeId} (h : tdOf d = .slice e) : d = .slice e := by cases d <;> simp_all [tdOf]

theorem addr_add (p : Place) (o n : Nat) : (p.addr o).add n = p.addr (o + n) := by
  simp only [Place.addr, Addr.add]
  split
  · simp_all
  · simp [Nat.add_assoc]

/-- what append does, whatever is appended -/
structure AppRun (P : Program) (st xt ty e : TypeId) (size k n : Nat) (ze : Value) (w : World) (cx : Value) (news : List Value) : Prop where
  fits : ∀ (base : Option Addr) (sCap : Nat), k + n ≤ sCap → (Builtin.append_ #[st, xt] ty #[.slice base k sCap, cx]).run P w =
      (match base with
        | some a => ((storeCells (a.add (k * size)) news).run P w).andThen fun _ w' => .ok (.slice base (k + n) sCap) w'
        | none => .ok (.slice base (k + n) sCap) w)
  grows : ∀ (base : Option Addr) (sCap : Nat) (olds : List Value), sCap < k + n → (∀ w' : World, w'.heap = w.heap → (Builtin.firstCells size k (.slice base k sCap)).run P w' = .ok olds.toArray w') →
      ∃ C, k + n ≤ C ∧ (Builtin.append_ #[st, xt] ty #[.slice base k sCap, cx]).run P w =
        .ok (.slice (some ⟨w.heap.size, 0, none⟩) (k + n) C) (w.drew.alloc (.cells (olds.toArray ++ news.toArray ++ Builtin.zeroCells ze.cells (C - (k + n))) e))

theorem appendA_gen {T : Tab} {P : Program} {base : Nat} {ρ : Ren} {h h' : Heap} {w : World} {nx nx' : Nat} (r : Rep T base ρ h.get w)
    {st xt ty e : TypeId} {te : TI} (he : T.types.get e = some te) {ie : TypeInfo} {de : TypeDesc} {ze : Value} (hie : TIOk P e te ie de ze)
    (hpos : 0 < te.size) {s v : AV} {cs cx : Value} {n k : Nat} {new : List AV} {news : List Value} (hs : VRel ρ s cs) (hls : lenA s = some k) (hnews : VRels ρ new news) (hnlen : new.length = n * te.size) (hrunA : AppRun P st xt ty e te.size k n ze w cx news)
    (hleaf : allLeaf new = true) (ha : appendA h nx e te.size n s new = some (v, h', nx')) (hf : Fresh ρ nx nx') :
    ∃ ρ' cv w', (Builtin.append_ #[st, xt] ty #[cs, cx]).run P w = .ok cv w' ∧ VRel ρ' v cv ∧ Rep T base ρ' h'.get w' ∧ Ext ρ h.get nx w ρ' h'.get nx' w' := by
  have hzs : ze.cells.size = te.size := hie.shape
  have restSize : ∀ C, (Builtin.zeroCells ze.cells (C - (k + n))).size = (C - (k + n)) * te.size := fun C => by rw [zeroCells_size, hzs]
  -- a new row is made
  have fresh : ∀ (b : Option Addr) (sCap : Nat) (old : List AV) (olds : List Value) (hA : Heap) (h2 : Heap) (nx2 : Nat), sCap < k + n → VRels ρ old olds → old.length = k * te.size → Rep T base ρ hA.get w →
      newA hA nx (.cells e (old ++ new)) = some (h2, nx2) → Fresh ρ nx nx2 →
      (∀ w' : World, w'.heap = w.heap → (Builtin.firstCells te.size k (.slice b k sCap)).run P w' = .ok olds.toArray w') →
      ∃ ρ' cv w', (Builtin.append_ #[st, xt] ty #[.slice b k sCap, cx]).run P w = .ok cv w' ∧ VRel ρ' (.slice nx 0 (k + n) 0 true) cv ∧ Rep T base ρ' h2.get w' ∧ Ext ρ hA.get nx w ρ' h2.get nx2 w' := by
    intro b sCap old olds hA h2 nx2 hlt holds holen hrA hnew hfr hrunold
    obtain ⟨C, hC, hrun⟩ := hrunA.grows b sCap olds hlt hrunold
    have hbr : BRel T ρ ⟨w.drew.heap.size, 0, some C⟩ (.cells e (old ++ new)) (.cells ((olds ++ news).toArray ++ Builtin.zeroCells ze.cells (C - (k + n))) e) :=
      BRel.grown (holds.append hnews) he _ (n := k + n) hC (by simp [holen, hnlen, Nat.add_mul]) _ (restSize C)
    obtain ⟨hr', hx'⟩ := newA_ok (w := w.drew) (hrA.world rfl) hnew hfr hbr
    have hcat : olds.toArray ++ news.toArray = (olds ++ news).toArray := by simp
    rw [hcat] at hrun
    refine ⟨_, _, _, hrun, ?_, hr', Ext.trans Ext.drew hx'⟩
    have := VRel.opened (ρ := ρ.add nx ⟨w.drew.heap.size, 0, some C⟩) (Ren.add_at _ nx _) (C := C) rfl 0 (len := k + n) (cap := 0) (by omega)
    simpa [Place.addr] using this
  cases s <;> simp only [lenA] at hls
  case nilslice =>
    injection hls with hls; subst hls
    simp only [VRel] at hs; subst hs
    simp only [appendA] at ha
    cases hn : Nat.beq n 0 with
    | true =>
      rw [hn] at ha; simp only [cond_true] at ha; injection ha with ha; injection ha with ha1 ha2; injection ha2 with ha2 ha3; subst ha1 ha2 ha3
      rw [beq_true] at hn; subst hn
      refine ⟨ρ, .slice none 0 0, w, ?_, by simp [VRel], r, Ext.refl _ _ _ _⟩
      rw [hrunA.fits _ _ (by omega)]
    | false =>
      rw [hn] at ha; simp only [cond_false] at ha
      have hn0 : 0 < n := by
        rcases Nat.eq_zero_or_pos n with h0 | h0
        · rw [h0] at hn; simp at hn
        · exact h0
      split at ha
      · rename_i h2 nx2 hnew
        injection ha with ha; injection ha with ha1 ha2; injection ha2 with ha2 ha3; subst ha1 ha2 ha3
        have := fresh none 0 [] [] h h2 nx2 (by omega) (VRels.nil ρ) (by simp) r hnew hf (fun w' _ => by simp [Builtin.firstCells])
        rw [Nat.zero_add] at this
        exact this
      · cases ha
  case slice m off len cap opn =>
    injection hls with hls; subst hls
    simp only [appendA] at ha
    split at ha
    · rename_i e' cs' hm
      have hold : ∀ p, ρ m = some p → ∀ old, cut cs' off (len * te.size) = some old → ∀ c, ∃ olds, VRels ρ old olds ∧ old.length = len * te.size ∧ ∀ w' : World, w'.heap = w.heap → (Builtin.firstCells te.size len (.slice (some (p.addr off)) len c)).run P w' = .ok olds.toArray w' := fun p hp old ho c => by
        have hv : VRel ρ (.slice m off len c false) (.slice (some (p.addr off)) len c) := VRel.closed hp off len c
        have hself : Nat.ble len len = true := ble_true.2 (Nat.le_refl _)
        have : elemsOf h te.size len (.slice m off len c false) = some old := by simp [elemsOf, hm, ho, hself]
        exact elemsOf_ok (P := P) r hv this
      cases opn with
      | false =>
        simp only at ha
        obtain ⟨p, hp, rfl⟩ := hs.of_closed
        cases hfit : Nat.ble (len + n) cap with
        | true =>
          rw [hfit] at ha; simp only [cond_true] at ha
          rw [Nat.ble_eq] at hfit
          split at ha
          · rename_i h2 hst2
            injection ha with ha; injection ha with ha1 ha2; injection ha2 with ha2 ha3; subst ha1 ha2 ha3
            obtain ⟨w', hrun, hr', hx'⟩ := storeCellsA_ok (P := P) r hp hnews hst2 nx
            refine ⟨ρ, .slice (some (p.addr off)) (len + n) cap, w', ?_, VRel.closed hp off _ _, hr', hx'⟩
            rw [hrunA.fits _ _ hfit]
            simp only [addr_add, hrun, Result.andThen_ok]
          · cases ha
        | false =>
          rw [hfit] at ha; simp only [cond_false] at ha
          have hfit' : cap < len + n := by
            rcases Nat.lt_or_ge cap (len + n) with h1 | h1
            · exact h1
            · rw [ble_true.2 h1] at hfit; cases hfit
          split at ha
          · cases ha
          · rename_i old ho
            obtain ⟨olds, holds, holen, hrunold⟩ := hold p hp old ho cap
            split at ha
            · rename_i h2 nx2 hnew
              injection ha with ha; injection ha with ha1 ha2; injection ha2 with ha2 ha3; subst ha1 ha2 ha3
              exact fresh (some (p.addr off)) cap old olds h h2 nx2 hfit' holds holen r hnew hf hrunold
            · cases ha
      | true =>
        simp only at ha
        obtain ⟨p, C0, hp, hC0, hcl, rfl⟩ := hs.of_opened
        obtain ⟨p', ob, hp', hbase, hw, c, rfl, hsz, hc, hcap⟩ := r.own m _ hm
        rw [hp] at hp'; injection hp' with hp'; subst hp'
        obtain ⟨te', hte', hcs1, hcs2⟩ := hcap C0 hC0
        cases hn : Nat.beq n 0 with
        | true =>
          rw [hn] at ha; simp only [cond_true] at ha; injection ha with ha; injection ha with ha1 ha2; injection ha2 with ha2 ha3; subst ha1 ha2 ha3
          rw [beq_true] at hn; subst hn
          have hnn : news = [] := List.eq_nil_of_length_eq_zero (by rw [hnews.length, hnlen]; simp)
          subst hnn
          refine ⟨ρ, .slice (some (p.addr off)) len (C0 - cap), w, ?_, VRel.opened hp hC0 off hcl, r, Ext.refl _ _ _ _⟩
          rw [hrunA.fits _ _ (by omega)]
          simp [storeCells]
        | false =>
          rw [hn] at ha; simp only [cond_false] at ha
          have hn0 : 0 < n := by
            rcases Nat.eq_zero_or_pos n with h0 | h0
            · rw [h0] at hn; simp at hn
            · exact h0
          cases hin : (Nat.ble (off + (len + n) * te.size) cs'.length && Nat.beq off (cap * te.size) && Nat.beq e' e) with
          | true =>
            rw [hin] at ha; simp only [cond_true] at ha
            simp only [Bool.and_eq_true, Nat.ble_eq, beq_true] at hin
            obtain ⟨⟨hin1, hin2⟩, hin3⟩ := hin
            subst hin3
            rw [he] at hte'; injection hte' with hte'; subst hte'
            split at ha
            · rename_i h2 hst2
              injection ha with ha; injection ha with ha1 ha2; injection ha2 with ha2 ha3; subst ha1 ha2 ha3
              obtain ⟨w', hrun, hr', hx'⟩ := storeCellsA_ok (P := P) r hp hnews hst2 nx
              have hle : cap + (len + n) ≤ C0 := by
                have : (cap + (len + n)) * te.size ≤ C0 * te.size := by rw [Nat.add_mul]; omega
                exact Nat.le_of_mul_le_mul_right this hpos
              refine ⟨ρ, .slice (some (p.addr off)) (len + n) (C0 - cap), w', ?_, VRel.opened hp hC0 off hle, hr', hx'⟩
              rw [hrunA.fits _ _ (by omega)]
              simp only [addr_add, hrun, Result.andThen_ok]
            · cases ha
          | false =>
            rw [hin] at ha; simp only [cond_false] at ha
            obtain ⟨hee, ha⟩ := ite_bool ha
            rw [Bool.and_eq_true, beq_true, beq_true] at hee
            obtain ⟨hee, hoff⟩ := hee
            subst hee
            rw [he] at hte'; injection hte' with hte'; subst hte'
            split at ha
            · cases ha
            · rename_i old ho
              obtain ⟨olds, holds, holen, hrunold⟩ := hold p hp old ho (C0 - cap)
              obtain ⟨holen', hoget⟩ := cut_get ho
              split at ha
              · cases ha
              · rename_i h1 hup
                split at ha
                · rename_i h2 nx2 hnew
                  injection ha with ha; injection ha with ha1 ha2; injection ha2 with ha2 ha3; subst ha1 ha2 ha3
                  obtain ⟨hnx, hget⟩ := newA_get hnew
                  have hgone : ∀ q, h1.get q = if q = m then none else h.get q := fun q => upd_get hup q
                  by_cases hfit : len + n ≤ C0 - cap
                  · -- in place: a new name for the old stretch
                    subst hnx
                    have hfnx : ρ nx = none := hf nx (Nat.le_refl _) (by omega)
                    have hcut := cut_eq ho
                    have hsize : (cap + (len + n)) * te.size ≤ C0 * te.size := Nat.mul_le_mul_right _ (by omega)
                    have hsz1 : (cap + (len + n)) * te.size = cap * te.size + (len * te.size + n * te.size) := by rw [Nat.add_mul, Nat.add_mul]
                    have hsz2 : (C0 - cap) * te.size + cap * te.size = C0 * te.size := by rw [← Nat.add_mul]; congr 1; omega
                    have hnl : news.length = n * te.size := by rw [hnews.length, hnlen]
                    have hrow := run_storeCells_at (P := P) p.block (p.off + (off + len * te.size)) e' news 0 c w hw (by omega) (allLeaf_mem hleaf hnews)
                    simp only [Nat.add_zero] at hrow
                    obtain ⟨c', hc'⟩ : ∃ c', c' = (c.toList.take (p.off + (off + len * te.size)) ++ news ++ c.toList.drop (p.off + (off + len * te.size) + news.length)).toArray := ⟨_, rfl⟩
                    rw [← hc'] at hrow
                    have hcl : c'.size = c.size := by rw [hc']; simp; omega
                    obtain ⟨hr', hx'⟩ := r.rename (h' := h2.get) (w' := w.setRow p.block c') (b' := .cells e' (old ++ new)) (p' := ⟨p.block, p.off + off, some (C0 - cap)⟩) (o' := .cells c' e' (0, 0)) hm hp hfnx
                      (fun q => by rw [hget q]; split <;> first | rfl | exact hgone q) (by simp) rfl rfl rfl rfl
                      (setRow_heap w _ c _ e' _ hw) (fun q hq => setRow_other w _ q _ hq) ⟨c', rfl, by simp [holen, hnlen, hcl]; omega, fun i a hi => by
                        by_cases hlo : i < len * te.size
                        · rw [List.getElem?_append_left (by omega)] at hi
                          rw [hoget i hlo] at hi
                          obtain ⟨v, hv, hr⟩ := hc _ a hi
                          refine ⟨v, ?_, hr⟩
                          rw [← hv, hc', List.getElem?_toArray, List.append_assoc, List.getElem?_append_left (by simp; omega), List.getElem?_take_of_lt (by show p.off + off + i < _; omega)]
                          simp [Nat.add_assoc]
                        · rw [List.getElem?_append_right (by omega)] at hi
                          obtain ⟨v, hv, hr⟩ := hnews.get hi
                          have hlt : i - old.length < news.length := by
                            rcases Nat.lt_or_ge (i - old.length) news.length with h1 | h1
                            · exact h1
                            · rw [List.getElem?_eq_none h1] at hv; cases hv
                          refine ⟨v, ?_, hr⟩
                          rw [← hv, hc', List.getElem?_toArray, List.append_assoc, List.getElem?_append_right (by simp; omega), List.getElem?_append_left (by simp; omega)]
                          congr 1; simp; omega, fun C' hC' => by
                        simp only [Option.some.injEq] at hC'; subst hC'
                        exact ⟨te, he, by simp [holen, hnlen]; omega, by rw [hcl]; simp only; omega⟩⟩
                    refine ⟨_, .slice (some (p.addr off)) (len + n) (C0 - cap), _, ?_, ?_, hr', hx'⟩
                    · rw [hrunA.fits _ _ hfit]
                      simp only [addr_add]
                      rw [show p.addr (off + len * te.size) = ⟨p.block, p.off + (off + len * te.size), none⟩ from rfl, hrow]
                      rfl
                    · have := VRel.opened (ρ := ρ.add nx ⟨p.block, p.off + off, some (C0 - cap)⟩) (Ren.add_at _ nx _) (C := C0 - cap) rfl 0 (len := len + n) (cap := 0) (by omega)
                      simpa [Place.addr] using this
                  · -- anew
                    obtain ⟨rF, xF⟩ := r.forget (h' := h1.get) (fun q c hq => by rw [hgone q] at hq; split at hq <;> first | cases hq | exact hq) nx
                    obtain ⟨ρ', cv, w', hrun, hv, hr', hx'⟩ := fresh (some (p.addr off)) (C0 - cap) old olds h1 h2 nx2 (by omega) holds holen rF hnew hf hrunold
                    exact ⟨ρ', cv, w', hrun, hv, hr', xF.trans hx'⟩
                · cases ha
    · cases ha
  all_goals (first | cases hls | skip)
  all_goals (simp only [appendA] at ha; cases ha)

theorem appendA_ok {T : Tab} {P : Program} {base : Nat} {ρ : Ren} {h h' : Heap} {w : World} {nx nx' : Nat} (ok : TabOk T P) (r : Rep T base ρ h.get w)
    {st xt ty e f : TypeId} {ti tx te : TI} (hst : T.types.get st = some ti) (hsd : ti.d = .slice e) (hxt : T.types.get xt = some tx) (hxd : tx.d = .slice f) (he : T.types.get e = some te)
    (hpos : 0 < te.size) {s x v : AV} {cs cx : Value} {n k : Nat} {new : List AV} (hs : VRel ρ s cs) (hx : VRel ρ x cx) (hlx : lenA x = some n) (hls : lenA s = some k) (hel : elemsOf h te.size n x = some new)
    (hleaf : allLeaf new = true) (hb1 : (k + n) * te.bytes ≤ 140737488355328) (hb2 : k + n ≤ 1000000000) (ha : appendA h nx e te.size n s new = some (v, h', nx')) (hf : Fresh ρ nx nx') :
    ∃ ρ' cv w', (Builtin.append_ #[st, xt] ty #[cs, cx]).run P w = .ok cv w' ∧ VRel ρ' v cv ∧ Rep T base ρ' h'.get w' ∧ Ext ρ h.get nx w ρ' h'.get nx' w' := by
  obtain ⟨i, d, z, hi⟩ := ok.types st ti hst
  obtain ⟨i2, d2, z2, hi2⟩ := ok.types xt tx hxt
  obtain ⟨ie, de, ze, hie⟩ := ok.types e te he
  have hus : P.underlying st = some (.slice e) := by rw [hi.und, tdOf_slice (hi.td.symm.trans hsd)]
  have hux : P.underlying xt = some (.slice f) := by rw [hi2.und, tdOf_slice (hi2.td.symm.trans hxd)]
  obtain ⟨news, hnews, hnlen, hrunx⟩ := elemsOf_ok (P := P) r hx hel
  obtain ⟨xb, xc, rfl⟩ := lenA_ok hx hlx
  have h63 : ((k + n : Nat) : Int) ≤ 9223372036854775807 := by omega
  rw [← hie.size] at hrunx
  refine appendA_gen r he hie hpos hs hls hnews hnlen ⟨fun b sCap hfit => ?_, fun b sCap olds hlt hrunold => ?_⟩ hleaf ha hf
  · rw [run_append_in hus hux hie.info (news := news) hfit (hrunx w rfl), hie.size]
  · rw [← hie.size] at hrunold
    exact run_append_out (P := P) (w := w) (ty := ty) hus hux hie.info hie.zero hlt hrunold hrunx h63 (growslice_fits (by omega) (by rw [hie.bytes]; exact hb1))

end Go.Tame
