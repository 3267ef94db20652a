/- Regions whose order is drawn, whole. -/
import Derived.Test.YtobkmmlodmdlgaaGreatDoorTameDrawn2
set_option linter.all false
namespace Go.Tame
open Go

mutual
theorem same_eq : ∀ {a b : AV}, same a b = true → a = b
  | .int k n, b, h => by cases b <;> simp [same] at h; simp [h]
  | .bool x, b, h => by cases b <;> simp [same] at h; simp [h]
  | .ptr m o, b, h => by cases b <;> simp [same] at h; simp [h]
  | .gptr m o, b, h => by cases b <;> simp [same] at h; simp [h]
  | .nilptr, b, h => by cases b <;> simp [same] at h; rfl
  | .slice m o l c p, b, h => by cases b <;> simp [same] at h; simp [h]
  | .empty, b, h => by cases b <;> simp [same] at h; rfl
  | .nilslice, b, h => by cases b <;> simp [same] at h; rfl
  | .map m, b, h => by cases b <;> simp [same] at h; simp [h]
  | .nilmap, b, h => by cases b <;> simp [same] at h; rfl
  | .func f x y, b, h => by
    cases b <;> simp [same] at h
    obtain ⟨⟨rfl, h1⟩, h2⟩ := h
    rw [sames_eq h1, sames_eq h2]
  | .yield m, b, h => by cases b <;> simp [same] at h
  | .nilfunc, b, h => by cases b <;> simp [same] at h; rfl
  | .niliface, b, h => by cases b <;> simp [same] at h; rfl
  | .iface t v, b, h => by
    cases b <;> simp [same] at h
    obtain ⟨rfl, h1⟩ := h
    rw [same_eq h1]
  | .agg x, b, h => by
    cases b <;> simp [same] at h
    rw [sames_eq h]
  | .tup x, b, h => by
    cases b <;> simp [same] at h
    rw [sames_eq h]
  | .con v, b, h => by cases b <;> simp [same] at h
theorem sames_eq : ∀ {a b : List AV}, sames a b = true → a = b
  | [], b, h => by cases b <;> simp [sames] at h; rfl
  | x :: xs, b, h => by
    cases b <;> simp [sames] at h
    rw [same_eq h.1, sames_eq h.2]
end

theorem levelsA_at {T : Tab} {s : RS} {op : Op} {needs : List Nat} {t : Env} {v : AV} : ∀ {n l j : Nat}, levelsA T s op needs t v n l = true → l ≤ j → j < l + n → ∃ h v' h' nx', s.mem j needs = some h ∧ opA T t h s.nx op = some (.val v' h' nx') ∧ v = v'
  | 0, l, j, _, h1, h2 => by omega
  | n + 1, l, j, h, h1, h2 => by
    simp only [levelsA] at h
    split at h
    · rename_i hh hm
      split at h
      · rename_i v' h' nx' hop
        simp only [Bool.and_eq_true] at h
        by_cases hj : j = l
        · subst hj; exact ⟨hh, v', h', nx', hm, hop, same_eq h.1⟩
        · exact levelsA_at h.2 (by omega) (by omega)
      · cases h
    · cases h

theorem looksA_at {T : Tab} {s : RS} {ops : Array Oper} : ∀ {os : List Oper} {pl : Plan} {b i : Nat} {o : Oper} {p : PI}, looksA T s ops b os pl = true → os[i]? = some o → pl[i]? = some p → p.cls = 1 → p.lo < p.hi →
    ∃ t v, s.vs.get (b + i) = some (t, v) ∧ (wantedA t ops o = some true → levelsA T s o.op p.needs t v (p.hi + 1 - p.lo) p.lo = true)
  | [], pl, b, i, o, p, _, h, _, _, _ => by simp at h
  | _ :: _, [], b, i, o, p, _, _, h, _, _ => by simp at h
  | q :: os, r :: pl, b, i, o, p, h, ho, hp, hcls, hlt => by
    simp only [looksA, Bool.and_eq_true] at h
    cases i with
    | succ i => simp at ho hp; have := looksA_at h.2 ho hp hcls hlt; rw [Nat.add_assoc, Nat.add_comm 1 i] at this; exact this
    | zero =>
      simp at ho hp; subst ho hp
      have h1 := h.1
      have h2 : (Nat.beq r.cls 1 && Nat.blt r.lo r.hi) = true := by simp only [Bool.and_eq_true, beq_true, blt_true]; exact ⟨hcls, hlt⟩
      rw [h2] at h1; simp only [cond_true] at h1
      split at h1
      · rename_i t v hv
        refine ⟨t, v, hv, fun hw => ?_⟩
        rw [hw] at h1; exact h1
      · cases h1

section
variable {T : Tab} {P : Program} {sz base : Nat} {call : CallF} {round : RoundF} (ok : TabOk T P) (ov : OverOk T) (hcO : CallOk T P base call) (hdO : RoundOk T P base round)
variable {ops : Array Oper} {pl : Plan} {S : Nat → RS} {V : Nat → AV} {B : Nat → Bool} {t0 : Env} {h0 : Heap} {nx0 : Nat} (W : Way T sz call round ops pl S V B t0 h0 nx0)
variable {ρ0 : Ren} {w0 : World} {dfr : List Deferred} {L : Nat → Prop} {k : Nat} {ρ : Ren} {a : Act} {w : World} (I : Inv T sz base ops pl S V t0 h0 nx0 ρ0 w0 dfr L k ρ a w)
variable {i : Nat} {o : Oper} (ho : ops[i]? = some o) (hnot : ¬ L i) (hready : ∀ e ∈ o.after, Region.binds .any e = true → L e.on)
include ok ov hcO hdO W I ho hnot hready

theorem Inv.op {ro : Option Nat} {K : Act → World → Prop} {Q : Exit → Act → World → Prop} (hK : ∀ k' ρ' a' w', Inv T sz base ops pl S V t0 h0 nx0 ρ0 w0 dfr (fun j => L j ∨ j = i) k' ρ' a' w' → K a' w') : wpOpIn (FW ro) 0 P ops Q i K a w := by
  have hc : ∀ f args h nx v h' nx', call f args h nx = some (v, h', nx') → nx ≤ nx' := fun f args h nx v h' nx' he => (hcO f args h nx v h' nx' he).1
  have hd : ∀ f args h nx v h' nx', round f args h nx = some (v, h', nx') → nx ≤ nx' := fun f args h nx v h' nx' he => (hdO f args h nx v h' nx' he).1
  obtain ⟨p, hp⟩ := W.plan ho
  have hi := W.lt ho
  have st := W.step i o p ho hp
  have lev := W.facts.lev i p hp
  obtain ⟨tr, etr, e1, e2⟩ := I.env
  obtain ⟨hl, hrep, hext, m1, m2⟩ := I.mem
  obtain ⟨n1, n2, n3, n4⟩ := I.nxs W ho hp hnot hready hc hd
  have hlook : ∀ x ∈ o.looksAt ops, tr.get x = (S i).t.get x := fun x hx => I.looks W ho hnot hready e1 e2 hx
  have hval : ∀ y ∈ o.op.operands, val tr y = val (S i).t y := fun y hy => by
    cases y with
    | tmp d => exact hlook d (List.mem_append_left _ (List.mem_filterMap.2 ⟨.tmp d, by simpa using hy, rfl⟩))
    | _ => rfl
  have hwant : wantedA tr ops o = wantedA (S i).t ops o := by
    unfold wantedA
    cases hg : o.guard with
    | none => rfl
    | some gw =>
      obtain ⟨j, want⟩ := gw
      simp only
      cases hd' : (ops[j]?).bind (·.dst) with
      | none => rfl
      | some d =>
        simp only
        rw [hlook d (by simp [Oper.looksAt, hg, hd'])]
  have hop : ∀ (h : Heap) (nx : Nat), opA T tr h nx o.op = opA T (S i).t h nx o.op := fun h nx => opA_congr hval
  have hw := wanted_ok etr (hwant.trans st.want)
  have nilRep : Rep T base ρ (Tr.nil : Heap).get w := hrep.sub fun m b h => by cases h
  have nopiece : (S (i + 1)).pcs = (S i).pcs → (S ops.size).pcs.get i = none := fun h => by
    rw [(W.upto hc hd (i := i + 1) (j := ops.size) (by omega) (Nat.le_refl _)).2.2.1 i (by omega), h]
    exact W.pcsNone hc hd (by omega) i (Nat.le_refl _)
  unfold wpOpIn
  simp only [ho, hw]
  rcases st.what with g | g | g | g | g
  · obtain ⟨g1, g2, g3, bl, h', g4, g5, g6, g7, g8, g9⟩ := g
    rw [g2, if_pos rfl]
    have hpc := W.pieceOf hc hd ho hp g9
    have hf := I.fresh i hi hnot
    rw [g6] at hf
    refine oper_ok ok ov hcO hdO ((hop _ _).trans g4) rfl nilRep etr hf fun ρ' cv w' hv hr' hx' => hK k ρ' _ w' ?_
    refine I.made W ho hp hnot hready hc hd g1 hpc hv ?_ hr' hx'
    obtain ⟨_, rfl, hlt⟩ := newA_cnt g5
    rw [Tr.get_put _ _ _ _ _ (by have := D_pow; omega), if_pos rfl]
  · obtain ⟨g1, g2, g3, g4, g5, g6, g7⟩ := g
    rw [g2, if_pos rfl]
    refine oper_ok ok ov hcO hdO ((hop _ _).trans g3) rfl nilRep etr (fun m h1 h2 => by omega) fun ρ' cv w' hv hr' hx' => hK k ρ' _ w' ?_
    exact I.quiet W ho hp hnot hready hc hd (by omega) (nopiece g7) hv (fun _ _ _ x b hx => by cases hx) (fun _ => rfl) hr' hx' ⟨n1, by omega⟩
  · obtain ⟨g1, g2, g3, g4, g5, g6, g7⟩ := g
    rw [g2]; simp only [Bool.false_eq_true, if_false]
    refine ⟨fun _ _ => trivial, hK k ρ _ w ?_⟩
    exact I.quiet W ho hp hnot hready hc hd g1 (nopiece g7) (by rw [g3]; exact undefRel) (fun _ _ _ x b hx => by cases hx) (fun _ => rfl) nilRep (Ext.refl _ _ (S i).nx _) ⟨n1, by omega⟩
  · obtain ⟨g1, g2, g3, ⟨hh, g4, g4'⟩, g5, g6, g7, g8⟩ := g
    rw [g2, if_pos rfl]
    have hlo : p.lo ≤ k := by
      rcases Nat.lt_or_ge k p.lo with hlt | hge
      · obtain ⟨x, hx, hb⟩ := lev.low g1 (p.lo - 1) (by omega)
        have := (I.wr _ x hx).1 (I.ahead ho hready hb)
        omega
      · exact hge
    have hhi : k ≤ p.hi := by
      rcases lev.high g1 with ⟨x, hx, hb⟩ | h
      · rcases Nat.lt_or_ge p.hi k with hlt | hge
        · have hLx := (I.wr _ x hx).2 hlt
          obtain ⟨q, hq, _⟩ := W.facts.is_ _ x hx
          have : x < ops.size := by rw [← W.facts.len]; exact (List.getElem?_eq_some_iff.1 hq).1
          exact absurd (I.behind (Array.getElem?_eq_getElem this) hLx hb) hnot
        · exact hge
      · rw [h]; exact I.kle
    obtain ⟨k1, k2⟩ := lev.here g1
    have hneeds : ∀ q ∈ p.needs, q < i := fun q hq => (lev.needs (by omega) q hq).1
    have hneedsL : ∀ q ∈ p.needs, L q ∨ ops.size ≤ q := fun q hq => .inl (I.ahead ho hready (lev.needs (by omega) q hq).2)
    have hkk := W.k (i := i) (by omega)
    have found : ∃ h cnt h' cnt', (S ops.size).mem k p.needs = some h ∧ opA T (S i).t h cnt o.op = some (.val (V i) h' cnt') ∧ nx0 ≤ cnt ∧ cnt ≤ (S ops.size).nx := by
      by_cases hlt : p.lo < p.hi
      · obtain ⟨t, v, hv, hlev⟩ := looksA_at W.looks (by simpa using ho) hp g1 hlt
        rw [Nat.zero_add, W.val hc hd hi] at hv
        injection hv with hv; simp only [Prod.mk.injEq] at hv; obtain ⟨rfl, rfl⟩ := hv
        obtain ⟨h, v', h', nx', q1, q2, q3⟩ := levelsA_at (hlev (by rw [st.want, g2])) hlo (by omega)
        exact ⟨h, _, h', nx', q1, by rw [q3]; exact q2, n4, Nat.le_refl _⟩
      · have hk : (S i).k = k := by omega
        refine ⟨hh, _, hh, _, ?_, g4', n1, by omega⟩
        rw [← g4, hk]
        exact (W.mem hc hd (by omega) (by omega) hneeds).symm
    obtain ⟨h, cnt, h', cnt', q1, q2, q3, q4⟩ := found
    obtain ⟨rfl, rfl⟩ := opA_idle g3 q2
    unfold RS.mem at q1
    split at q1
    · rename_i Hk hH
      injection q1 with q1; subst q1
      have hsub : ∀ x b, (addPcs (S ops.size).pcs k Hk p.needs).get x = some b → hl x = some b := fun x b hx => I.part W hc hd m1 m2 hneedsL hH hx
      refine oper_ok ok ov hcO hdO ((hop _ _).trans q2) rfl (hrep.sub hsub) etr (fun m h1 h2 => by omega) fun ρ' cv w' hv hr' hx' => hK k ρ' _ w' ?_
      exact I.quiet W ho hp hnot hready hc hd (by omega) (nopiece g8) hv (fun hl' f1 f2 x b hx => I.part W hc hd f1 f2 hneedsL hH hx) (fun _ => rfl) hr' hx' ⟨q3, q4⟩
    · cases q1
  · obtain ⟨g1, ⟨hh, h', g2, g3, g4⟩, g5, g6⟩ := g
    have hk : wcount pl i = k := by
      have hat := W.facts.at_ i p hp g1
      rcases Nat.lt_trichotomy (wcount pl i) k with h | h | h
      · exact absurd ((I.wr _ i hat).2 h) hnot
      · exact h
      · obtain ⟨x, hx⟩ : ∃ x, (writersA 0 pl)[wcount pl i - 1]? = some x := ⟨_, List.getElem?_eq_getElem (by have := (List.getElem?_eq_some_iff.1 hat).1; omega)⟩
        have hb := W.facts.chain (wcount pl i - 1) x i hx (by rw [show wcount pl i - 1 + 1 = wcount pl i by omega]; exact hat)
        have := (I.wr _ x hx).1 (I.ahead ho hready hb)
        omega
    have hkk := W.k (i := i) (by omega)
    have hneeds : ∀ q ∈ p.needs, q < i := fun q hq => (lev.needs (by omega) q hq).1
    have hneedsL : ∀ q ∈ p.needs, L q ∨ ops.size ≤ q := fun q hq => .inl (I.ahead ho hready (lev.needs (by omega) q hq).2)
    have hmem := g2
    rw [W.mem hc hd (by omega) (Nat.le_refl _) hneeds, hkk, hk] at hmem
    unfold RS.mem at hmem
    split at hmem
    · rename_i Hk hH
      injection hmem with hmem; subst hmem
      have hH' : (S ops.size).hs.get (k + 1) = some h' := by
        rw [(W.upto hc hd (i := i + 1) (j := ops.size) (by omega) (Nat.le_refl _)).2.2.2.1 (k + 1) (by omega), g3, hkk, hk, Tr.get_put _ _ _ _ _ (by have := W.facts.small; have := W.kle (i := i) (by omega); have := D_pow; omega), if_pos rfl]
      have hsub : ∀ x b, (addPcs (S ops.size).pcs k Hk p.needs).get x = some b → hl x = some b := fun x b hx => I.part W hc hd m1 m2 hneedsL hH hx
      rcases g4 with ⟨f1, f2, f3, f4⟩ | ⟨f1, x, f2, f3⟩
      · rw [f1]; simp only [Bool.false_eq_true, if_false]
        refine ⟨fun _ _ => trivial, hK (k + 1) ρ _ w ?_⟩
        refine I.wrote W ho hp hnot hready hc hd g1 hH hH' (by rw [f2]; exact undefRel) hk ?_ ?_
        · rw [f3]; exact hrep.sub hsub
        · rw [f3, f4]; exact Ext.refl _ _ _ _
      · rw [f1, if_pos rfl]
        exact oper_ok ok ov hcO hdO ((hop _ _).trans f2) f3 (hrep.sub hsub) etr (I.fresh i hi hnot) fun ρ' cv w' hv hr' hx' => hK (k + 1) ρ' _ w' (I.wrote W ho hp hnot hready hc hd g1 hH hH' hv hk hr' hx')
    · cases hmem

end
end Go.Tame
