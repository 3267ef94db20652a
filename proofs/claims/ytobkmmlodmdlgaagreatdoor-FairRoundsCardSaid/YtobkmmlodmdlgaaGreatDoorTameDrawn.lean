/- Regions whose order is drawn: what holds half way. -/
import Derived.Test.YtobkmmlodmdlgaaGreatDoorTameAround
set_option linter.all false
namespace Go.Tame
open Go

theorem putA_get {sz : Nat} {t t' : Env} {dst : Option Nat} {v : AV} (h : putA sz t dst v = some t') (x : Nat) : t'.get x = if dst = some x then some v else t.get x := by
  cases dst with
  | none => simp only [putA] at h; injection h with h; subst h; simp
  | some d =>
    simp only [putA] at h
    obtain ⟨h1, h2⟩ := ite_bool h
    injection h2 with h2; subst h2
    simp only [Bool.and_eq_true, blt_true] at h1
    rw [Tr.get_put _ _ _ _ _ (by have := D_pow; omega)]
    by_cases hx : x = d
    · subst hx; simp
    · rw [if_neg hx, if_neg (by intro h; injection h with h; exact hx h.symm)]

theorem putA_any {sz : Nat} {t t' u : Env} {dst : Option Nat} {v : AV} (h : putA sz t dst v = some t') : ∃ u', putA sz u dst v = some u' := by
  cases dst with
  | none => exact ⟨u, rfl⟩
  | some d =>
    simp only [putA] at h ⊢
    obtain ⟨h1, _⟩ := ite_bool h
    rw [h1]; exact ⟨_, rfl⟩

section
variable {T : Tab} {sz : Nat} {call : CallF} {round : RoundF} {ops : Array Oper} {pl : Plan} {S : Nat → RS} {V : Nat → AV} {B : Nat → Bool} {t0 : Env} {h0 : Heap} {nx0 : Nat} (W : Way T sz call round ops pl S V B t0 h0 nx0)
include W

theorem Way.oneWriter {i j : Nat} {o o' : Oper} {d : Nat} (ho : ops[i]? = some o) (ho' : ops[j]? = some o') (hd : o.dst = some d) (hd' : o'.dst = some d) : i = j := by
  by_cases h : i = j
  · exact h
  · exact absurd hd (W.facts.tmp i j o o' d ho ho' h hd').1

theorem Way.tget : ∀ {i : Nat}, i ≤ ops.size → (∀ j o d, j < i → ops[j]? = some o → o.dst = some d → (S i).t.get d = some (V j)) ∧ (∀ x, (∀ j o, j < i → ops[j]? = some o → o.dst ≠ some x) → (S i).t.get x = t0.get x)
  | 0, _ => ⟨fun j o d h => by omega, fun x _ => by rw [W.start]⟩
  | i + 1, hi => by
    obtain ⟨ih1, ih2⟩ := Way.tget (i := i) (by omega)
    obtain ⟨o, p, ho, hp⟩ := W.ent (i := i) (by omega)
    have st := W.step i o p ho hp
    refine ⟨fun j o' d hj ho' hd => ?_, fun x hx => ?_⟩
    · rw [putA_get st.put]
      by_cases hji : j = i
      · subst hji; rw [ho] at ho'; injection ho' with ho'; subst ho'; rw [if_pos hd]
      · rw [if_neg fun h => hji (W.oneWriter ho' ho hd h)]
        exact ih1 j o' d (by omega) ho' hd
    · rw [putA_get st.put, if_neg (hx i o (by omega) ho)]
      exact ih2 x fun j o' hj ho' => hx j o' (by omega) ho'

end

/-- half way through a region: L has been done, k writers among it -/
structure Inv (T : Tab) (sz base : Nat) (ops : Array Oper) (pl : Plan) (S : Nat → RS) (V : Nat → AV) (t0 : Env) (h0 : Heap) (nx0 : Nat) (ρ0 : Ren) (w0 : World) (dfr : List Deferred) (L : Nat → Prop) (k : Nat) (ρ : Ren) (a : Act) (w : World) : Prop where
  down : ∀ i o, ops[i]? = some o → L i → ∀ e ∈ o.after, Region.binds .any e = true → L e.on
  kle : k ≤ (writersA 0 pl).length
  wr : ∀ j x, (writersA 0 pl)[j]? = some x → (L x ↔ j < k)
  env : ∃ tr, ERel ρ sz tr a.tmps ∧ (∀ i o d, ops[i]? = some o → L i → o.dst = some d → tr.get d = some (V i)) ∧ (∀ x, (∀ i o, ops[i]? = some o → L i → o.dst ≠ some x) → tr.get x = t0.get x)
  mem : ∃ hl : HF, Rep T base ρ hl w ∧ Ext ρ0 h0.get nx0 w0 ρ hl (S ops.size).nx w ∧
    (∀ q m b cp, (S ops.size).pcs.get q = some (m, b, cp) → L q → k ≤ cp → hl m = some b) ∧
    (∀ x Hk, (S ops.size).hs.get k = some Hk → (∀ q m b cp, (S ops.size).pcs.get q = some (m, b, cp) → L q → k ≤ cp → m ≠ x) → hl x = Hk.get x)
  dis : ∀ x b Hk, (S ops.size).hs.get k = some Hk → Hk.get x = some b → ∀ q m b' cp, (S ops.size).pcs.get q = some (m, b', cp) → k ≤ cp → m ≠ x
  fresh : ∀ i, i < ops.size → ¬ L i → Fresh ρ (S i).nx (S (i + 1)).nx
  dfr : a.defers = dfr

section
variable {T : Tab} {sz base : Nat} {call : CallF} {round : RoundF} {ops : Array Oper} {pl : Plan} {S : Nat → RS} {V : Nat → AV} {B : Nat → Bool} {t0 : Env} {h0 : Heap} {nx0 : Nat} (W : Way T sz call round ops pl S V B t0 h0 nx0)
variable {ρ0 : Ren} {w0 : World} {dfr : List Deferred} {L : Nat → Prop} {k : Nat} {ρ : Ren} {a : Act} {w : World} (I : Inv T sz base ops pl S V t0 h0 nx0 ρ0 w0 dfr L k ρ a w)
variable {i : Nat} {o : Oper} {p : PI} (ho : ops[i]? = some o) (hp : pl[i]? = some p) (hnot : ¬ L i) (hready : ∀ e ∈ o.after, Region.binds .any e = true → L e.on)

include I ho hready in
theorem Inv.ahead {j : Nat} (hb : bef (ancGo ops.toList []) j i = true) : L j := bef_listed I.down i o ho hready j hb

include I in
theorem Inv.behind {x j : Nat} {o : Oper} (ho : ops[x]? = some o) (hx : L x) (hb : bef (ancGo ops.toList []) j x = true) : L j := bef_listed I.down x o ho (I.down x o ho hx) j hb

include W I ho hnot hready in
theorem Inv.looks {tr : Env} (h1 : ∀ i o d, ops[i]? = some o → L i → o.dst = some d → tr.get d = some (V i)) (h2 : ∀ x, (∀ i o, ops[i]? = some o → L i → o.dst ≠ some x) → tr.get x = t0.get x) {x : Nat} (hx : x ∈ o.looksAt ops) : tr.get x = (S i).t.get x := by
  have hi := W.lt ho
  obtain ⟨g1, g2⟩ := W.tget (i := i) (by omega)
  by_cases hw : ∃ j o', j ≠ i ∧ ops[j]? = some o' ∧ o'.dst = some x
  · obtain ⟨j, o', hji, ho', hd⟩ := hw
    rcases (W.facts.tmp i j o o' x ho ho' (Ne.symm hji) hd).2 hx with ⟨hlt, hb⟩ | ⟨hlt, hb⟩
    · rw [h1 j o' x ho' (I.ahead ho hready hb) hd, g1 j o' x hlt ho' hd]
    · have hnj : ¬ L j := fun h => hnot (I.behind ho' h hb)
      rw [h2 x fun q o2 ho2 hq hd2 => hnj (by have := W.oneWriter ho2 ho' hd2 hd; subst this; exact hq), g2 x fun q o2 hq ho2 hd2 => hlt (by have := W.oneWriter ho2 ho' hd2 hd; omega)]
  · rw [h2 x fun q o2 ho2 hq hd2 => hw ⟨q, o2, fun e => hnot (e ▸ hq), ho2, hd2⟩, g2 x fun q o2 hq ho2 hd2 => hw ⟨q, o2, by omega, ho2, hd2⟩]

include W I ho hp hnot in
/-- the temporaries behind an operation -/
theorem Inv.envStep {ρ' : Ren} {cv : Value} (hle : ρ.le ρ') (hv : VRel ρ' (V i) cv) : ∃ tr, ERel ρ' sz tr (a.put o.dst cv).tmps ∧ (∀ j o d, ops[j]? = some o → (L j ∨ j = i) → o.dst = some d → tr.get d = some (V j)) ∧
    (∀ x, (∀ j o, ops[j]? = some o → (L j ∨ j = i) → o.dst ≠ some x) → tr.get x = t0.get x) := by
  obtain ⟨tr, e, h1, h2⟩ := I.env
  have st := W.step i o p ho hp
  obtain ⟨tr', hput⟩ := putA_any (u := tr) st.put
  refine ⟨tr', (e.mono hle).put hput hv, fun j o' d ho' hj hd => ?_, fun x hx => ?_⟩
  · rw [putA_get hput]
    by_cases hji : j = i
    · subst hji; rw [ho] at ho'; injection ho' with ho'; subst ho'; rw [if_pos hd]
    · rw [if_neg fun h => hji (W.oneWriter ho' ho hd h)]
      exact h1 j o' d ho' (hj.resolve_right hji) hd
  · rw [putA_get hput, if_neg (hx i o ho (.inr rfl))]
    exact h2 x fun j o' ho' hj => hx j o' ho' (.inl hj)

variable (hc : ∀ f args h nx v h' nx', call f args h nx = some (v, h', nx') → nx ≤ nx') (hd : ∀ f args h nx v h' nx', round f args h nx = some (v, h', nx') → nx ≤ nx')

include W I ho hc hd in
theorem Inv.freshStep {ρ' : Ren} {hg hg' : HF} {cnt cnt' : Nat} {w' : World} (e : Ext ρ hg cnt w ρ' hg' cnt' w') (hr : cnt = cnt' ∨ (cnt = (S i).nx ∧ cnt' = (S (i + 1)).nx)) :
    ∀ j, j < ops.size → ¬ (L j ∨ j = i) → Fresh ρ' (S j).nx (S (j + 1)).nx := by
  intro j hj hnj m hm1 hm2
  rw [e.out m ?_]
  · exact I.fresh j hj (fun h => hnj (.inl h)) m hm1 hm2
  · rcases hr with h | ⟨h1, h2⟩
    · omega
    · have hi := W.lt ho
      have hji : j ≠ i := fun h => hnj (.inr h)
      rcases Nat.lt_or_ge j i with hlt | hge
      · have := (W.upto hc hd (i := j + 1) (j := i) (by omega) (by omega)).1; omega
      · have := (W.upto hc hd (i := i + 1) (j := j) (by omega) (by omega)).1; omega

include W hc hd in
theorem Way.small {q m cp : Nat} {b : Blk} (h : (S ops.size).pcs.get q = some (m, b, cp)) : m < 1000000000 := by
  obtain ⟨_, _, _, _, _, _, _, _, _, _, _, _, hn⟩ := W.piece hc hd h
  exact (newA_cnt hn).2.2

include W I hc hd in
/-- memory as the evaluator has it, as far as needed, is there -/
theorem Inv.part {hl : HF} (h1 : ∀ q m b cp, (S ops.size).pcs.get q = some (m, b, cp) → L q → k ≤ cp → hl m = some b)
    (h2 : ∀ x Hk, (S ops.size).hs.get k = some Hk → (∀ q m b cp, (S ops.size).pcs.get q = some (m, b, cp) → L q → k ≤ cp → m ≠ x) → hl x = Hk.get x)
    {needs : List Nat} (hn : ∀ q ∈ needs, L q ∨ ops.size ≤ q) {Hk : Heap} (hH : (S ops.size).hs.get k = some Hk) {x : Nat} {b : Blk} (hx : (addPcs (S ops.size).pcs k Hk needs).get x = some b) : hl x = some b := by
  rcases addPcs_get (fun q m b cp h => W.small hc hd h) (pcs := (S ops.size).pcs) (l := k) (h := Hk) (needs := needs) (x := x) with ⟨q, hq, b', cp, hpc, hle, hget⟩ | ⟨_, hget⟩
  · rw [hget] at hx; injection hx with hx; subst hx
    rcases hn q hq with h | h
    · exact h1 q x b' cp hpc h hle
    · rw [W.pcsNone hc hd (Nat.le_refl _) q h] at hpc; cases hpc
  · rw [hget] at hx
    rw [h2 x Hk hH fun q m b' cp hpc _ hle => I.dis x b Hk hH hx q m b' cp hpc hle]
    exact hx

end
end Go.Tame
