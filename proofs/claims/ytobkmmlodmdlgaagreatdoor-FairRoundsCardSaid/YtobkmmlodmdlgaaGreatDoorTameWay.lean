/- A region's way: what stays, what each operation found. -/
import Derived.Test.YtobkmmlodmdlgaaGreatDoorTameTrace
set_option linter.all false
namespace Go.Tame
open Go

structure Way (T : Tab) (sz : Nat) (call : CallF) (round : RoundF) (ops : Array Oper) (pl : Plan) (S : Nat → RS) (V : Nat → AV) (B : Nat → Bool) (t0 : Env) (h0 : Heap) (nx0 : Nat) : Prop where
  facts : PlanFacts ops pl (ancGo ops.toList []) (writersA 0 pl)
  start : S 0 = ⟨t0, nx0, 0, Tr.put (some h0) D .nil 0, .nil, .nil⟩
  step : ∀ i o p, ops[i]? = some o → pl[i]? = some p → OneSpec T sz call round ops i o p (S i) (S (i + 1)) (B i) (V i)
  looks : looksA T (S ops.size) ops 0 ops.toList pl = true

theorem wcount_succ : ∀ {pl : Plan} {i : Nat} {p : PI}, pl[i]? = some p → wcount pl (i + 1) = wcount pl i + if 2 ≤ p.cls then 1 else 0
  | [], i, p, h => by simp at h
  | q :: ps, 0, p, h => by simp at h; subst h; simp only [wcount]; cases ps <;> simp [wcount]
  | q :: ps, i + 1, p, h => by
    simp at h
    have := wcount_succ (pl := ps) h
    simp only [wcount] at this ⊢
    omega

section
variable {T : Tab} {sz : Nat} {call : CallF} {round : RoundF} {ops : Array Oper} {pl : Plan} {S : Nat → RS} {V : Nat → AV} {B : Nat → Bool} {t0 : Env} {h0 : Heap} {nx0 : Nat} (W : Way T sz call round ops pl S V B t0 h0 nx0)
include W

theorem Way.ent {i : Nat} (hi : i < ops.size) : ∃ o p, ops[i]? = some o ∧ pl[i]? = some p :=
  ⟨ops[i], pl[i]'(by rw [W.facts.len]; exact hi), Array.getElem?_eq_getElem hi, List.getElem?_eq_getElem _⟩

theorem Way.lt {i : Nat} {o : Oper} (ho : ops[i]? = some o) : i < ops.size := (Array.getElem?_eq_some_iff.1 ho).1

theorem Way.plan {i : Nat} {o : Oper} (ho : ops[i]? = some o) : ∃ p, pl[i]? = some p := let ⟨_, p, _, hp⟩ := W.ent (W.lt ho); ⟨p, hp⟩

theorem Way.k : ∀ {i : Nat}, i ≤ ops.size → (S i).k = wcount pl i
  | 0, _ => by rw [W.start]; cases pl <;> rfl
  | i + 1, hi => by
    obtain ⟨o, p, ho, hp⟩ := W.ent (i := i) (by omega)
    have st := W.step i o p ho hp
    rw [wcount_succ hp, ← Way.k (i := i) (by omega)]
    rcases st.what with h | h | h | h | h
    · rw [if_neg (by omega)]; obtain ⟨_, _, _, _, _, _, _, _, hk, _⟩ := h; omega
    · rw [if_neg (by omega)]; obtain ⟨_, _, _, _, hk, _⟩ := h; omega
    · rw [if_neg (by omega)]; obtain ⟨_, _, _, _, hk, _⟩ := h; omega
    · rw [if_neg (by omega)]; obtain ⟨_, _, _, _, _, hk, _⟩ := h; omega
    · rw [if_pos h.1]; exact h.2.2.1

theorem Way.kle {i : Nat} (hi : i ≤ ops.size) : (S i).k ≤ i := by
  rw [W.k hi]
  have : ∀ (ps : Plan) (i : Nat), wcount ps i ≤ i := by
    intro ps
    induction ps with
    | nil => intro i; simp [wcount]
    | cons p ps ih => intro i; cases i with
      | zero => simp [wcount]
      | succ i => simp only [wcount]; have := ih i; split <;> omega
  exact this pl i

/-- one step later -/
theorem Way.next (hc : ∀ f args h nx v h' nx', call f args h nx = some (v, h', nx') → nx ≤ nx') (hd : ∀ f args h nx v h' nx', round f args h nx = some (v, h', nx') → nx ≤ nx') {i : Nat} (hi : i < ops.size) :
    (S i).nx ≤ (S (i + 1)).nx ∧ (S i).k ≤ (S (i + 1)).k ∧ (∀ q, q ≠ i → (S (i + 1)).pcs.get q = (S i).pcs.get q) ∧ (∀ l, l ≤ (S i).k → (S (i + 1)).hs.get l = (S i).hs.get l) ∧ (∀ q, q ≠ i → (S (i + 1)).vs.get q = (S i).vs.get q) := by
  obtain ⟨o, p, ho, hp⟩ := W.ent hi
  have st := W.step i o p ho hp
  have hs := W.facts.small
  have hpow := D_pow
  have hk := W.kle (i := i) (by omega)
  have hvs : ∀ q, q ≠ i → (S (i + 1)).vs.get q = (S i).vs.get q := fun q hq => by rw [st.vs, Tr.get_put _ _ _ _ _ (by omega), if_neg hq]
  rcases st.what with h | h | h | h | h
  · obtain ⟨_, _, _, bl, h', _, _, h1, h2, h3, h4⟩ := h
    exact ⟨by omega, by omega, fun q hq => by rw [h4, Tr.get_put _ _ _ _ _ (by omega), if_neg hq], fun l _ => by rw [h3], hvs⟩
  · obtain ⟨_, _, _, h1, h2, h3, h4⟩ := h
    exact ⟨by omega, by omega, fun q hq => by rw [h4], fun l _ => by rw [h3], hvs⟩
  · obtain ⟨_, _, _, h1, h2, h3, h4⟩ := h
    exact ⟨by omega, by omega, fun q hq => by rw [h4], fun l _ => by rw [h3], hvs⟩
  · obtain ⟨_, _, _, _, h1, h2, h3, h4⟩ := h
    exact ⟨by omega, by omega, fun q hq => by rw [h4], fun l _ => by rw [h3], hvs⟩
  · obtain ⟨_, ⟨hh, h', _, h3, h5⟩, h2, h4⟩ := h
    refine ⟨?_, by omega, fun q hq => by rw [h4], fun l hl => by rw [h3, Tr.get_put _ _ _ _ _ (by omega), if_neg (by omega)], hvs⟩
    rcases h5 with ⟨_, _, _, h1⟩ | ⟨_, x, hx, hr⟩
    · omega
    · cases x with
      | val u g n => simp only [resOf, Option.some.injEq, Prod.mk.injEq] at hr; obtain ⟨_, _, h1⟩ := hr; rw [← h1]; exact opA_cnt hx
      | enter f args => exact hc _ _ _ _ _ _ _ hr
      | round m args => exact hd _ _ _ _ _ _ _ hr

variable (hc : ∀ f args h nx v h' nx', call f args h nx = some (v, h', nx') → nx ≤ nx') (hd : ∀ f args h nx v h' nx', round f args h nx = some (v, h', nx') → nx ≤ nx')
include hc hd

theorem Way.later {i : Nat} : ∀ {d : Nat}, i + d ≤ ops.size → (S i).nx ≤ (S (i + d)).nx ∧ (S i).k ≤ (S (i + d)).k ∧ (∀ q, q < i → (S (i + d)).pcs.get q = (S i).pcs.get q) ∧ (∀ l, l ≤ (S i).k → (S (i + d)).hs.get l = (S i).hs.get l) ∧ (∀ q, q < i → (S (i + d)).vs.get q = (S i).vs.get q)
  | 0, _ => ⟨Nat.le_refl _, Nat.le_refl _, fun _ _ => rfl, fun _ _ => rfl, fun _ _ => rfl⟩
  | d + 1, h => by
    obtain ⟨a1, a2, a3, a4, a5⟩ := Way.later (i := i) (d := d) (by omega)
    obtain ⟨b1, b2, b3, b4, b5⟩ := W.next hc hd (i := i + d) (by omega)
    exact ⟨Nat.le_trans a1 b1, Nat.le_trans a2 b2, fun q hq => (b3 q (by omega)).trans (a3 q hq), fun l hl => (b4 l (by omega)).trans (a4 l hl), fun q hq => (b5 q (by omega)).trans (a5 q hq)⟩

theorem Way.upto {i j : Nat} (hij : i ≤ j) (hj : j ≤ ops.size) : (S i).nx ≤ (S j).nx ∧ (S i).k ≤ (S j).k ∧ (∀ q, q < i → (S j).pcs.get q = (S i).pcs.get q) ∧ (∀ l, l ≤ (S i).k → (S j).hs.get l = (S i).hs.get l) ∧ (∀ q, q < i → (S j).vs.get q = (S i).vs.get q) := by
  have := W.later hc hd (i := i) (d := j - i) (by omega)
  rw [show i + (j - i) = j by omega] at this
  exact this

theorem Way.pcsNone : ∀ {i : Nat}, i ≤ ops.size → ∀ q, i ≤ q → (S i).pcs.get q = none
  | 0, _, q, _ => by rw [W.start]; rfl
  | i + 1, hi, q, hq => by
    rw [(W.next hc hd (i := i) (by omega)).2.2.1 q (by omega)]
    exact Way.pcsNone (i := i) (by omega) q (by omega)

theorem Way.val {i : Nat} (hi : i < ops.size) : (S ops.size).vs.get i = some ((S i).t, V i) := by
  obtain ⟨o, p, ho, hp⟩ := W.ent hi
  rw [(W.upto hc hd (i := i + 1) (j := ops.size) (by omega) (Nat.le_refl _)).2.2.2.2 i (by omega), (W.step i o p ho hp).vs, Tr.get_put _ _ _ _ _ (by have := W.facts.small; have := D_pow; omega), if_pos rfl]

/-- a block that the region makes -/
theorem Way.piece {q m cp : Nat} {b : Blk} (h : (S ops.size).pcs.get q = some (m, b, cp)) :
    ∃ o p, ops[q]? = some o ∧ pl[q]? = some p ∧ p.cls = 0 ∧ p.cp = cp ∧ B q = true ∧ Oper.makes o.op = true ∧ m = (S q).nx ∧ (S (q + 1)).nx = m + 1 ∧ ∃ h', opA T (S q).t .nil m o.op = some (.val (V q) h' (m + 1)) ∧ newA .nil m b = some (h', m + 1) := by
  have hq : q < ops.size := by
    rcases Nat.lt_or_ge q ops.size with h1 | h1
    · exact h1
    · rw [W.pcsNone hc hd (Nat.le_refl _) q h1] at h; cases h
  obtain ⟨o, p, ho, hp⟩ := W.ent hq
  have st := W.step q o p ho hp
  rw [(W.upto hc hd (i := q + 1) (j := ops.size) (by omega) (Nat.le_refl _)).2.2.1 q (by omega)] at h
  have hno := W.pcsNone hc hd (i := q) (by omega) q (Nat.le_refl _)
  rcases st.what with g | g | g | g | g
  · obtain ⟨g1, g2, g3, bl, h', g4, g5, g6, g7, g8, g9⟩ := g
    rw [g9, Tr.get_put _ _ _ _ _ (by have := W.facts.small; have := D_pow; omega), if_pos rfl] at h
    injection h with h; simp only [Prod.mk.injEq] at h; obtain ⟨rfl, rfl, rfl⟩ := h
    exact ⟨o, p, ho, hp, g1, rfl, g2, g3, rfl, g6, h', g4, g5⟩
  · obtain ⟨_, _, _, _, _, _, g9⟩ := g; rw [g9, hno] at h; cases h
  · obtain ⟨_, _, _, _, _, _, g9⟩ := g; rw [g9, hno] at h; cases h
  · obtain ⟨_, _, _, _, _, _, _, g9⟩ := g; rw [g9, hno] at h; cases h
  · obtain ⟨_, _, _, g9⟩ := g; rw [g9, hno] at h; cases h

theorem Way.pieceOf {q : Nat} {o : Oper} {p : PI} {m : Nat} {bl : Blk} (ho : ops[q]? = some o) (hp : pl[q]? = some p) (hpc : (S (q + 1)).pcs = Tr.put (some (m, bl, p.cp)) D (S q).pcs q) : (S ops.size).pcs.get q = some (m, bl, p.cp) := by
  have hq := W.lt ho
  rw [(W.upto hc hd (i := q + 1) (j := ops.size) (by omega) (Nat.le_refl _)).2.2.1 q (by omega), hpc, Tr.get_put _ _ _ _ _ (by have := W.facts.small; have := D_pow; omega), if_pos rfl]

theorem Way.names {q q' m m' cp cp' : Nat} {b b' : Blk} (h : (S ops.size).pcs.get q = some (m, b, cp)) (h' : (S ops.size).pcs.get q' = some (m', b', cp')) (he : m = m') : q = q' := by
  obtain ⟨o, p, ho, _, _, _, _, _, h1, h2, _⟩ := W.piece hc hd h
  obtain ⟨o', p', ho', _, _, _, _, _, h1', h2', _⟩ := W.piece hc hd h'
  have l1 := W.lt ho
  have l2 := W.lt ho'
  rcases Nat.lt_trichotomy q q' with hlt | rfl | hlt
  · have := (W.upto hc hd (i := q + 1) (j := q') (by omega) (by omega)).1; omega
  · rfl
  · have := (W.upto hc hd (i := q' + 1) (j := q) (by omega) (by omega)).1; omega

omit hc hd in
omit W in
theorem addPcs_congr {a b : Tr (Nat × Blk × Nat)} {l : Nat} {h : Heap} : ∀ {needs : List Nat}, (∀ q ∈ needs, a.get q = b.get q) → addPcs a l h needs = addPcs b l h needs
  | [], _ => rfl
  | q :: qs, hq => by
    simp only [addPcs]
    rw [hq q (by simp), addPcs_congr fun x hx => hq x (by simp [hx])]

theorem Way.mem {i l : Nat} (hi : i ≤ ops.size) (hl : l ≤ (S i).k) {needs : List Nat} (hn : ∀ q ∈ needs, q < i) : (S i).mem l needs = (S ops.size).mem l needs := by
  obtain ⟨_, _, h3, h4, _⟩ := W.upto hc hd hi (Nat.le_refl _)
  unfold RS.mem
  rw [h4 l hl]
  split
  · rw [addPcs_congr fun q hq => (h3 q (hn q hq)).symm]
  · rfl

end

theorem addPcs_get {pcs : Tr (Nat × Blk × Nat)} {l : Nat} {h : Heap} (hsm : ∀ q m b cp, pcs.get q = some (m, b, cp) → m < 1000000000) : ∀ {needs : List Nat} {x : Nat},
    (∃ q ∈ needs, ∃ b cp, pcs.get q = some (x, b, cp) ∧ l ≤ cp ∧ (addPcs pcs l h needs).get x = some b) ∨ ((∀ q ∈ needs, ∀ b cp, pcs.get q = some (x, b, cp) → ¬ l ≤ cp) ∧ (addPcs pcs l h needs).get x = h.get x)
  | [], x => .inr ⟨fun q hq => (by cases hq), rfl⟩
  | q :: qs, x => by
    have ih := addPcs_get (l := l) (h := h) hsm (needs := qs) (x := x)
    have lift : (addPcs pcs l h (q :: qs)).get x = (addPcs pcs l h qs).get x → (∀ b cp, pcs.get q = some (x, b, cp) → ¬ l ≤ cp) →
        (∃ q' ∈ q :: qs, ∃ b cp, pcs.get q' = some (x, b, cp) ∧ l ≤ cp ∧ (addPcs pcs l h (q :: qs)).get x = some b) ∨ ((∀ q' ∈ q :: qs, ∀ b cp, pcs.get q' = some (x, b, cp) → ¬ l ≤ cp) ∧ (addPcs pcs l h (q :: qs)).get x = h.get x) := by
      intro he hno
      rcases ih with ⟨q', h1, b, cp, h2, h3, h4⟩ | ⟨h1, h2⟩
      · exact .inl ⟨q', by simp [h1], b, cp, h2, h3, he.trans h4⟩
      · refine .inr ⟨fun q' hq' => ?_, he.trans h2⟩
        rcases List.mem_cons.1 hq' with rfl | hq'
        · exact hno
        · exact h1 q' hq'
    cases hq : pcs.get q with
    | none => exact lift (by simp only [addPcs, hq]) (fun b cp h => by rw [hq] at h; cases h)
    | some z =>
      obtain ⟨m, b, cp⟩ := z
      cases hle : Nat.ble l cp with
      | false =>
        exact lift (by simp only [addPcs, hq, hle, cond_false]) (fun b' cp' h => by
          rw [hq] at h; injection h with h; simp only [Prod.mk.injEq] at h; obtain ⟨_, _, rfl⟩ := h
          intro h5; rw [ble_true.2 h5] at hle; exact absurd hle (by decide))
      | true =>
        have hE : addPcs pcs l h (q :: qs) = Tr.put (some b) D (addPcs pcs l h qs) m := by simp only [addPcs, hq, hle, cond_true]
        have hget := Tr.get_put (some b) D (addPcs pcs l h qs) m x (by have := hsm _ _ _ _ hq; have := D_pow; omega)
        by_cases hx : x = m
        · subst hx
          exact .inl ⟨q, by simp, b, cp, hq, ble_true.1 hle, by rw [hE, hget, if_pos rfl]⟩
        · exact lift (by rw [hE, hget, if_neg hx]) (fun b' cp' h => by
            rw [hq] at h; injection h with h; simp only [Prod.mk.injEq] at h; exact absurd h.1.symm hx)

end Go.Tame
