/- What a checked plan says. -/
import Derived.Test.YtobkmmlodmdlgaaGreatDoorTamePlan
set_option linter.all false
namespace Go.Tame
open Go

def wcount : Plan → Nat → Nat
  | [], _ => 0
  | _ :: _, 0 => 0
  | p :: ps, i + 1 => (if 2 ≤ p.cls then 1 else 0) + wcount ps i

theorem cls_cases (p : PI) : p.cls = 0 ∨ p.cls = 1 ∨ 2 ≤ p.cls := by omega

theorem writersA_cons (s : Nat) (p : PI) (ps : Plan) : writersA s (p :: ps) = if 2 ≤ p.cls then s :: writersA (s + 1) ps else writersA (s + 1) ps := by
  simp only [writersA]
  split
  · rename_i h; rw [if_neg (by omega)]
  · rename_i h; rw [if_neg (by omega)]
  · rename_i h0 h1
    have h0' : p.cls ≠ 0 := h0
    have h1' : p.cls ≠ 1 := h1
    rw [if_pos (by omega)]

theorem writersA_at : ∀ {ps : Plan} {s i : Nat} {p : PI}, ps[i]? = some p → 2 ≤ p.cls → (writersA s ps)[wcount ps i]? = some (s + i)
  | q :: ps, s, 0, p, hp, hc => by
    simp at hp; subst hp
    rw [writersA_cons, if_pos hc]; simp [wcount]
  | q :: ps, s, i + 1, p, hp, hc => by
    simp at hp
    have ih := writersA_at (s := s + 1) hp hc
    rw [writersA_cons]
    simp only [wcount]
    by_cases hq : 2 ≤ q.cls
    · rw [if_pos hq, if_pos hq, Nat.add_comm 1, List.getElem?_cons_succ, ih]; congr 1; omega
    · rw [if_neg hq, if_neg hq, Nat.zero_add, ih]; congr 1; omega

theorem writersA_is : ∀ {ps : Plan} {s k w : Nat}, (writersA s ps)[k]? = some w → ∃ i p, w = s + i ∧ ps[i]? = some p ∧ 2 ≤ p.cls ∧ wcount ps i = k
  | [], s, k, w, h => by simp [writersA] at h
  | q :: ps, s, k, w, h => by
    rw [writersA_cons] at h
    by_cases hq : 2 ≤ q.cls
    · rw [if_pos hq] at h
      cases k with
      | zero => simp at h; exact ⟨0, q, by omega, rfl, hq, by simp [wcount]⟩
      | succ k =>
        simp at h
        obtain ⟨i, p, h1, h2, h3, h4⟩ := writersA_is h
        exact ⟨i + 1, p, by omega, by simpa using h2, h3, by simp only [wcount, if_pos hq]; omega⟩
    · rw [if_neg hq] at h
      obtain ⟨i, p, h1, h2, h3, h4⟩ := writersA_is h
      exact ⟨i + 1, p, by omega, by simpa using h2, h3, by simp only [wcount, if_neg hq]; omega⟩

theorem chainA_get {anc : List (List Nat)} : ∀ {l : List Nat} {k a b : Nat}, chainA anc l = true → l[k]? = some a → l[k + 1]? = some b → bef anc a b = true
  | [], k, a, b, _, h, _ => by simp at h
  | [x], k, a, b, _, _, h => by simp at h
  | x :: y :: l, k, a, b, hc, ha, hb => by
    simp only [chainA, Bool.and_eq_true] at hc
    cases k with
    | zero => simp at ha hb; subst ha hb; exact hc.1
    | succ k => simp at ha hb; exact chainA_get hc.2 (by simpa using ha) (by simpa using hb)

theorem needsOk_mem {anc : List (List Nat)} {i : Nat} : ∀ {l : List Nat} {p : Nat}, needsOk anc i l = true → p ∈ l → p < i ∧ bef anc p i = true
  | [], p, _, h => by cases h
  | q :: l, p, hn, h => by
    simp only [needsOk, Bool.and_eq_true, blt_true] at hn
    rcases List.mem_cons.1 h with rfl | h
    · exact hn.1
    · exact needsOk_mem hn.2 h

theorem cpsAre_mem {pl : Plan} {k : Nat} : ∀ {l : List Nat} {p : Nat} {q : PI}, cpsAre pl k l = true → p ∈ l → pl[p]? = some q → q.cp = k
  | [], p, q, _, h, _ => by cases h
  | x :: l, p, q, hn, h, hq => by
    simp only [cpsAre, Bool.and_eq_true] at hn
    rcases List.mem_cons.1 h with rfl | h
    · have := hn.1; rw [nth_eq, hq] at this; exact beq_true.1 this
    · exact cpsAre_mem hn.2 h hq

structure LevelsAt (anc : List (List Nat)) (ws : List Nat) (pl : Plan) (i k : Nat) (p : PI) : Prop where
  none : p.cls = 0 → ∀ w, ws[p.cp]? = some w → ∃ q, pl[w]? = some q ∧ i ∈ q.needs
  low : p.cls = 1 → ∀ l, p.lo = l + 1 → ∃ w, ws[l]? = some w ∧ bef anc w i = true
  high : p.cls = 1 → (∃ w, ws[p.hi]? = some w ∧ bef anc i w = true) ∨ p.hi = ws.length
  here : p.cls = 1 → p.lo ≤ k ∧ k ≤ p.hi
  needs : 1 ≤ p.cls → ∀ x ∈ p.needs, x < i ∧ bef anc x i = true
  cps : 2 ≤ p.cls → ∀ x ∈ p.needs, ∀ q, pl[x]? = some q → q.cp = k

theorem levelsOk_at {anc : List (List Nat)} {ws : List Nat} {pl : Plan} : ∀ {ps : Plan} {s k i : Nat} {p : PI}, levelsOk anc ws pl s k ps = true → ps[i]? = some p → LevelsAt anc ws pl (s + i) (k + wcount ps i) p
  | [], s, k, i, p, _, h => by simp at h
  | q :: ps, s, k, i, p, hl, hp => by
    cases i with
    | succ i =>
      simp at hp
      simp only [levelsOk] at hl
      split at hl
      · rename_i hq
        simp only [Bool.and_eq_true] at hl
        have := levelsOk_at hl.2 hp
        have hz : ¬ 2 ≤ q.cls := by omega
        simpa [wcount, hz, Nat.add_assoc, Nat.add_comm 1] using this
      · rename_i hq
        simp only [Bool.and_eq_true] at hl
        have := levelsOk_at hl.2 hp
        have hz : ¬ 2 ≤ q.cls := by omega
        simpa [wcount, hz, Nat.add_assoc, Nat.add_comm 1] using this
      · rename_i h0 h1
        simp only [Bool.and_eq_true] at hl
        have := levelsOk_at hl.2 hp
        have hz : 2 ≤ q.cls := by
          have : q.cls ≠ 0 := h0
          have : q.cls ≠ 1 := h1
          omega
        simpa [wcount, hz, Nat.add_assoc, Nat.add_comm 1] using this
    | zero =>
      simp at hp; subst hp
      simp only [levelsOk] at hl
      split at hl
      · rename_i hq
        simp only [Bool.and_eq_true, nth_eq] at hl
        refine ⟨fun _ w hw => ?_, fun h => by omega, fun h => by omega, fun h => by omega, fun h => by omega, fun h => by omega⟩
        have h1 := hl.1
        rw [hw] at h1
        simp only at h1
        split at h1
        · rename_i q' hq'; exact ⟨q', hq', memB_iff.1 h1⟩
        · cases h1
      · rename_i hq
        simp only [Bool.and_eq_true, nth_eq, ble_true, wcount, Nat.add_zero] at hl
        obtain ⟨⟨⟨⟨⟨h1, h2⟩, h3⟩, h4⟩, h5⟩, _⟩ := hl
        refine ⟨fun h => by omega, fun _ l hlo => ?_, fun _ => ?_, fun _ => ⟨by simpa [wcount] using h3, by simpa [wcount] using h4⟩, fun _ x hx => needsOk_mem h5 hx, fun h => by omega⟩
        · rw [hlo] at h1
          simp only at h1
          split at h1
          · rename_i w hw; exact ⟨w, hw, h1⟩
          · cases h1
        · split at h2
          · rename_i w hw; exact .inl ⟨w, hw, h2⟩
          · exact .inr (beq_true.1 h2)
      · rename_i h0 h1
        simp only [Bool.and_eq_true] at hl
        have h0' : q.cls ≠ 0 := h0
        have h1' : q.cls ≠ 1 := h1
        exact ⟨fun h => absurd h h0', fun h => absurd h h1', fun h => absurd h h1', fun h => absurd h h1', fun _ x hx => needsOk_mem hl.1.1 hx, fun _ x hx r hr => by simpa [wcount] using cpsAre_mem hl.1.2 hx hr⟩

theorem tmpOne_at {anc : List (List Nat)} {ops : Array Oper} {j d : Nat} : ∀ {os : List Oper} {s i : Nat} {o : Oper}, tmpOne anc ops j d s os = true → os[i]? = some o → s + i ≠ j →
    o.dst ≠ some d ∧ (d ∈ o.looksAt ops → (j < s + i ∧ bef anc j (s + i) = true) ∨ (¬ j < s + i ∧ bef anc (s + i) j = true))
  | [], s, i, o, _, h, _ => by simp at h
  | q :: os, s, i, o, ht, ho, hne => by
    simp only [tmpOne, Bool.and_eq_true] at ht
    cases i with
    | succ i => simp at ho; have := tmpOne_at ht.2 ho (by omega); rw [Nat.add_assoc, Nat.add_comm 1 i] at this; exact this
    | zero =>
      simp at ho; subst ho
      have h1 := ht.1
      have hb : Nat.beq s j = false := by
        cases h : Nat.beq s j with
        | false => rfl
        | true => exact absurd (beq_true.1 h) hne
      rw [hb] at h1
      simp only [cond_false, Bool.and_eq_true] at h1
      refine ⟨fun hd => ?_, fun hd => ?_⟩
      · have := h1.1; rw [hd] at this
        have h2 : Nat.beq d d = true := beq_true.2 rfl
        simp only [h2, Bool.not_true] at this
        cases this
      · have h2 := h1.2
        have h3 : (q.looksAt ops).contains d = true := by simpa using hd
        rw [h3] at h2; simp only [cond_true] at h2
        cases hlt : Nat.blt j s with
        | true => rw [hlt] at h2; exact .inl ⟨blt_true.1 hlt, h2⟩
        | false => rw [hlt] at h2; exact .inr ⟨fun h4 => by rw [Nat.add_zero] at h4; rw [blt_true.2 h4] at hlt; exact absurd hlt (by decide), h2⟩

theorem tmpAll_at {anc : List (List Nat)} {ops : Array Oper} : ∀ {os : List Oper} {s j : Nat} {o : Oper} {d : Nat}, tmpAll anc ops s os = true → os[j]? = some o → o.dst = some d → tmpOne anc ops (s + j) d 0 ops.toList = true
  | [], s, j, o, d, _, h, _ => by simp at h
  | q :: os, s, j, o, d, ht, ho, hd => by
    simp only [tmpAll, Bool.and_eq_true] at ht
    cases j with
    | succ j => simp at ho; have := tmpAll_at ht.2 ho hd; rw [Nat.add_assoc, Nat.add_comm 1 j] at this; exact this
    | zero => simp at ho; subst ho; have := ht.1; rw [hd] at this; exact this

theorem edgesBack_mem {i : Nat} : ∀ {es : List Edge} {e : Edge}, edgesBack i es = true → e ∈ es → Region.binds .any e = true → e.on < i
  | [], e, _, h, _ => by cases h
  | x :: es, e, ht, h, hb => by
    simp only [edgesBack, Bool.and_eq_true] at ht
    rcases List.mem_cons.1 h with rfl | h
    · have := ht.1; rw [hb] at this; exact blt_true.1 this
    · exact edgesBack_mem ht.2 h hb

theorem edgesOk_at : ∀ {os : List Oper} {s i : Nat} {o : Oper}, edgesOk s os = true → os[i]? = some o → ∀ e ∈ o.after, Region.binds .any e = true → e.on < s + i
  | [], s, i, o, _, h => by simp at h
  | q :: os, s, i, o, ht, ho => by
    simp only [edgesOk, Bool.and_eq_true] at ht
    cases i with
    | zero => simp at ho; subst ho; exact fun e he hb => edgesBack_mem ht.1 (by simpa using he) hb
    | succ i => simp at ho; have := edgesOk_at ht.2 ho; rw [Nat.add_assoc, Nat.add_comm 1 i] at this; exact this

theorem writersA_length : ∀ {ps : Plan} {s : Nat}, (writersA s ps).length = wcount ps ps.length
  | [], s => rfl
  | p :: ps, s => by
    rw [writersA_cons]
    simp only [List.length_cons, wcount]
    split
    · rw [List.length_cons, writersA_length]; omega
    · rw [writersA_length]; omega

structure PlanFacts (ops : Array Oper) (pl : Plan) (anc : List (List Nat)) (ws : List Nat) : Prop where
  len : pl.length = ops.size
  small : ops.size < 1000000000
  back : ∀ i o, ops[i]? = some o → ∀ e ∈ o.after, Region.binds .any e = true → e.on < i
  chain : ∀ k a b, ws[k]? = some a → ws[k + 1]? = some b → bef anc a b = true
  at_ : ∀ i p, pl[i]? = some p → 2 ≤ p.cls → ws[wcount pl i]? = some i
  is_ : ∀ k w, ws[k]? = some w → ∃ p, pl[w]? = some p ∧ 2 ≤ p.cls ∧ wcount pl w = k
  lev : ∀ i p, pl[i]? = some p → LevelsAt anc ws pl i (wcount pl i) p
  tmp : ∀ i j o o' d, ops[i]? = some o → ops[j]? = some o' → i ≠ j → o'.dst = some d → o.dst ≠ some d ∧ (d ∈ o.looksAt ops → (j < i ∧ bef anc j i = true) ∨ (¬ j < i ∧ bef anc i j = true))

theorem planOk_facts {ops : Array Oper} {pl : Plan} (h : planOk ops pl = true) : PlanFacts ops pl (ancGo ops.toList []) (writersA 0 pl) := by
  simp only [planOk, Bool.and_eq_true] at h
  obtain ⟨⟨⟨⟨⟨h1, h0⟩, h9⟩, h2⟩, h3⟩, h4⟩ := h
  refine ⟨beq_true.1 h1, blt_true.1 h0, fun i o ho => by simpa using edgesOk_at (s := 0) h9 (i := i) (o := o) (by simpa using ho), fun k a b ha hb => chainA_get h2 ha hb, fun i p hp hc => by simpa using writersA_at (s := 0) hp hc, fun k w hw => ?_, fun i p hp => by simpa using levelsOk_at h3 hp, fun i j o o' d ho ho' hne hd => ?_⟩
  · obtain ⟨i, p, h5, h6, h7, h8⟩ := writersA_is hw
    rw [Nat.zero_add] at h5; subst h5
    exact ⟨p, h6, h7, h8⟩
  · have h5 := tmpAll_at h4 (by simpa using ho') hd
    have := tmpOne_at h5 (i := i) (by simpa using ho) (by omega)
    simpa using this

end Go.Tame
