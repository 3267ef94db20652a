/- Maps: where a key stands. -/
import Derived.Test.YtobkmmlodmdlgaaGreatDoorTameEq
set_option linter.all false
namespace Go.Tame
open Go

section
variable {T : Tab} {P : Program} {base : Nat} {ρ : Ren} {h : Heap} {w : World}

/-- the model's answer to a search -/
def found (l : List MapEntry) (j : Nat) (pos : Option Nat) : Option (Nat × Value) := pos.bind fun i => (l[i]?).map fun e => (j + i, e.val)

theorem found_succ (e : MapEntry) (l : List MapEntry) (j : Nat) : ∀ pos, found (e :: l) j (pos.map (· + 1)) = found l (j + 1) pos
  | none => rfl
  | some i => by simp [found]; congr 2; funext e; congr 1; omega

theorem posA_cons {kt : TypeId} {k k' v : AV} {b : Nat} {es : List (AV × AV × Nat)} {pos : Option Nat} (hp : posA T h kt k ((k', v, b) :: es) = some pos) :
    (eqA T h kt k k' = some true ∧ pos = some 0) ∨ (eqA T h kt k k' = some false ∧ ∃ q, posA T h kt k es = some q ∧ pos = q.map (· + 1)) := by
  simp only [posA] at hp
  split at hp
  · rename_i he; injection hp with hp; exact .inl ⟨he, hp.symm⟩
  · rename_i he
    split at hp
    · rename_i i hi; injection hp with hp; exact .inr ⟨he, some i, hi, hp.symm⟩
    · rename_i hi; injection hp with hp; exact .inr ⟨he, none, hi, hp.symm⟩
    · cases hp
  · cases hp

theorem findAsking_ok (ok : TabOk T P) (r : Rep T base ρ h.get w) {kt : TypeId} {k : AV} {ck : Value} (hk : VRel ρ k ck) : ∀ (es : List (AV × AV × Nat)) (l : List MapEntry) (j : Nat) (pos : Option Nat),
    ESRel ρ es l → posA T h kt k es = some pos → (Instr.findAsking kt ck l j).run P w = .ok (found l j pos) w
  | [], l, j, pos, hl, hp => by
    simp only [ESRel] at hl; subst hl
    simp only [posA] at hp; injection hp with hp; subst hp
    simp [Instr.findAsking, found]
  | (k', v, b) :: es, l, j, pos, hl, hp => by
    simp only [ESRel] at hl
    obtain ⟨e, l', rfl, h1, h2, h3, h4⟩ := hl
    simp only [Instr.findAsking, Sem.run_bind]
    rcases posA_cons hp with ⟨he, rfl⟩ | ⟨he, q, hq, rfl⟩
    · rw [eqA_ok ok r he hk h1]; simp [found]
    · rw [eqA_ok ok r he hk h1, found_succ]
      simpa using findAsking_ok ok r hk es l' (j + 1) q h4 hq

theorem eqA_int {t : TypeId} {k : IntKind} {a : Int} {y : AV} {b : Bool} (he : eqA T h t (.int k a) y = some b) : ∃ c, y = .int k c ∧ b = (a == c) := by
  unfold eqA at he
  split at he
  · cases he
  · cases y <;> simp only at he
    case int k' c =>
      split at he
      · rename_i heq1 heq2 heq3
        injection heq2 with h1 h2; injection heq3 with h3 h4; subst h1 h2 h3 h4
        obtain ⟨h1, h2⟩ := ite_bool he
        simp only [decide_eq_true_eq] at h1; subst h1
        injection h2 with h2
        exact ⟨_, rfl, h2.symm⟩
      all_goals first | (cases he; done) | (rename_i heq2 heq3; cases heq2; done)
    all_goals (split at he <;> simp_all)

theorem eqA_bool {t : TypeId} {a : Bool} {y : AV} {b : Bool} (he : eqA T h t (.bool a) y = some b) : ∃ c, y = .bool c ∧ b = (a == c) := by
  unfold eqA at he
  split at he
  · cases he
  · cases y <;> simp only at he
    case bool c =>
      split at he
      · rename_i heq1 heq2 heq3; cases heq2
      · rename_i heq1 heq2 heq3
        injection heq2 with h1; injection heq3 with h3; subst h1 h3
        injection he with he
        exact ⟨_, rfl, he.symm⟩
      all_goals first | (cases he; done) | (rename_i heq2 heq3; cases heq2; done)
    all_goals (split at he <;> simp_all)

theorem findNow_int {kt : TypeId} {k₀ k : IntKind} {a : Int} : ∀ (es : List (AV × AV × Nat)) (l : List MapEntry) (j : Nat) (pos : Option Nat),
    ESRel ρ es l → posA T h kt (.int k a) es = some pos → Instr.findNow (.int k₀) (.int k a) l j = some (found l j pos)
  | [], l, j, pos, hl, hp => by
    simp only [ESRel] at hl; subst hl
    simp only [posA] at hp; injection hp with hp; subst hp
    simp [Instr.findNow, found]
  | (k', v, b) :: es, l, j, pos, hl, hp => by
    simp only [ESRel] at hl
    obtain ⟨e, l', rfl, h1, h2, h3, h4⟩ := hl
    rcases posA_cons hp with ⟨he, rfl⟩ | ⟨he, q, hq, rfl⟩
    · obtain ⟨c, rfl, hb⟩ := eqA_int he
      simp only [VRel] at h1
      have hac : a = c := by simpa using hb.symm
      simp [Instr.findNow, Instr.sameNow, h1, hac, found]
    · obtain ⟨c, rfl, hb⟩ := eqA_int he
      simp only [VRel] at h1
      have hac : (a == c) = false := hb.symm
      rw [found_succ]
      simp [Instr.findNow, Instr.sameNow, h1, hac, findNow_int es l' (j + 1) q h4 hq]

theorem findNow_bool {kt : TypeId} {a : Bool} : ∀ (es : List (AV × AV × Nat)) (l : List MapEntry) (j : Nat) (pos : Option Nat),
    ESRel ρ es l → posA T h kt (.bool a) es = some pos → Instr.findNow .bool (.bool a) l j = some (found l j pos)
  | [], l, j, pos, hl, hp => by
    simp only [ESRel] at hl; subst hl
    simp only [posA] at hp; injection hp with hp; subst hp
    simp [Instr.findNow, found]
  | (k', v, b) :: es, l, j, pos, hl, hp => by
    simp only [ESRel] at hl
    obtain ⟨e, l', rfl, h1, h2, h3, h4⟩ := hl
    rcases posA_cons hp with ⟨he, rfl⟩ | ⟨he, q, hq, rfl⟩
    · obtain ⟨c, rfl, hb⟩ := eqA_bool he
      simp only [VRel] at h1
      have hac : a = c := by simpa using hb.symm
      simp [Instr.findNow, Instr.sameNow, h1, hac, found]
    · obtain ⟨c, rfl, hb⟩ := eqA_bool he
      simp only [VRel] at h1
      have hac : (a == c) = false := hb.symm
      rw [found_succ]
      simp [Instr.findNow, Instr.sameNow, h1, hac, findNow_bool es l' (j + 1) q h4 hq]

theorem findNow_agg {d : TypeDesc} {cs : Array Value} : ∀ (l : List MapEntry) (j : Nat), l ≠ [] → Instr.findNow d (.agg cs) l j = none
  | [], _, h => absurd rfl h
  | e :: l, j, _ => by
    have : Instr.sameNow d (.agg cs) e.key = none := by unfold Instr.sameNow; split <;> simp_all
    simp [Instr.findNow, this]

theorem findKey_ok (ok : TabOk T P) (r : Rep T base ρ h.get w) {kt : TypeId} {k : AV} {ck : Value} (hk : VRel ρ k ck) (hok : keyOk T kt k = true) {es : List (AV × AV × Nat)} {l : List MapEntry} {pos : Option Nat}
    (hl : ESRel ρ es l) (hp : posA T h kt k es = some pos) : (Instr.findKey kt ck l).run P w = .ok (found l 0 pos) w := by
  unfold keyOk at hok
  split at hok
  · rename_i ti ht
    obtain ⟨i, d, z, hi⟩ := ok.types kt ti ht
    have hu := hi.und
    simp only [Instr.findKey, Sem.run_bind, run_underlying hu, Result.andThen_ok]
    split at hok
    · rename_i k₀ k' a hd
      rw [tdOf_int (hi.td.symm.trans hd)]
      simp only [VRel] at hk; subst hk
      rw [findNow_int es l 0 pos hl hp]; rfl
    · rename_i a hd
      rw [tdOf_bool (hi.td.symm.trans hd)]
      simp only [VRel] at hk; subst hk
      rw [findNow_bool es l 0 pos hl hp]; rfl
    · rename_i xs
      have hk' := hk
      simp only [VRel] at hk
      obtain ⟨xs', rfl, hxs⟩ := hk
      by_cases hne : l = []
      · subst hne
        cases es with
        | nil =>
          simp only [posA] at hp; injection hp with hp; subst hp
          simp [Instr.findNow, found]
        | cons e es => obtain ⟨k', v, b⟩ := e; simp only [ESRel] at hl; obtain ⟨_, _, h0, _⟩ := hl; cases h0
      · rw [findNow_agg l 0 hne]
        exact findAsking_ok ok r hk' es l 0 pos hl hp
    · cases hok
  · cases hok

theorem checkKey_ok (ok : TabOk T P) {kt : TypeId} {k : AV} {ck : Value} (hk : VRel ρ k ck) (hok : keyOk T kt k = true) (e : Bool) : (Instr.checkKey e 10000 kt ck).run P w = .ok () w := by
  unfold keyOk at hok
  split at hok
  · rename_i ti ht
    obtain ⟨i, d, z, hi⟩ := ok.types kt ti ht
    have hu := hi.und
    split at hok
    · rename_i k₀ k' a hd
      rw [tdOf_int (hi.td.symm.trans hd)] at hu
      simp only [VRel] at hk; subst hk
      obtain ⟨n, hn⟩ : ∃ n, (10000 : Nat) = n + 1 := ⟨9999, rfl⟩
      rw [hn]; simp [Instr.checkKey, run_underlying hu]
    · rename_i a hd
      rw [tdOf_bool (hi.td.symm.trans hd)] at hu
      simp only [VRel] at hk; subst hk
      obtain ⟨n, hn⟩ : ∃ n, (10000 : Nat) = n + 1 := ⟨9999, rfl⟩
      rw [hn]; simp [Instr.checkKey, run_underlying hu]
    · rename_i xs
      simp only [Bool.and_eq_true] at hok
      simp only [VRel] at hk
      obtain ⟨xs', rfl, hxs⟩ := hk
      exact (ok.plain kt ti ht hok.1).key ρ xs xs' e w hok.2 hxs
    · cases hok
  · cases hok

theorem ESRel.length : ∀ {es : List (AV × AV × Nat)} {l : List MapEntry}, ESRel ρ es l → l.length = es.length
  | [], l, h => by simp only [ESRel] at h; simp [h]
  | (k, v, b) :: es, l, h => by
    simp only [ESRel] at h
    obtain ⟨e, l', rfl, _, _, _, h4⟩ := h
    simp [ESRel.length h4]

theorem ESRel.get : ∀ {es : List (AV × AV × Nat)} {l : List MapEntry}, ESRel ρ es l → ∀ {i : Nat} {x : AV × AV × Nat}, es[i]? = some x → ∃ e, l[i]? = some e ∧ VRel ρ x.1 e.key ∧ VRel ρ x.2.1 e.val ∧ e.born = x.2.2
  | [], l, h, i, x, hi => by simp at hi
  | (k, v, b) :: es, l, h, i, x, hi => by
    simp only [ESRel] at h
    obtain ⟨e, l', rfl, h1, h2, h3, h4⟩ := h
    cases i with
    | zero => simp at hi; subst hi; exact ⟨e, by simp, h1, h2, h3⟩
    | succ i => simp at hi; obtain ⟨e', he, hr⟩ := ESRel.get h4 hi; exact ⟨e', by simpa using he, hr⟩

theorem ESRel.snoc : ∀ {es : List (AV × AV × Nat)} {l : List MapEntry}, ESRel ρ es l → ∀ {k v : AV} {e : MapEntry}, VRel ρ k e.key → VRel ρ v e.val → ESRel ρ (es ++ [(k, v, e.born)]) (l ++ [e])
  | [], l, h, k, v, e, hk, hv => by simp only [ESRel] at h; subst h; exact ⟨e, [], rfl, hk, hv, rfl, rfl⟩
  | (k', v', b) :: es, l, h, k, v, e, hk, hv => by
    simp only [ESRel] at h
    obtain ⟨e', l', rfl, h1, h2, h3, h4⟩ := h
    exact ⟨e', l' ++ [e], rfl, h1, h2, h3, ESRel.snoc h4 hk hv⟩

theorem ESRel.drop : ∀ {es : List (AV × AV × Nat)} {l : List MapEntry}, ESRel ρ es l → ∀ i, ESRel ρ (dropAt es i) (l.eraseIdx i)
  | [], l, h, i => by simp only [ESRel] at h; subst h; simp [dropAt, ESRel]
  | (k', v', b) :: es, l, h, i => by
    simp only [ESRel] at h
    obtain ⟨e', l', rfl, h1, h2, h3, h4⟩ := h
    cases i with
    | zero => simpa [dropAt] using h4
    | succ i => simp only [dropAt, List.eraseIdx_cons_succ, ESRel]; exact ⟨e', _, rfl, h1, h2, h3, ESRel.drop h4 i⟩

theorem ESRel.set : ∀ {es : List (AV × AV × Nat)} {l : List MapEntry}, ESRel ρ es l → ∀ (i : Nat) {k v : AV} {ck cv : Value}, VRel ρ k ck → VRel ρ v cv →
    ESRel ρ (setAt es i fun e => (k, v, e.2.2)) (l.modify i fun e => { e with key := ck, val := cv })
  | [], l, h, i, k, v, ck, cv, hk, hv => by simp only [ESRel] at h; subst h; simp [setAt, ESRel]
  | (k', v', b) :: es, l, h, i, k, v, ck, cv, hk, hv => by
    simp only [ESRel] at h
    obtain ⟨e', l', rfl, h1, h2, h3, h4⟩ := h
    cases i with
    | zero => simp only [setAt, List.modify_zero_cons, ESRel]; exact ⟨_, _, rfl, hk, hv, h3, h4⟩
    | succ i => simp only [setAt, List.modify_succ_cons, ESRel]; exact ⟨e', _, rfl, h1, h2, h3, ESRel.set h4 i hk hv⟩

end
end Go.Tame
