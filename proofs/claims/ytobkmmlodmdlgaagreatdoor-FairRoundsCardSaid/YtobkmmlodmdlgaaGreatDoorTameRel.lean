/- What the evaluator's values and blocks stand for in the model's memory. -/
import Derived.Test.YtobkmmlodmdlgaaGreatDoorTameEval
import Derived.Below
import Derived.Laws.Append
import Derived.Laws.MakeOwn
set_option linter.all false
namespace Go.Tame
open Go

/-! ### tables -/
theorem beq_true {a b : Nat} : Nat.beq a b = true ↔ a = b := by
  constructor
  · exact Nat.eq_of_beq_eq_true
  · rintro rfl; exact Nat.beq_refl a

theorem Tr.get_nil {α : Type} (n : Nat) : (Tr.nil : Tr α).get n = none := by unfold Tr.get; rfl

theorem Tr.get_node_zero {α : Type} (l : Tr α) (v : Option α) (r : Tr α) : (Tr.node l v r).get 0 = v := by
  rw [Tr.get]

theorem Tr.get_node_succ {α : Type} (l : Tr α) (v : Option α) (r : Tr α) (k : Nat) :
    (Tr.node l v r).get (k + 1) = if k % 2 = 0 then l.get (k / 2) else r.get (k / 2) := by
  rw [Tr.get]
  by_cases h : k % 2 = 0
  · have : Nat.beq (Nat.mod k 2) 0 = true := beq_true.2 h
    rw [this, if_pos h]; rfl
  · have : Nat.beq (Nat.mod k 2) 0 = false := by
      cases hb : Nat.beq (Nat.mod k 2) 0 with
      | false => rfl
      | true => exact absurd (beq_true.1 hb) h
    rw [this, if_neg h]; rfl

theorem Tr.put_nil_zero {α : Type} (v : Option α) (f : Nat) : Tr.put v (f + 1) .nil 0 = .node .nil v .nil := by rw [Tr.put]
theorem Tr.put_node_zero {α : Type} (v : Option α) (f : Nat) (l : Tr α) (w : Option α) (r : Tr α) : Tr.put v (f + 1) (.node l w r) 0 = .node l v r := by rw [Tr.put]
theorem Tr.put_nil_succ {α : Type} (v : Option α) (f k : Nat) :
    Tr.put v (f + 1) .nil (k + 1) = if k % 2 = 0 then .node (Tr.put v f .nil (k / 2)) none .nil else .node .nil none (Tr.put v f .nil (k / 2)) := by
  rw [Tr.put]
  by_cases h : k % 2 = 0
  · have : Nat.beq (Nat.mod k 2) 0 = true := beq_true.2 h
    rw [this, if_pos h]; rfl
  · have : Nat.beq (Nat.mod k 2) 0 = false := by
      cases hb : Nat.beq (Nat.mod k 2) 0 with
      | false => rfl
      | true => exact absurd (beq_true.1 hb) h
    rw [this, if_neg h]; rfl
theorem Tr.put_node_succ {α : Type} (v : Option α) (f k : Nat) (l : Tr α) (w : Option α) (r : Tr α) :
    Tr.put v (f + 1) (.node l w r) (k + 1) = if k % 2 = 0 then .node (Tr.put v f l (k / 2)) w r else .node l w (Tr.put v f r (k / 2)) := by
  rw [Tr.put]
  by_cases h : k % 2 = 0
  · have : Nat.beq (Nat.mod k 2) 0 = true := beq_true.2 h
    rw [this, if_pos h]; rfl
  · have : Nat.beq (Nat.mod k 2) 0 = false := by
      cases hb : Nat.beq (Nat.mod k 2) 0 with
      | false => rfl
      | true => exact absurd (beq_true.1 hb) h
    rw [this, if_neg h]; rfl

theorem Tr.get_put {α : Type} (v : Option α) : ∀ (f : Nat) (t : Tr α) (n m : Nat), n + 1 < 2 ^ f →
    (Tr.put v f t n).get m = if m = n then v else t.get m := by
  intro f
  induction f with
  | zero => intro t n m h; simp at h
  | succ f ih =>
    intro t n m h
    have hp : 2 ^ (f + 1) = 2 * 2 ^ f := by rw [Nat.pow_succ]; omega
    cases t with
    | nil =>
      cases n with
      | zero =>
        rw [Tr.put_nil_zero]
        cases m with
        | zero => rw [Tr.get_node_zero]; simp
        | succ k => rw [Tr.get_node_succ]; simp [Tr.get_nil]
      | succ n =>
        rw [Tr.put_nil_succ]
        have hb : n / 2 + 1 < 2 ^ f := by omega
        by_cases hn : n % 2 = 0
        · rw [if_pos hn]
          cases m with
          | zero => rw [Tr.get_node_zero]; simp [Tr.get_nil]
          | succ k =>
            rw [Tr.get_node_succ, ih _ _ _ hb]
            by_cases hk : k % 2 = 0
            · rw [if_pos hk]
              by_cases hkn : k / 2 = n / 2
              · have : k = n := by omega
                subst this; simp
              · have : k ≠ n := by intro e; subst e; exact hkn rfl
                rw [if_neg hkn, if_neg (by omega), Tr.get_nil, Tr.get_nil]
            · rw [if_neg hk]
              have : k ≠ n := by intro e; subst e; exact hk hn
              rw [if_neg (by omega), Tr.get_nil, Tr.get_nil]
        · rw [if_neg hn]
          cases m with
          | zero => rw [Tr.get_node_zero]; simp [Tr.get_nil]
          | succ k =>
            rw [Tr.get_node_succ, ih _ _ _ hb]
            by_cases hk : k % 2 = 0
            · rw [if_pos hk]
              have : k ≠ n := by intro e; subst e; exact hn hk
              rw [if_neg (by omega), Tr.get_nil, Tr.get_nil]
            · rw [if_neg hk]
              by_cases hkn : k / 2 = n / 2
              · have : k = n := by omega
                subst this; simp
              · have : k ≠ n := by intro e; subst e; exact hkn rfl
                rw [if_neg hkn, if_neg (by omega), Tr.get_nil, Tr.get_nil]
    | node l w r =>
      cases n with
      | zero =>
        rw [Tr.put_node_zero]
        cases m with
        | zero => rw [Tr.get_node_zero]; simp
        | succ k => rw [Tr.get_node_succ, Tr.get_node_succ]; simp
      | succ n =>
        rw [Tr.put_node_succ]
        have hb : n / 2 + 1 < 2 ^ f := by omega
        by_cases hn : n % 2 = 0
        · rw [if_pos hn]
          cases m with
          | zero => rw [Tr.get_node_zero, Tr.get_node_zero]; simp
          | succ k =>
            rw [Tr.get_node_succ, Tr.get_node_succ, ih _ _ _ hb]
            by_cases hk : k % 2 = 0
            · rw [if_pos hk, if_pos hk]
              by_cases hkn : k / 2 = n / 2
              · have : k = n := by omega
                subst this; simp
              · have : k ≠ n := by intro e; subst e; exact hkn rfl
                rw [if_neg hkn, if_neg (by omega)]
            · rw [if_neg hk, if_neg hk]
              have : k ≠ n := by intro e; subst e; exact hk hn
              rw [if_neg (by omega)]
        · rw [if_neg hn]
          cases m with
          | zero => rw [Tr.get_node_zero, Tr.get_node_zero]; simp
          | succ k =>
            rw [Tr.get_node_succ, Tr.get_node_succ, ih _ _ _ hb]
            by_cases hk : k % 2 = 0
            · rw [if_pos hk, if_pos hk]
              have : k ≠ n := by intro e; subst e; exact hn hk
              rw [if_neg (by omega)]
            · rw [if_neg hk, if_neg hk]
              by_cases hkn : k / 2 = n / 2
              · have : k = n := by omega
                subst this; simp
              · have : k ≠ n := by intro e; subst e; exact hkn rfl
                rw [if_neg hkn, if_neg (by omega)]

/-! ### lists -/
theorem nth_eq {α : Type} : ∀ (l : List α) (n : Nat), nth l n = l[n]?
  | [], n => by simp [nth]
  | x :: xs, 0 => by simp [nth]
  | x :: xs, n + 1 => by simp [nth, nth_eq xs n]

theorem takeN_eq {α : Type} : ∀ (n : Nat) (l r : List α), takeN n l = some r → r = l.take n ∧ n ≤ l.length
  | 0, l, r, h => by simp [takeN] at h; subst h; simp
  | n + 1, [], r, h => by simp [takeN] at h
  | n + 1, x :: xs, r, h => by
    simp only [takeN] at h
    split at h
    · cases h
    · rename_i ys hy
      injection h with h; subst h
      obtain ⟨h1, h2⟩ := takeN_eq n xs ys hy
      subst h1; exact ⟨by simp, by simpa using h2⟩

theorem dropN_eq {α : Type} : ∀ (n : Nat) (l r : List α), dropN n l = some r → r = l.drop n ∧ n ≤ l.length
  | 0, l, r, h => by simp [dropN] at h; subst h; simp
  | n + 1, [], r, h => by simp [dropN] at h
  | n + 1, x :: xs, r, h => by
    simp only [dropN] at h
    obtain ⟨h1, h2⟩ := dropN_eq n xs r h
    subst h1; exact ⟨by simp, by simpa using h2⟩

theorem cut_eq {α : Type} {cs : List α} {off n : Nat} {r : List α} (h : cut cs off n = some r) : r = (cs.drop off).take n ∧ off + n ≤ cs.length := by
  unfold cut at h
  split at h
  · cases h
  · rename_i d hd
    obtain ⟨rfl, h1⟩ := dropN_eq _ _ _ hd
    obtain ⟨rfl, h2⟩ := takeN_eq _ _ _ h
    refine ⟨rfl, ?_⟩
    simp at h2; omega

theorem cut_get {α : Type} {cs : List α} {off n : Nat} {r : List α} (h : cut cs off n = some r) : r.length = n ∧ ∀ i, i < n → r[i]? = cs[off + i]? := by
  obtain ⟨rfl, hl⟩ := cut_eq h
  refine ⟨by simp; omega, fun i hi => ?_⟩
  rw [List.getElem?_take_of_lt hi, List.getElem?_drop]

theorem over_get {α : Type} : ∀ (n : Nat) (cs vs r : List α), over n cs vs = some r →
    r.length = cs.length ∧ n + vs.length ≤ max n cs.length ∧ (vs ≠ [] → n + vs.length ≤ cs.length) ∧ ∀ i, r[i]? = if n ≤ i ∧ i < n + vs.length then vs[i - n]? else cs[i]?
  | n, cs, [], r, h => by
    have : r = cs := by cases n <;> cases cs <;> simp [over] at h <;> simp [h]
    subst this
    refine ⟨rfl, Nat.le_max_left _ _, by simp, fun i => ?_⟩
    rw [if_neg (by simp only [List.length_nil]; omega)]
  | 0, c :: cs, v :: vs, r, h => by
    simp only [over] at h
    split at h
    · cases h
    · rename_i r' hr
      injection h with h; subst h
      obtain ⟨h1, _, h2, h3⟩ := over_get 0 cs vs r' hr
      have hle : vs.length ≤ cs.length := by
        cases vs with
        | nil => simp
        | cons a b => have := h2 (by simp); simpa using this
      refine ⟨by simp [h1], by simp; omega, by simp; omega, fun i => ?_⟩
      cases i with
      | zero => simp
      | succ i =>
        simp only [List.getElem?_cons_succ]
        rw [h3 i]
        simp only [Nat.zero_le, true_and, Nat.zero_add, List.length_cons]
        by_cases hi : i < vs.length
        · rw [if_pos hi, if_pos (by omega)]; simp
        · rw [if_neg hi, if_neg (by omega)]
  | 0, [], v :: vs, r, h => by simp [over] at h
  | n + 1, c :: cs, v :: vs, r, h => by
    simp only [over] at h
    split at h
    · cases h
    · rename_i r' hr
      injection h with h; subst h
      obtain ⟨h1, _, h2, h3⟩ := over_get n cs (v :: vs) r' hr
      have h2 := h2 (by simp)
      refine ⟨by simp [h1], by simp at h2 ⊢; omega, fun _ => by simp at h2 ⊢; omega, fun i => ?_⟩
      cases i with
      | zero => simp
      | succ i =>
        simp only [List.getElem?_cons_succ]
        rw [h3 i]
        by_cases hi : n ≤ i ∧ i < n + (v :: vs).length
        · rw [if_pos hi, if_pos (by omega)]; congr 1; omega
        · rw [if_neg hi, if_neg (by omega)]
  | n + 1, [], v :: vs, r, h => by simp [over] at h

theorem rep_length {α : Type} (z : List α) : ∀ n, (rep z n).length = n * z.length
  | 0 => by simp [rep]
  | n + 1 => by simp [rep, rep_length z n, Nat.add_mul]; omega

theorem rep_get {α : Type} (z : List α) : ∀ n i, i < n * z.length → (rep z n)[i]? = z[i % z.length]?
  | 0, i, h => by simp at h
  | n + 1, i, h => by
    simp only [rep]
    by_cases hi : i < z.length
    · rw [List.getElem?_append_left hi, Nat.mod_eq_of_lt hi]
    · rw [List.getElem?_append_right (by omega), rep_get z n (i - z.length) (by rw [Nat.add_mul] at h; omega)]
      rw [Nat.mod_eq_sub_mod (by omega : i ≥ z.length)]

end Go.Tame
