/- What only looks leaves memory as it is; what makes a block makes one; what an operation gives hangs on what it looks at. -/
import Derived.Test.YtobkmmlodmdlgaaGreatDoorTameCnt
set_option linter.all false
namespace Go.Tame
open Go

theorem opA_idle {T : Tab} {t : Env} {h : Heap} {nx : Nat} {op : Op} {v : AV} {h' : Heap} {nx' : Nat} (hi : Oper.idle op = true) (hh : opA T t h nx op = some (.val v h' nx')) : h' = h ∧ nx' = nx := by
  cases op
  case call c =>
    simp only [opA] at hh
    split at hh
    · rename_i args _
      cases hc : c.callee with
      | value f => simp [Oper.idle, hc] at hi
      | invoke a b => simp [Oper.idle, hc] at hi
      | builtin b =>
        rw [hc] at hh
        simp only [builtinA] at hh
        cases b <;> simp [Oper.idle, hc] at hi
        all_goals (repeat' split at hh)
        all_goals first
          | (cases hh; done)
          | exact natR_cnt hh
          | exact ret_cnt hh
          | (simp at *; done)
    · cases hh
  case makeFunc f a b =>
    cases f
    case func g =>
      simp only [opA] at hh
      split at hh
      · simp only [Option.some.injEq, ORes.val.injEq] at hh; obtain ⟨_, rfl, rfl⟩ := hh; exact ⟨rfl, rfl⟩
      · cases hh
    all_goals (simp [opA] at hh; done)
  all_goals first
    | (cases hi; done)
    | skip
  all_goals (simp only [opA] at hh)
  all_goals (repeat' split at hh)
  all_goals (try simp only [Bool.cond_eq_ite] at hh)
  all_goals (repeat' split at hh)
  all_goals first
    | (cases hh; done)
    | exact ret_cnt hh
    | (simp only [Option.some.injEq, ORes.val.injEq] at hh; obtain ⟨_, rfl, rfl⟩ := hh; exact ⟨rfl, rfl⟩)

theorem opA_makes {T : Tab} {t : Env} {h : Heap} {nx : Nat} {op : Op} {v : AV} {h' : Heap} {nx' : Nat} (hi : Oper.makes op = true) (hh : opA T t h nx op = some (.val v h' nx')) : ∃ b, newA h nx b = some (h', nx') := by
  cases op
  all_goals first
    | (cases hi; done)
    | skip
  case makeMap ty r =>
    cases r with
    | none =>
      simp only [opA] at hh
      split at hh
      · simp only [Option.some.injEq, ORes.val.injEq] at hh; obtain ⟨_, rfl, rfl⟩ := hh; exact ⟨_, ‹_›⟩
      · cases hh
    | some r =>
      simp only [opA] at hh
      repeat' split at hh
      all_goals first
        | (cases hh; done)
        | (simp only [Option.some.injEq, ORes.val.injEq] at hh; obtain ⟨_, rfl, rfl⟩ := hh; exact ⟨_, ‹newA _ _ _ = _›⟩)
  all_goals (simp only [opA] at hh)
  all_goals (repeat' split at hh)
  all_goals (try simp only [Bool.cond_eq_ite] at hh)
  all_goals (repeat' split at hh)
  all_goals first
    | (cases hh; done)
    | (simp only [Option.some.injEq, ORes.val.injEq] at hh; obtain ⟨_, rfl, rfl⟩ := hh; exact ⟨_, ‹newA _ _ _ = _›⟩)

theorem vals_congr {t t' : Env} : ∀ {l : List Operand}, (∀ x ∈ l, val t x = val t' x) → vals t l = vals t' l
  | [], _ => rfl
  | x :: xs, h => by
    simp only [vals]
    rw [h x (by simp), vals_congr fun y hy => h y (by simp [hy])]

theorem partsA_congr {t t' : Env} : ∀ {l : List (Nat × Operand)}, (∀ x ∈ l, val t x.2 = val t' x.2) → partsA t l = partsA t' l
  | [], _ => rfl
  | (i, x) :: xs, h => by
    have h1 : val t x = val t' x := h (i, x) (by simp)
    simp only [partsA]
    rw [h1, partsA_congr fun y hy => h y (by simp [hy])]

theorem optNat_congr {t t' : Env} {x : Option Operand} (h : ∀ y ∈ x, val t y = val t' y) : optNat t x = optNat t' x := by
  cases x with
  | none => rfl
  | some y => simp only [optNat]; rw [h y rfl]

theorem opA_congr {T : Tab} {t t' : Env} {h : Heap} {nx : Nat} {op : Op} (he : ∀ x ∈ op.operands, val t x = val t' x) : opA T t h nx op = opA T t' h nx op := by
  cases op <;> simp only [Op.operands] at he
  case call c =>
    have h1 : vals t c.args.toList = vals t' c.args.toList := vals_congr fun x hx => he x (by simp only [Call.operands, Array.mem_append]; exact .inr (by simpa using hx))
    cases hc : c.callee with
    | value f => have h2 : val t f = val t' f := he f (by simp [Call.operands, hc]); simp only [opA, h1, hc, h2]
    | invoke r m => simp only [opA, h1, hc]
    | builtin b => simp only [opA, h1, hc]
  case build ty ps =>
    have h1 : partsA t ps.toList = partsA t' ps.toList := partsA_congr fun x hx => he x.2 (by simp only [List.mem_toArray, List.mem_map]; exact ⟨x, hx, rfl⟩)
    simp only [opA, h1]
  case buildSlice ty n ps =>
    have h1 : partsA t ps.toList = partsA t' ps.toList := partsA_congr fun x hx => he x.2 (by simp only [List.mem_toArray, List.mem_map]; exact ⟨x, hx, rfl⟩)
    simp only [opA, h1]
  case makeFunc f a b =>
    cases f
    case func g =>
      have h1 : vals t a.toList = vals t' a.toList := vals_congr fun x hx => he x (Array.mem_append.2 (.inl (by simpa using hx)))
      have h2 : vals t b.toList = vals t' b.toList := vals_congr fun x hx => he x (Array.mem_append.2 (.inr (by simpa using hx)))
      simp only [opA, h1, h2]
    all_goals rfl
  case makeMap ty r =>
    cases r with
    | none => rfl
    | some r => have h1 : val t r = val t' r := he r (by simp); simp only [opA, h1]
  case slice ty x lo hi mx =>
    have h0 : val t x = val t' x := he x (by simp)
    have h1 : optNat t lo = optNat t' lo := optNat_congr fun y hy => he y (by cases lo <;> simp_all)
    have h2 : optNat t hi = optNat t' hi := optNat_congr fun y hy => he y (by cases hi <;> simp_all)
    have h3 : optNat t mx = optNat t' mx := optNat_congr fun y hy => he y (by cases mx <;> simp_all)
    simp only [opA, h0, h1, h2, h3]
  case next it c =>
    have h1 : val t it = val t' it := he it (by simp)
    cases c with
    | true => simp [opA]
    | false => simp only [opA, h1]
  all_goals first
    | rfl
    | (simp only [opA]; simp_all; done)
    | (simp only [opA]; rw [he _ (by simp)]; done)
    | (simp only [opA]; simp only [he _ (by simp : _ ∈ _)]; done)

end Go.Tame
