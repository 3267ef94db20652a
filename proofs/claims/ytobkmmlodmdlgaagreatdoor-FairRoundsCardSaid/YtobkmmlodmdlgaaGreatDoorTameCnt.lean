/- Names are counted upwards; what only looks leaves memory as it is. -/
import Derived.Test.YtobkmmlodmdlgaaGreatDoorTameOps7
set_option linter.all false
namespace Go.Tame
open Go

theorem newA_cnt {h : Heap} {nx : Nat} {b : Blk} {h' : Heap} {nx' : Nat} (hh : newA h nx b = some (h', nx')) : nx' = nx + 1 ∧ h' = Tr.put (some b) D h nx ∧ nx < 1000000000 := by
  unfold newA at hh
  obtain ⟨h1, h2⟩ := ite_bool hh
  injection h2 with h2; injection h2 with h3 h4
  exact ⟨h4.symm, h3.symm, blt_true.1 h1⟩

theorem appendA_cnt {h : Heap} {nx : Nat} {e : TypeId} {size n : Nat} {s : AV} {new : List AV} {v : AV} {h' : Heap} {nx' : Nat} (hh : appendA h nx e size n s new = some (v, h', nx')) : nx ≤ nx' := by
  unfold appendA at hh
  repeat' split at hh
  all_goals first
    | (cases hh; done)
    | skip
  all_goals (try simp only [Bool.cond_eq_ite] at hh)
  all_goals (repeat' split at hh)
  all_goals first
    | (cases hh; done)
    | (simp only [Option.some.injEq, Prod.mk.injEq] at hh; obtain ⟨_, _, rfl⟩ := hh; first | exact Nat.le_refl _ | (have := (newA_cnt ‹newA _ _ _ = _›).1; omega))

theorem ret_cnt {h : Heap} {nx : Nat} {u : Option AV} {v : AV} {h' : Heap} {nx' : Nat} (hh : ret h nx u = some (.val v h' nx')) : h' = h ∧ nx' = nx := by
  obtain ⟨_, _, hx⟩ := ret_some hh
  injection hx with _ h1 h2
  exact ⟨h1, h2⟩

theorem retH_cnt {u : AV} {o : Option Heap} {nx : Nat} {v : AV} {h' : Heap} {nx' : Nat} (hh : retH nx u o = some (.val v h' nx')) : nx' = nx := by
  obtain ⟨_, _, hx⟩ := retH_some hh
  injection hx

theorem appendB_cnt {T : Tab} {h : Heap} {nx : Nat} {a b : TypeId} {s x : AV} {v : AV} {h' : Heap} {nx' : Nat} (hh : appendB T h nx a b s x = some (.val v h' nx')) : nx ≤ nx' := by
  unfold appendB at hh
  repeat' split at hh
  all_goals (try simp only [Bool.cond_eq_ite] at hh)
  all_goals (repeat' split at hh)
  all_goals first
    | (cases hh; done)
    | exact Nat.le_of_eq (retH_cnt hh).symm
    | exact Nat.le_of_eq (ret_cnt hh).2.symm
    | (simp only [Option.some.injEq, ORes.val.injEq] at hh; obtain ⟨_, _, rfl⟩ := hh; first | exact Nat.le_refl _ | (have := (newA_cnt ‹newA _ _ _ = _›).1; omega) | exact appendA_cnt ‹appendA _ _ _ _ _ _ _ = _›)
    | (simp at hh; done)

theorem copyB_cnt {T : Tab} {h : Heap} {nx : Nat} {a : TypeId} {s x : AV} {v : AV} {h' : Heap} {nx' : Nat} (hh : copyB T h nx a s x = some (.val v h' nx')) : nx ≤ nx' := by
  unfold copyB at hh
  repeat' split at hh
  all_goals (try simp only [Bool.cond_eq_ite] at hh)
  all_goals (repeat' split at hh)
  all_goals first
    | (cases hh; done)
    | exact Nat.le_of_eq (retH_cnt hh).symm
    | exact Nat.le_of_eq (ret_cnt hh).2.symm
    | (simp only [Option.some.injEq, ORes.val.injEq] at hh; obtain ⟨_, _, rfl⟩ := hh; first | exact Nat.le_refl _ | (have := (newA_cnt ‹newA _ _ _ = _›).1; omega) | exact appendA_cnt ‹appendA _ _ _ _ _ _ _ = _›)
    | (simp at hh; done)

theorem deleteB_cnt {T : Tab} {h : Heap} {nx : Nat} {a : TypeId} {s x : AV} {v : AV} {h' : Heap} {nx' : Nat} (hh : deleteB T h nx a s x = some (.val v h' nx')) : nx ≤ nx' := by
  unfold deleteB at hh
  repeat' split at hh
  all_goals (try simp only [Bool.cond_eq_ite] at hh)
  all_goals (repeat' split at hh)
  all_goals first
    | (cases hh; done)
    | exact Nat.le_of_eq (retH_cnt hh).symm
    | exact Nat.le_of_eq (ret_cnt hh).2.symm
    | (simp only [Option.some.injEq, ORes.val.injEq] at hh; obtain ⟨_, _, rfl⟩ := hh; first | exact Nat.le_refl _ | (have := (newA_cnt ‹newA _ _ _ = _›).1; omega) | exact appendA_cnt ‹appendA _ _ _ _ _ _ _ = _›)
    | (simp at hh; done)

theorem clearB_cnt {T : Tab} {h : Heap} {nx : Nat} {a : TypeId} {x : AV} {v : AV} {h' : Heap} {nx' : Nat} (hh : clearB T h nx a x = some (.val v h' nx')) : nx ≤ nx' := by
  unfold clearB at hh
  repeat' split at hh
  all_goals (try simp only [Bool.cond_eq_ite] at hh)
  all_goals (repeat' split at hh)
  all_goals first
    | (cases hh; done)
    | exact Nat.le_of_eq (retH_cnt hh).symm
    | exact Nat.le_of_eq (ret_cnt hh).2.symm
    | (simp only [Option.some.injEq, ORes.val.injEq] at hh; obtain ⟨_, _, rfl⟩ := hh; first | exact Nat.le_refl _ | (have := (newA_cnt ‹newA _ _ _ = _›).1; omega) | exact appendA_cnt ‹appendA _ _ _ _ _ _ _ = _›)
    | (simp at hh; done)

theorem natR_cnt {h : Heap} {nx : Nat} {u : Option Nat} {v : AV} {h' : Heap} {nx' : Nat} (hh : natR h nx u = some (.val v h' nx')) : h' = h ∧ nx' = nx := by
  cases u with
  | none => cases hh
  | some u => simp only [natR, Option.some.injEq, ORes.val.injEq] at hh; exact ⟨hh.2.1.symm, hh.2.2.symm⟩

theorem builtinA_cnt {T : Tab} {h : Heap} {nx : Nat} {b : Builtin} {ats : List TypeId} {args : List AV} {v : AV} {h' : Heap} {nx' : Nat} (hh : builtinA T h nx b ats args = some (.val v h' nx')) : nx ≤ nx' := by
  unfold builtinA at hh
  split at hh
  · exact Nat.le_of_eq (natR_cnt hh).2.symm
  · exact Nat.le_of_eq (natR_cnt hh).2.symm
  · exact Nat.le_of_eq (ret_cnt hh).2.symm
  · exact Nat.le_of_eq (ret_cnt hh).2.symm
  · exact appendB_cnt hh
  · exact copyB_cnt hh
  · exact deleteB_cnt hh
  · exact clearB_cnt hh
  · cases hh

theorem extA_cnt {h : Heap} {nx : Nat} {e : Xt} {args : List AV} {v : AV} {h' : Heap} {nx' : Nat} (hh : extA h nx e args = some (.val v h' nx')) : nx ≤ nx' := by
  unfold extA at hh
  repeat' split at hh
  all_goals (try simp only [Bool.cond_eq_ite] at hh)
  all_goals (repeat' split at hh)
  all_goals first
    | (cases hh; done)
    | exact Nat.le_of_eq (retH_cnt hh).symm
    | exact Nat.le_of_eq (ret_cnt hh).2.symm
    | (simp only [Option.some.injEq, ORes.val.injEq] at hh; obtain ⟨_, _, rfl⟩ := hh; first | exact Nat.le_refl _ | (have := (newA_cnt ‹newA _ _ _ = _›).1; omega) | exact appendA_cnt ‹appendA _ _ _ _ _ _ _ = _›)
    | (simp at hh; done)

theorem callA_cnt {T : Tab} {h : Heap} {nx : Nat} {f : AV} {args : List AV} {v : AV} {h' : Heap} {nx' : Nat} (hh : callA T h nx f args = some (.val v h' nx')) : nx ≤ nx' := by
  unfold callA at hh
  repeat' split at hh
  all_goals (try simp only [Bool.cond_eq_ite] at hh)
  all_goals (repeat' split at hh)
  all_goals first
    | (cases hh; done)
    | exact extA_cnt hh
    | exact Nat.le_of_eq (retH_cnt hh).symm
    | exact Nat.le_of_eq (ret_cnt hh).2.symm
    | (simp only [Option.some.injEq, ORes.val.injEq] at hh; obtain ⟨_, _, rfl⟩ := hh; first | exact Nat.le_refl _ | (have := (newA_cnt ‹newA _ _ _ = _›).1; omega) | exact appendA_cnt ‹appendA _ _ _ _ _ _ _ = _›)
    | (simp at hh; done)

theorem rangeA_cnt {h : Heap} {nx : Nat} {y : AV} {v : AV} {h' : Heap} {nx' : Nat} (hh : rangeA h nx y = some (.val v h' nx')) : nx ≤ nx' := by
  unfold rangeA at hh
  repeat' split at hh
  all_goals first
    | (cases hh; done)
    | (simp only [Option.some.injEq, ORes.val.injEq] at hh; obtain ⟨_, _, rfl⟩ := hh; have := (newA_cnt ‹newA _ _ _ = _›).1; omega)

theorem stepA_cnt {h : Heap} {nx : Nat} {y : AV} {v : AV} {h' : Heap} {nx' : Nat} (hh : stepA h nx y = some (.val v h' nx')) : nx ≤ nx' := by
  unfold stepA nextA at hh
  repeat' split at hh
  all_goals (try simp only [Bool.cond_eq_ite] at hh)
  all_goals (repeat' split at hh)
  all_goals first
    | (cases hh; done)
    | exact Nat.le_of_eq (retH_cnt hh).symm
    | (simp only [Option.some.injEq, ORes.val.injEq] at hh; obtain ⟨_, _, rfl⟩ := hh; exact Nat.le_refl _)

theorem entryA_cnt {h : Heap} {nx : Nat} {y : AV} {v : AV} {h' : Heap} {nx' : Nat} (hh : entryA h nx y = some (.val v h' nx')) : nx ≤ nx' := by
  unfold entryA at hh
  repeat' split at hh
  all_goals (try simp only [Bool.cond_eq_ite] at hh)
  all_goals (repeat' split at hh)
  all_goals first
    | (cases hh; done)
    | (simp only [Option.some.injEq, ORes.val.injEq] at hh; obtain ⟨_, _, rfl⟩ := hh; exact Nat.le_refl _)

theorem opA_cnt {T : Tab} {t : Env} {h : Heap} {nx : Nat} {op : Op} {v : AV} {h' : Heap} {nx' : Nat} (hh : opA T t h nx op = some (.val v h' nx')) : nx ≤ nx' := by
  cases op
  all_goals (simp only [opA] at hh)
  all_goals (repeat' split at hh)
  all_goals (try simp only [Bool.cond_eq_ite] at hh)
  all_goals (repeat' split at hh)
  all_goals first
    | (cases hh; done)
    | exact callA_cnt hh
    | exact rangeA_cnt hh
    | exact stepA_cnt hh
    | exact entryA_cnt hh
    | exact builtinA_cnt hh
    | exact Nat.le_of_eq (retH_cnt hh).symm
    | exact Nat.le_of_eq (ret_cnt hh).2.symm
    | (simp only [Option.some.injEq, ORes.val.injEq] at hh; obtain ⟨_, _, rfl⟩ := hh; first | exact Nat.le_refl _ | (have := (newA_cnt ‹newA _ _ _ = _›).1; omega) | exact appendA_cnt ‹appendA _ _ _ _ _ _ _ = _›)
    | (simp at hh; done)

end Go.Tame
