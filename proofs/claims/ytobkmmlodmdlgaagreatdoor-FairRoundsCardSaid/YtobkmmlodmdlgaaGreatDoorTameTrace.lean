/- The evaluator's way through a region whose order is drawn, step by step. -/
import Derived.Test.YtobkmmlodmdlgaaGreatDoorTamePlan2
set_option linter.all false
namespace Go.Tame
open Go

/-- what one step has done -/
structure OneSpec (T : Tab) (sz : Nat) (call : CallF) (round : RoundF) (ops : Array Oper) (i : Nat) (o : Oper) (p : PI) (s s' : RS) (b : Bool) (v : AV) : Prop where
  want : wantedA s.t ops o = some b
  put : putA sz s.t o.dst v = some s'.t
  vs : s'.vs = Tr.put (some (s.t, v)) D s.vs i
  what : (p.cls = 0 ∧ b = true ∧ Oper.makes o.op = true ∧ ∃ bl h', opA T s.t .nil s.nx o.op = some (.val v h' (s.nx + 1)) ∧ newA .nil s.nx bl = some (h', s.nx + 1) ∧ s'.nx = s.nx + 1 ∧ s'.k = s.k ∧ s'.hs = s.hs ∧ s'.pcs = Tr.put (some (s.nx, bl, p.cp)) D s.pcs i)
    ∨ (p.cls = 0 ∧ b = true ∧ opA T s.t .nil s.nx o.op = some (.val v .nil s.nx) ∧ s'.nx = s.nx ∧ s'.k = s.k ∧ s'.hs = s.hs ∧ s'.pcs = s.pcs)
    ∨ (p.cls ≤ 1 ∧ b = false ∧ v = undefA ∧ s'.nx = s.nx ∧ s'.k = s.k ∧ s'.hs = s.hs ∧ s'.pcs = s.pcs)
    ∨ (p.cls = 1 ∧ b = true ∧ Oper.idle o.op = true ∧ (∃ h, s.mem s.k p.needs = some h ∧ opA T s.t h s.nx o.op = some (.val v h s.nx)) ∧ s'.nx = s.nx ∧ s'.k = s.k ∧ s'.hs = s.hs ∧ s'.pcs = s.pcs)
    ∨ (2 ≤ p.cls ∧ (∃ h h', s.mem s.k p.needs = some h ∧ s'.hs = Tr.put (some h') D s.hs (s.k + 1) ∧ ((b = false ∧ v = undefA ∧ h' = h ∧ s'.nx = s.nx) ∨ (b = true ∧ ∃ x, opA T s.t h s.nx o.op = some x ∧ resOf call round h s.nx x = some (v, h', s'.nx)))) ∧ s'.k = s.k + 1 ∧ s'.pcs = s.pcs)

theorem done_spec {sz : Nat} {s s' : RS} {i : Nat} {dst : Option Nat} {v : AV} {nx : Nat} (h : RS.done sz s i dst v nx = some s') :
    putA sz s.t dst v = some s'.t ∧ s'.vs = Tr.put (some (s.t, v)) D s.vs i ∧ s'.nx = nx ∧ s'.k = s.k ∧ s'.hs = s.hs ∧ s'.pcs = s.pcs := by
  unfold RS.done at h
  split at h
  · rename_i t' ht; injection h with h; subst h; exact ⟨ht, rfl, rfl, rfl, rfl, rfl⟩
  · cases h

theorem write_spec {sz : Nat} {s s' : RS} {i : Nat} {dst : Option Nat} {u : Option (AV × Heap × Nat)} (h : RS.write sz s i dst u = some s') :
    ∃ v h' nx', u = some (v, h', nx') ∧ putA sz s.t dst v = some s'.t ∧ s'.vs = Tr.put (some (s.t, v)) D s.vs i ∧ s'.nx = nx' ∧ s'.k = s.k + 1 ∧ s'.hs = Tr.put (some h') D s.hs (s.k + 1) ∧ s'.pcs = s.pcs := by
  cases u with
  | none => cases h
  | some u =>
    obtain ⟨v, h', nx'⟩ := u
    obtain ⟨h1, h2, h3, h4, h5, h6⟩ := done_spec h
    exact ⟨v, h', nx', rfl, h1, h2, h3, h4, h5, h6⟩

theorem oneA_spec {T : Tab} {sz : Nat} {call : CallF} {round : RoundF} {ops : Array Oper} {i : Nat} {o : Oper} {p : PI} {s s' : RS} (h : oneA T sz call round ops i o p s = some s') : ∃ b v, OneSpec T sz call round ops i o p s s' b v := by
  unfold oneA at h
  split at h
  · cases h
  · rename_i b hw
    split at h
    · rename_i hcls
      cases b with
      | false =>
        simp only [cond_false] at h
        obtain ⟨h1, h2, h3, h4, h5, h6⟩ := done_spec h
        exact ⟨false, undefA, hw, h1, h2, .inr (.inr (.inl ⟨by omega, rfl, rfl, h3, h4, h5, h6⟩))⟩
      | true =>
        simp only [cond_true] at h
        split at h
        · rename_i v h' nx' hop
          split at h
          · rename_i bl hbl
            obtain ⟨hq, h⟩ := ite_bool h
            simp only [Bool.and_eq_true, beq_true] at hq
            obtain ⟨h1, h2, h3, h4, h5, h6⟩ := done_spec h
            obtain ⟨rfl, hm⟩ := hq
            obtain ⟨b2, hb2⟩ := opA_makes hm hop
            refine ⟨true, v, hw, h1, h2, .inl ⟨hcls, rfl, hm, b2, h', hop, hb2, h3, h4, h5, ?_⟩⟩
            rw [h6]
            obtain ⟨_, rfl, hlt⟩ := newA_cnt hb2
            rw [Tr.get_put _ _ _ _ _ (by have := D_pow; omega), if_pos rfl] at hbl
            injection hbl with hbl; rw [hbl]
          · obtain ⟨hq, h⟩ := ite_bool h
            obtain ⟨rfl, rfl⟩ := opA_idle hq hop
            obtain ⟨h1, h2, h3, h4, h5, h6⟩ := done_spec h
            exact ⟨true, v, hw, h1, h2, .inr (.inl ⟨hcls, rfl, hop, h3, h4, h5, h6⟩)⟩
        · cases h
    · rename_i hcls
      cases b with
      | false =>
        simp only [cond_false] at h
        obtain ⟨h1, h2, h3, h4, h5, h6⟩ := done_spec h
        exact ⟨false, undefA, hw, h1, h2, .inr (.inr (.inl ⟨by omega, rfl, rfl, h3, h4, h5, h6⟩))⟩
      | true =>
        simp only [cond_true] at h
        split at h
        · rename_i hh hmem
          split at h
          · rename_i v h' nx' hop
            obtain ⟨hq, h⟩ := ite_bool h
            obtain ⟨rfl, rfl⟩ := opA_idle hq hop
            obtain ⟨h1, h2, h3, h4, h5, h6⟩ := done_spec h
            exact ⟨true, v, hw, h1, h2, .inr (.inr (.inr (.inl ⟨hcls, rfl, hq, ⟨_, hmem, hop⟩, h3, h4, h5, h6⟩)))⟩
          · cases h
        · cases h
    · rename_i hc0 hc1
      have hcls : 2 ≤ p.cls := by
        have h0' : p.cls ≠ 0 := hc0
        have h1' : p.cls ≠ 1 := hc1
        omega
      split at h
      · rename_i hh hmem
        cases b with
        | false =>
          simp only [cond_false] at h
          obtain ⟨v, h', nx', hu, h1, h2, h3, h4, h5, h6⟩ := write_spec h
          simp only [Option.some.injEq, Prod.mk.injEq] at hu; obtain ⟨rfl, rfl, rfl⟩ := hu
          exact ⟨false, undefA, hw, h1, h2, .inr (.inr (.inr (.inr ⟨hcls, ⟨hh, hh, hmem, h5, .inl ⟨rfl, rfl, rfl, h3⟩⟩, h4, h6⟩)))⟩
        | true =>
          simp only [cond_true] at h
          have main : ∀ {x : ORes}, opA T s.t hh s.nx o.op = some x → RS.write sz s i o.dst (resOf call round hh s.nx x) = some s' → ∃ b v, OneSpec T sz call round ops i o p s s' b v := by
            intro x hx hwr
            obtain ⟨v, h', nx', hu, h1, h2, h3, h4, h5, h6⟩ := write_spec hwr
            subst h3
            exact ⟨true, v, hw, h1, h2, .inr (.inr (.inr (.inr ⟨hcls, ⟨hh, h', hmem, h5, .inr ⟨rfl, x, hx, hu⟩⟩, h4, h6⟩)))⟩
          split at h
          · cases h
          · rename_i v h2 nx2 hx; exact main hx h
          · rename_i f args hx; exact main hx h
          · rename_i m args hx; exact main hx h
      · cases h

theorem allA_trace {T : Tab} {sz : Nat} {call : CallF} {round : RoundF} {ops : Array Oper} : ∀ {os : List Oper} {pl : Plan} {i : Nat} {s f : RS}, allA T sz call round ops i os pl s = some f →
    ∃ S : Nat → RS, S i = s ∧ S (i + os.length) = f ∧ ∀ j o p, os[j]? = some o → pl[j]? = some p → ∃ b v, OneSpec T sz call round ops (i + j) o p (S (i + j)) (S (i + j + 1)) b v
  | [], [], i, s, f, h => by simp only [allA] at h; injection h with h; subst h; exact ⟨fun _ => s, rfl, rfl, fun j o p h => by simp at h⟩
  | [], _ :: _, i, s, f, h => by simp [allA] at h
  | _ :: _, [], i, s, f, h => by simp [allA] at h
  | o :: os, p :: pl, i, s, f, h => by
    simp only [allA] at h
    split at h
    · rename_i s1 h1
      obtain ⟨S, hS, hf, hall⟩ := allA_trace h
      have off : ∀ j, j ≠ i → (if j = i then s else S j) = S j := fun j hj => if_neg hj
      refine ⟨fun j => if j = i then s else S j, if_pos rfl, ?_, fun j o' p' ho hp => ?_⟩
      · show (if i + (os.length + 1) = i then s else S (i + (os.length + 1))) = f
        rw [off _ (by omega), ← hf]; congr 1; omega
      · show ∃ b v, OneSpec T sz call round ops (i + j) o' p' (if i + j = i then s else S (i + j)) (if i + j + 1 = i then s else S (i + j + 1)) b v
        cases j with
        | zero =>
          simp at ho hp; subst ho hp
          rw [off (i + 0 + 1) (by omega), if_pos (by omega)]
          have := oneA_spec h1
          rw [← hS] at this; exact this
        | succ j =>
          simp at ho hp
          rw [off _ (by omega), off _ (by omega)]
          have := hall j o' p' ho hp
          rw [show i + (j + 1) = i + 1 + j by omega]
          exact this
    · cases h

end Go.Tame
