/- Plans of regions whose order is drawn: what is checked of them, once a function. -/
import Derived.Test.YtobkmmlodmdlgaaGreatDoorTameCode
set_option linter.all false
namespace Go.Tame
open Go

def memB (x : Nat) : List Nat → Bool
  | [] => false
  | y :: ys => Nat.beq x y || memB x ys

def addB (x : Nat) (l : List Nat) : List Nat := bif memB x l then l else x :: l

def unionB : List Nat → List Nat → List Nat
  | [], l => l
  | x :: xs, l => addB x (unionB xs l)

/-- what must be done ahead of an operation; anc: the like for the operations ahead of it in the text -/
def ancStep (anc : List (List Nat)) : List Edge → List Nat
  | [] => []
  | e :: es => bif Region.binds .any e then addB e.on (unionB (match nth anc e.on with | some l => l | none => []) (ancStep anc es)) else ancStep anc es

def ancGo : List Oper → List (List Nat) → List (List Nat)
  | [], anc => anc
  | o :: os, anc => ancGo os (anc ++ [ancStep anc o.after.toList])

def bef (anc : List (List Nat)) (j i : Nat) : Bool := match nth anc i with
  | some l => memB j l
  | none => false

def writersA : Nat → Plan → List Nat
  | _, [] => []
  | i, p :: ps => match p.cls with
    | 0 => writersA (i + 1) ps
    | 1 => writersA (i + 1) ps
    | _ => i :: writersA (i + 1) ps

def chainA (anc : List (List Nat)) : List Nat → Bool
  | a :: b :: l => bef anc a b && chainA anc (b :: l)
  | _ => true

def needsOk (anc : List (List Nat)) (i : Nat) : List Nat → Bool
  | [] => true
  | p :: ps => Nat.blt p i && bef anc p i && needsOk anc i ps

def cpsAre (pl : Plan) (k : Nat) : List Nat → Bool
  | [] => true
  | p :: ps => (match nth pl p with | some q => Nat.beq q.cp k | none => true) && cpsAre pl k ps

/-- k: so many writers stand ahead in the text -/
def levelsOk (anc : List (List Nat)) (ws : List Nat) (pl : Plan) : Nat → Nat → Plan → Bool
  | _, _, [] => true
  | i, k, p :: ps => match p.cls with
    | 0 => (match nth ws p.cp with
        | none => true
        | some w => match nth pl w with | some q => memB i q.needs | none => false) && levelsOk anc ws pl (i + 1) k ps
    | 1 => (match p.lo with | 0 => true | l + 1 => match nth ws l with | some w => bef anc w i | none => false) &&
        (match nth ws p.hi with | some w => bef anc i w | none => Nat.beq p.hi ws.length) && Nat.ble p.lo k && Nat.ble k p.hi && needsOk anc i p.needs && levelsOk anc ws pl (i + 1) k ps
    | _ => needsOk anc i p.needs && cpsAre pl k p.needs && levelsOk anc ws pl (i + 1) (k + 1) ps

/-- the temporary d is written by number j: who else writes it, or looks at it and is not ordered? -/
def tmpOne (anc : List (List Nat)) (ops : Array Oper) (j d : Nat) : Nat → List Oper → Bool
  | _, [] => true
  | i, o :: os => (bif Nat.beq i j then true else
      (match o.dst with | some e => !(Nat.beq e d) | none => true) &&
      (bif (o.looksAt ops).contains d then (bif Nat.blt j i then bef anc j i else bef anc i j) else true)) && tmpOne anc ops j d (i + 1) os

def tmpAll (anc : List (List Nat)) (ops : Array Oper) : Nat → List Oper → Bool
  | _, [] => true
  | j, o :: os => (match o.dst with | some d => tmpOne anc ops j d 0 ops.toList | none => true) && tmpAll anc ops (j + 1) os

def edgesBack (i : Nat) : List Edge → Bool
  | [] => true
  | e :: es => (bif Region.binds .any e then Nat.blt e.on i else true) && edgesBack i es

def edgesOk : Nat → List Oper → Bool
  | _, [] => true
  | i, o :: os => edgesBack i o.after.toList && edgesOk (i + 1) os

def planOk (ops : Array Oper) (pl : Plan) : Bool :=
  let anc := ancGo ops.toList []
  let ws := writersA 0 pl
  Nat.beq pl.length ops.size && Nat.blt ops.size 1000000000 && edgesOk 0 ops.toList && chainA anc ws && levelsOk anc ws pl 0 0 pl && tmpAll anc ops 0 ops.toList

def planned (T : Tab) (f : FuncId) : Code → Bool
  | .region id ops true => match T.plans.get f with
    | none => true
    | some ps => match ps.get id with
      | none => true
      | some pl => planOk ops pl
  | .seq a b | .cond _ a b => planned T f a && planned T f b
  | .block _ a | .loop a | .scope a => planned T f a
  | .rangeFunc _ _ a b => planned T f a && planned T f b
  | _ => true

/-! ### what the checks say -/
theorem memB_iff {x : Nat} : ∀ {l : List Nat}, memB x l = true ↔ x ∈ l
  | [] => by simp [memB]
  | y :: ys => by simp [memB, memB_iff, beq_true]

theorem mem_addB {x y : Nat} {l : List Nat} : x ∈ addB y l ↔ x = y ∨ x ∈ l := by
  unfold addB
  cases h : memB y l with
  | true => simp; intro h1; subst h1; exact memB_iff.1 h
  | false => simp

theorem mem_unionB {x : Nat} : ∀ {l k : List Nat}, x ∈ unionB l k ↔ x ∈ l ∨ x ∈ k
  | [], k => by simp [unionB]
  | y :: ys, k => by simp [unionB, mem_addB, mem_unionB, or_assoc]

theorem mem_ancStep {anc : List (List Nat)} {x : Nat} : ∀ {es : List Edge}, x ∈ ancStep anc es → ∃ e ∈ es, Region.binds .any e = true ∧ (x = e.on ∨ ∃ l, anc[e.on]? = some l ∧ x ∈ l)
  | [], h => by simp [ancStep] at h
  | e :: es, h => by
    simp only [ancStep] at h
    cases hb : Region.binds .any e with
    | false =>
      rw [hb] at h
      obtain ⟨e', h1, h2⟩ := mem_ancStep (es := es) h
      exact ⟨e', by simp [h1], h2⟩
    | true =>
      rw [hb] at h
      simp only [cond_true, mem_addB, mem_unionB] at h
      rcases h with h | h | h
      · exact ⟨e, by simp, hb, .inl h⟩
      · split at h
        · rename_i l hl
          exact ⟨e, by simp, hb, .inr ⟨l, by rw [← nth_eq]; exact hl, h⟩⟩
        · cases h
      · obtain ⟨e', h1, h2⟩ := mem_ancStep (es := es) h
        exact ⟨e', by simp [h1], h2⟩

theorem ancGo_get : ∀ {os : List Oper} {anc : List (List Nat)} {i : Nat} {l : List Nat}, (ancGo os anc)[i]? = some l →
    anc[i]? = some l ∨ ∃ o, os[i - anc.length]? = some o ∧ anc.length ≤ i ∧ ∃ anc', (∀ j k, anc'[j]? = some k → j < i ∧ (ancGo os anc)[j]? = some k) ∧ l = ancStep anc' o.after.toList
  | [], anc, i, l, h => .inl h
  | o :: os, anc, i, l, h => by
    have keep : ∀ {os : List Oper} {anc : List (List Nat)} {j : Nat} {k : List Nat}, anc[j]? = some k → (ancGo os anc)[j]? = some k := by
      intro os
      induction os with
      | nil => intro anc j k h; exact h
      | cons o os ih =>
        intro anc j k h
        simp only [ancGo]
        exact ih (by rw [List.getElem?_append_left (List.getElem?_eq_some_iff.1 h).1]; exact h)
    simp only [ancGo] at h ⊢
    rcases ancGo_get h with h1 | ⟨o', h1, h2, anc', h3, h4⟩
    · by_cases hlt : i < anc.length
      · exact .inl (by rw [List.getElem?_append_left hlt] at h1; exact h1)
      · rw [List.getElem?_append_right (by omega)] at h1
        have hi : i - anc.length = 0 := by
          rcases Nat.eq_zero_or_pos (i - anc.length) with h5 | h5
          · exact h5
          · rw [List.getElem?_eq_none (by simp; omega)] at h1; cases h1
        rw [hi] at h1; simp at h1
        refine .inr ⟨o, by rw [hi]; rfl, by omega, anc, fun j k hj => ⟨?_, ?_⟩, h1.symm⟩
        · have := (List.getElem?_eq_some_iff.1 hj).1; omega
        · exact keep (by rw [List.getElem?_append_left (List.getElem?_eq_some_iff.1 hj).1]; exact hj)
    · simp only [List.length_append, List.length_singleton] at h1 h2
      refine .inr ⟨o', ?_, by omega, anc', h3, h4⟩
      have : i - anc.length = (i - (anc.length + 1)) + 1 := by omega
      rw [this]; simpa using h1

/-- what is ahead of something that is ready, or done, is done -/
theorem bef_listed {ops : Array Oper} {L : Nat → Prop} (down : ∀ i o, ops[i]? = some o → L i → ∀ e ∈ o.after, Region.binds .any e = true → L e.on) :
    ∀ (i : Nat) (o : Oper), ops[i]? = some o → (∀ e ∈ o.after, Region.binds .any e = true → L e.on) → ∀ j, bef (ancGo ops.toList []) j i = true → L j := by
  intro i
  induction i using Nat.strongRecOn with
  | _ i ih =>
    intro o ho hready j hj
    unfold bef at hj
    split at hj
    · rename_i l hl
      rw [nth_eq] at hl
      rcases ancGo_get hl with h1 | ⟨o', h1, _, anc', h3, rfl⟩
      · simp at h1
      · simp at h1
        rw [h1] at ho; injection ho with ho; subst ho
        obtain ⟨e, he, hb, hx⟩ := mem_ancStep (memB_iff.1 hj)
        have hle := hready e (by simpa using he) hb
        rcases hx with rfl | ⟨k, hk, hx⟩
        · exact hle
        · obtain ⟨hlt, hk'⟩ := h3 _ _ hk
          have hsz : e.on < ops.size := by
            have := (Array.getElem?_eq_some_iff.1 h1).1
            omega
          obtain ⟨o2, ho2⟩ : ∃ o2, ops[e.on]? = some o2 := ⟨_, Array.getElem?_eq_getElem hsz⟩
          exact ih e.on hlt o2 ho2 (down _ _ ho2 hle) j (by unfold bef; rw [nth_eq, hk']; exact memB_iff.2 hx)
    · cases hj

end Go.Tame
