/- A table, from lists; what is checked of it by one computation. -/
import Derived.Test.YtobkmmlodmdlgaaGreatDoorTamePlain
set_option linter.all false
namespace Go.Tame
open Go

deriving instance DecidableEq for TD

def ofList {α : Type} : List (Nat × α) → Tr α
  | [] => .nil
  | (n, x) :: l => Tr.put (some x) D (ofList l) n

def small {α : Type} : List (Nat × α) → Bool
  | [] => true
  | (n, _) :: l => Nat.blt n 1000000000 && small l

theorem ofList_get {α : Type} : ∀ {l : List (Nat × α)} {n : Nat} {x : α}, small l = true → (ofList l).get n = some x → (n, x) ∈ l
  | [], n, x, _, h => by cases h
  | (m, y) :: l, n, x, hs, h => by
    simp only [small, Bool.and_eq_true, blt_true] at hs
    simp only [ofList] at h
    rw [Tr.get_put _ _ _ _ _ (by have := D_pow; omega)] at h
    by_cases hn : n = m
    · subst hn; rw [if_pos rfl] at h; injection h with h; subst h; simp
    · rw [if_neg hn] at h; exact List.mem_cons_of_mem _ (ofList_get hs.2 h)

/-- of all elements; a plain conjunction -/
def Each {α : Type} (p : α → Prop) : List α → Prop
  | [] => True
  | x :: l => p x ∧ Each p l

theorem Each.mem {α : Type} {p : α → Prop} : ∀ {l : List α}, Each p l → ∀ x ∈ l, p x
  | [], _, x, h => by cases h
  | y :: l, ⟨h1, h2⟩, x, h => by
    rcases List.mem_cons.1 h with rfl | h
    · exact h1
    · exact Each.mem h2 x h

def eachB {α : Type} (p : α → Bool) : List α → Bool
  | [] => true
  | x :: l => p x && eachB p l

theorem eachB_mem {α : Type} {p : α → Bool} : ∀ {l : List α}, eachB p l = true → ∀ x ∈ l, p x = true
  | [], _, x, h => by cases h
  | y :: l, hp, x, h => by
    simp only [eachB, Bool.and_eq_true] at hp
    rcases List.mem_cons.1 h with rfl | h
    · exact hp.1
    · exact eachB_mem hp.2 x h

/-! ### types -/
def relLeaf : AV → Value → Bool
  | .int k n, .int k' n' => decide (k = k') && decide (n = n')
  | .bool a, .bool b => decide (a = b)
  | .nilptr, .pointer none => true
  | .nilslice, .slice none l c => Nat.beq l 0 && Nat.beq c 0
  | .nilmap, .map none => true
  | .nilfunc, .nilFunc => true
  | .niliface, .nilIface => true
  | .con (.string s), .string s' => s.data.toList.isEmpty && s'.data.toList.isEmpty
  | _, _ => false

theorem noBytes {s : ByteArray} (h : s.data.toList.isEmpty = true) : s = ⟨#[]⟩ := by
  obtain ⟨d⟩ := s
  have : d.toList = [] := by simpa using h
  have h2 : d = #[] := by apply Array.toList_inj.1; simpa using this
  rw [h2]

def relLeafs : List AV → List Value → Bool
  | [], [] => true
  | a :: ls, v :: vs => relLeaf a v && relLeafs ls vs
  | _, _ => false

theorem relLeaf_ok {ρ : Ren} {a : AV} {v : Value} (h : relLeaf a v = true) : VRel ρ a v := by
  unfold relLeaf at h
  split at h
  · simp at h; simp [VRel, h]
  · simp at h; simp [VRel, h]
  · simp [VRel]
  · simp at h; simp [VRel, h]
  · simp [VRel]
  · simp [VRel]
  · simp [VRel]
  · simp only [Bool.and_eq_true] at h
    simp only [VRel]; exact ⟨by rw [noBytes h.1, noBytes h.2], rfl⟩
  · cases h

theorem relLeafs_ok {ρ : Ren} : ∀ {ls : List AV} {vs : List Value}, relLeafs ls vs = true → VRels ρ ls vs
  | [], [], _ => VRels.nil ρ
  | [], _ :: _, h => by simp [relLeafs] at h
  | _ :: _, [], h => by simp [relLeafs] at h
  | a :: ls, v :: vs, h => by
    simp only [relLeafs, Bool.and_eq_true] at h
    exact VRels.cons (relLeaf_ok h.1) (relLeafs_ok h.2)

def isAggV : Value → Bool
  | .agg _ => true
  | _ => false

def fieldsKnown (P : Program) : TypeDesc → Bool
  | .struct gs => gs.toList.all fun f => (P.info? f.type).isSome
  | _ => true

def tiOk (P : Program) (t : TypeId) (ti : TI) : Bool :=
  match P.info? t, P.underlying t with
  | some i, some d => match i.zero with
    | some z => Nat.beq i.size ti.size && Nat.beq i.bytes ti.bytes && relLeafs ti.zero z.cells.toList && Nat.beq ti.zero.length ti.size && (bif isAggD ti.d then isAggV z else leafV z) && decide (ti.d = tdOf d) && fieldsKnown P d
    | none => false
  | _, _ => false

theorem tiOk_ok {P : Program} {t : TypeId} {ti : TI} (h : tiOk P t ti = true) : ∃ i d z, TIOk P t ti i d z := by
  unfold tiOk at h
  split at h
  · rename_i i d hi hd
    split at h
    · rename_i z hz
      simp only [Bool.and_eq_true, beq_true, decide_eq_true_eq] at h
      obtain ⟨⟨⟨⟨⟨⟨h1, h2⟩, h3⟩, h4⟩, h5⟩, h6⟩, h7⟩ := h
      have hr := relLeafs_ok (ρ := fun _ => none) h3
      refine ⟨i, d, z, hi, h1, h2, hz, hr, ?_, hd, h6, fun hg => ?_, fun hg => ?_, fun gs hgs f hf => ?_⟩
      · have := hr.length; simp at this; omega
      · rw [hg] at h5; simp only [cond_true] at h5
        cases z <;> simp [isAggV] at h5
        exact ⟨_, rfl⟩
      · rw [hg] at h5; exact h5
      · subst hgs
        simp only [fieldsKnown, List.all_eq_true] at h7
        exact h7 f hf
    · cases h
  · cases h

/-! ### functions that the model answers -/
theorem callFunc_ext {P : Program} {f : FuncId} {fn : Func} {e : Array Value → Sem Value} (hf : P.funcs[f]? = some fn) (hname : (fn.name == "runtime.NumGoroutine") = false) (hb : fn.body.isNone = true) (hn : Extern.findNext fn = none)
    (he : Extern.find fn = some e) (args : Array Value) (w : World) : (callFunc f args).run P w = ((e args).run P w).andThen fun v w' => .ok (.value v) w' := by
  have h1 : ¬ fn.name = "runtime.NumGoroutine" := by simpa using hname
  have h2 : fn.body = none := by simpa using hb
  simp [callFunc, run_program, hf, h1, h2, hn, he]

/-! ### the table -/
def findB (n : Nat) (zs : List AV) : List (Nat × List AV) → Bool
  | [] => false
  | (m, ys) :: l => (Nat.beq n m && sames zs ys) || findB n zs l

theorem findB_mem {n : Nat} {zs : List AV} : ∀ {l : List (Nat × List AV)}, findB n zs l = true → (n, zs) ∈ l
  | [], h => by cases h
  | (m, ys) :: l, h => by
    simp only [findB, Bool.or_eq_true, Bool.and_eq_true, beq_true] at h
    rcases h with ⟨h1, h2⟩ | h
    · rw [h1, sames_eq h2]; simp
    · exact List.mem_cons_of_mem _ (findB_mem h)

structure TabFacts (T : Tab) (P : Program) where
  tyL : List (Nat × TI)
  fnL : List (Nat × Func)
  exL : List (Nat × Xt)
  types : T.types = ofList tyL
  funcs : T.funcs = ofList fnL
  exts : T.exts = ofList exL
  tySmall : small tyL = true
  fnSmall : small fnL = true
  exSmall : small exL = true
  tyOk : eachB (fun x => tiOk P x.1 x.2) tyL = true
  plL : List (Nat × List AV)
  tyPlain : Each (fun x => PlainOk P x.1 x.2) plL
  plIn : eachB (fun x => bif x.2.plainEq then findB x.1 x.2.zero plL else true) tyL = true
  fnOk : Each (fun x => P.funcs[x.1]? = some x.2 ∧ ∀ args w, (callFunc x.1 args).run P w = .ok (.enter x.1 args) w) fnL
  exOk : Each (fun x => ∀ args w, (callFunc x.1 args).run P w = ((extSem x.2 args).run P w).andThen fun v w' => .ok (.value v) w') exL
  plOk : eachB (fun x => match x.2.body with | some c => planned T x.1 c | none => true) fnL = true

theorem TabFacts.ok {T : Tab} {P : Program} (F : TabFacts T P) : TabOk T P where
  types := fun t ti h => tiOk_ok (eachB_mem F.tyOk (t, ti) (ofList_get F.tySmall (F.types ▸ h)))
  plain := fun t ti h hp => by
    have := eachB_mem F.plIn (t, ti) (ofList_get F.tySmall (F.types ▸ h))
    simp only [hp, cond_true] at this
    exact F.tyPlain.mem (t, ti.zero) (findB_mem this)
  funcs := fun f fn h => (F.fnOk.mem (f, fn) (ofList_get F.fnSmall (F.funcs ▸ h))).1
  call := fun f fn c h _ args w => (F.fnOk.mem (f, fn) (ofList_get F.fnSmall (F.funcs ▸ h))).2 args w
  exts := fun f x h args w => F.exOk.mem (f, x) (ofList_get F.exSmall (F.exts ▸ h)) args w

theorem TabFacts.planned {T : Tab} {P : Program} (F : TabFacts T P) : ∀ f fn c, T.funcs.get f = some fn → fn.body = some c → planned T f c = true := fun f fn c h hb => by
  have := eachB_mem F.plOk (f, fn) (ofList_get F.fnSmall (F.funcs ▸ h))
  simp only [hb] at this
  exact this

def overB (T : Tab) : Xt → Bool
  | .overlaps s ty => match T.types.get ty with
    | some ti => match ti.d with
      | .slice e => match T.types.get e with
        | some te => Nat.beq te.size s
        | none => false
      | _ => false
    | none => false
  | _ => true

theorem TabFacts.over {T : Tab} {P : Program} (F : TabFacts T P) (h : eachB (fun x => overB T x.2) F.exL = true) : OverOk T := fun f s ty hf => by
  have := eachB_mem h (f, .overlaps s ty) (ofList_get F.exSmall (F.exts ▸ hf))
  simp only [overB] at this
  split at this
  · rename_i ti hti
    split at this
    · rename_i e he
      split at this
      · rename_i te hte
        exact ⟨e, ti, te, hti, he, hte, beq_true.1 this⟩
      · cases this
    · cases this
  · cases this

end Go.Tame
