/- The relation between the evaluator's memory and the model's world; what an evaluation leaves alone. -/
import Derived.Test.YtobkmmlodmdlgaaGreatDoorTameRel
import Derived.Laws.World
set_option linter.all false
namespace Go.Tame
open Go

structure Place where
  block : Nat
  off : Nat
  cap : Option Nat

abbrev Ren := Nat → Option Place

def Place.addr (p : Place) (o : Nat) : Addr := ⟨p.block, p.off + o, none⟩

mutual
def VRel (ρ : Ren) : AV → Value → Prop
  | .int k n, v => v = .int k n
  | .bool b, v => v = .bool b
  | .ptr m o, v => ∃ p, ρ m = some p ∧ v = .pointer (some (p.addr o))
  | .gptr g o, v => v = .pointer (some ⟨g, o, none⟩)
  | .nilptr, v => v = .pointer none
  | .slice m o len cap opn, v => ∃ p, ρ m = some p ∧
      ((opn = false ∧ v = .slice (some (p.addr o)) len cap) ∨ (opn = true ∧ ∃ C, p.cap = some C ∧ cap + len ≤ C ∧ v = .slice (some (p.addr o)) len (C - cap)))
  | .empty, v => ∃ a c, v = .slice (some a) 0 c
  | .nilslice, v => v = .slice none 0 0
  | .map m, v => ∃ p, ρ m = some p ∧ v = .map (some p.block)
  | .nilmap, v => v = .map none
  | .func f a c, v => ∃ as cs, v = .func (.func f) as.toArray cs.toArray ∧ VRels ρ a as ∧ VRels ρ c cs
  | .yield m, v => ∃ p, ρ m = some p ∧ v = .func (.yield p.block) #[] #[]
  | .nilfunc, v => v = .nilFunc
  | .niliface, v => v = .nilIface
  | .iface t x, v => ∃ y, v = .iface t y ∧ VRel ρ x y
  | .agg cs, v => ∃ vs, v = .agg vs.toArray ∧ VRels ρ cs vs
  | .tup cs, v => ∃ vs, v = .tuple vs.toArray ∧ VRels ρ cs vs
  | .con x, v => v = x ∧ leafV x = true
def VRels (ρ : Ren) : List AV → List Value → Prop
  | [], vs => vs = []
  | a :: as, vs => ∃ v vs', vs = v :: vs' ∧ VRel ρ a v ∧ VRels ρ as vs'
end

theorem VRel.closed {ρ : Ren} {m : Nat} {p : Place} (h : ρ m = some p) (o len cap : Nat) : VRel ρ (.slice m o len cap false) (.slice (some (p.addr o)) len cap) := by
  unfold VRel; exact ⟨p, h, .inl ⟨rfl, rfl⟩⟩
theorem VRel.opened {ρ : Ren} {m : Nat} {p : Place} (h : ρ m = some p) {C : Nat} (hC : p.cap = some C) (o : Nat) {len cap : Nat} (hc : cap + len ≤ C) : VRel ρ (.slice m o len cap true) (.slice (some (p.addr o)) len (C - cap)) := by
  unfold VRel; exact ⟨p, h, .inr ⟨rfl, C, hC, hc, rfl⟩⟩
theorem VRel.of_closed {ρ : Ren} {m o len cap : Nat} {v : Value} (h : VRel ρ (.slice m o len cap false) v) : ∃ p, ρ m = some p ∧ v = .slice (some (p.addr o)) len cap := by
  unfold VRel at h; obtain ⟨p, hp, (⟨_, h⟩ | ⟨h, _⟩)⟩ := h
  · exact ⟨p, hp, h⟩
  · cases h
theorem VRel.of_opened {ρ : Ren} {m o len cap : Nat} {v : Value} (h : VRel ρ (.slice m o len cap true) v) : ∃ p C, ρ m = some p ∧ p.cap = some C ∧ cap + len ≤ C ∧ v = .slice (some (p.addr o)) len (C - cap) := by
  unfold VRel at h; obtain ⟨p, hp, (⟨h, _⟩ | ⟨_, C, h1, h2, h3⟩)⟩ := h
  · cases h
  · exact ⟨p, C, hp, h1, h2, h3⟩
theorem VRel.of_slice {ρ : Ren} {m o len cap : Nat} {opn : Bool} {v : Value} (h : VRel ρ (.slice m o len cap opn) v) : ∃ p c, ρ m = some p ∧ v = .slice (some (p.addr o)) len c := by
  cases opn with
  | false => obtain ⟨p, hp, h⟩ := h.of_closed; exact ⟨p, _, hp, h⟩
  | true => obtain ⟨p, C, hp, _, _, h⟩ := h.of_opened; exact ⟨p, _, hp, h⟩
theorem VRel.at_ptr {ρ : Ren} {m : Nat} {p : Place} (h : ρ m = some p) (o : Nat) : VRel ρ (.ptr m o) (.pointer (some (p.addr o))) := by
  unfold VRel; exact ⟨p, h, rfl⟩
theorem VRel.of_ptr {ρ : Ren} {m o : Nat} {v : Value} (h : VRel ρ (.ptr m o) v) : ∃ p, ρ m = some p ∧ v = .pointer (some (p.addr o)) := by
  unfold VRel at h; exact h

def Ren.le (ρ ρ' : Ren) : Prop := ∀ m p, ρ m = some p → ρ' m = some p
theorem Ren.le_refl (ρ : Ren) : ρ.le ρ := fun _ _ h => h
theorem Ren.le_trans {a b c : Ren} (h : a.le b) (k : b.le c) : a.le c := fun m p hp => k m p (h m p hp)

mutual
theorem VRel.mono {ρ ρ' : Ren} (h : ρ.le ρ') : ∀ (a : AV) (v : Value), VRel ρ a v → VRel ρ' a v
  | .int .., _, hv | .bool _, _, hv | .gptr .., _, hv | .nilptr, _, hv | .empty, _, hv | .nilslice, _, hv | .nilmap, _, hv | .nilfunc, _, hv | .niliface, _, hv | .con _, _, hv => by
    simpa [VRel] using hv
  | .ptr .., _, hv => by
    obtain ⟨p, hp, hv⟩ := (by simpa only [VRel] using hv); simp only [VRel]; exact ⟨p, h _ _ hp, hv⟩
  | .slice .., _, hv => by
    obtain ⟨p, hp, hv⟩ := (by simpa only [VRel] using hv); simp only [VRel]; exact ⟨p, h _ _ hp, hv⟩
  | .map .., _, hv => by
    obtain ⟨p, hp, hv⟩ := (by simpa only [VRel] using hv); simp only [VRel]; exact ⟨p, h _ _ hp, hv⟩
  | .yield .., _, hv => by
    obtain ⟨p, hp, hv⟩ := (by simpa only [VRel] using hv); simp only [VRel]; exact ⟨p, h _ _ hp, hv⟩
  | .func _ a c, _, hv => by
    obtain ⟨as, cs, hv, h1, h2⟩ := (by simpa only [VRel] using hv); simp only [VRel]; exact ⟨as, cs, hv, VRels.mono h a as h1, VRels.mono h c cs h2⟩
  | .iface _ x, _, hv => by
    obtain ⟨y, hv, h1⟩ := (by simpa only [VRel] using hv); simp only [VRel]; exact ⟨y, hv, VRel.mono h x y h1⟩
  | .agg cs, _, hv => by
    obtain ⟨y, hv, h1⟩ := (by simpa only [VRel] using hv); simp only [VRel]; exact ⟨y, hv, VRels.mono h cs y h1⟩
  | .tup cs, _, hv => by
    obtain ⟨y, hv, h1⟩ := (by simpa only [VRel] using hv); simp only [VRel]; exact ⟨y, hv, VRels.mono h cs y h1⟩
theorem VRels.mono {ρ ρ' : Ren} (h : ρ.le ρ') : ∀ (a : List AV) (v : List Value), VRels ρ a v → VRels ρ' a v
  | [], _, hv => by simpa [VRels] using hv
  | a :: as, _, hv => by
    obtain ⟨v, vs, rfl, h1, h2⟩ := (by simpa only [VRels] using hv)
    simp only [VRels]; exact ⟨v, vs, rfl, VRel.mono h a v h1, VRels.mono h as vs h2⟩
end

theorem VRels.nil (ρ : Ren) : VRels ρ [] [] := by simp [VRels]
theorem VRels.cons {ρ : Ren} {a : AV} {v : Value} {as : List AV} {vs : List Value} (h : VRel ρ a v) (k : VRels ρ as vs) : VRels ρ (a :: as) (v :: vs) := by
  simp only [VRels]; exact ⟨v, vs, rfl, h, k⟩
theorem VRels.length {ρ : Ren} : ∀ {as : List AV} {vs : List Value}, VRels ρ as vs → vs.length = as.length
  | [], vs, h => by simp [VRels] at h; simp [h]
  | a :: as, vs, h => by
    simp only [VRels] at h
    obtain ⟨v, vs', rfl, _, h2⟩ := h
    simp [VRels.length h2]
theorem VRels.get {ρ : Ren} : ∀ {as : List AV} {vs : List Value}, VRels ρ as vs → ∀ {i : Nat} {a : AV}, as[i]? = some a → ∃ v, vs[i]? = some v ∧ VRel ρ a v
  | [], vs, h, i, a, hi => by simp at hi
  | a :: as, vs, h, i, b, hi => by
    simp only [VRels] at h
    obtain ⟨v, vs', rfl, h1, h2⟩ := h
    cases i with
    | zero => simp at hi; subst hi; exact ⟨v, by simp, h1⟩
    | succ i => simp at hi; obtain ⟨u, hu, hr⟩ := VRels.get h2 hi; exact ⟨u, by simpa using hu, hr⟩
theorem VRels.of_get {ρ : Ren} : ∀ {as : List AV} {vs : List Value}, vs.length = as.length → (∀ (i : Nat) (a : AV), as[i]? = some a → ∃ v, vs[i]? = some v ∧ VRel ρ a v) → VRels ρ as vs
  | [], vs, hl, _ => by
    have : vs = [] := List.eq_nil_of_length_eq_zero (by simpa using hl)
    subst this; exact VRels.nil ρ
  | a :: as, [], hl, _ => by simp at hl
  | a :: as, v :: vs, hl, h => by
    obtain ⟨u, hu, hr⟩ := h 0 a (by simp)
    simp at hu; subst hu
    exact VRels.cons hr (VRels.of_get (by simpa using hl) fun i b hb => by
      obtain ⟨u, hu, hr⟩ := h (i + 1) b (by simpa using hb)
      exact ⟨u, by simpa using hu, hr⟩)
theorem VRels.append {ρ : Ren} {as bs : List AV} {vs us : List Value} (h : VRels ρ as vs) (k : VRels ρ bs us) : VRels ρ (as ++ bs) (vs ++ us) := by
  refine VRels.of_get (by simp [h.length, k.length]) fun i a hi => ?_
  by_cases hl : i < as.length
  · rw [List.getElem?_append_left hl] at hi
    obtain ⟨v, hv, hr⟩ := h.get hi
    exact ⟨v, by rw [List.getElem?_append_left (by rw [h.length]; exact hl)]; exact hv, hr⟩
  · rw [List.getElem?_append_right (by omega)] at hi
    obtain ⟨v, hv, hr⟩ := k.get hi
    exact ⟨v, by rw [List.getElem?_append_right (by rw [h.length]; omega), h.length]; exact hv, hr⟩

theorem VRel.notAgg {ρ : Ren} {a : AV} {v : Value} (h : VRel ρ a v) (ha : ∀ cs, a ≠ .agg cs) : v.cells = #[v] := by
  cases a <;> simp only [VRel] at h
  case agg cs => exact absurd rfl (ha cs)
  case con x => obtain ⟨rfl, hl⟩ := h; cases v <;> simp_all [leafV, Value.cells]
  case ptr => obtain ⟨p, _, rfl⟩ := h; rfl
  case slice => obtain ⟨p, _, (⟨_, rfl⟩ | ⟨_, C, _, _, rfl⟩)⟩ := h <;> rfl
  case empty => obtain ⟨a, c, rfl⟩ := h; rfl
  case map => obtain ⟨p, _, rfl⟩ := h; rfl
  case func => obtain ⟨p, _, rfl, _⟩ := h; rfl
  case yield => obtain ⟨p, _, rfl⟩ := h; rfl
  case iface => obtain ⟨p, rfl, _⟩ := h; rfl
  case tup => obtain ⟨p, rfl, _⟩ := h; rfl
  all_goals (subst h; rfl)

/-- a value's cells -/
theorem VRel.cells {ρ : Ren} {a : AV} {v : Value} (h : VRel ρ a v) : VRels ρ a.cells v.cells.toList := by
  by_cases ha : ∃ cs, a = .agg cs
  · obtain ⟨cs, rfl⟩ := ha
    simp only [VRel] at h
    obtain ⟨vs, rfl, h⟩ := h
    simpa [AV.cells, Value.cells] using h
  · have h1 : a.cells = [a] := by
      cases a <;> first | rfl | exact absurd ⟨_, rfl⟩ ha
    rw [h1, h.notAgg (fun cs e => ha ⟨cs, e⟩)]
    exact VRels.cons h (VRels.nil ρ)

theorem VRel.leaf {ρ : Ren} {a : AV} {v : Value} (h : VRel ρ a v) (hl : a.leaf = true) : leafV v = true := by
  cases a <;> simp only [VRel] at h <;> simp only [AV.leaf] at hl
  case agg cs => simp at hl
  case tup cs => simp at hl
  case con x => obtain ⟨rfl, hl⟩ := h; exact hl
  case ptr => obtain ⟨p, _, rfl⟩ := h; rfl
  case slice => obtain ⟨p, _, (⟨_, rfl⟩ | ⟨_, C, _, _, rfl⟩)⟩ := h <;> rfl
  case empty => obtain ⟨a, c, rfl⟩ := h; rfl
  case map => obtain ⟨p, _, rfl⟩ := h; rfl
  case func => obtain ⟨p, _, rfl, _⟩ := h; rfl
  case yield => obtain ⟨p, _, rfl⟩ := h; rfl
  case iface => obtain ⟨p, rfl, _⟩ := h; rfl
  all_goals (subst h; rfl)

/-! ### constants -/
theorem VRel.ofLeaf (ρ : Ren) (v : Value) (hl : leafV v = true) : VRel ρ (ofLeaf v) v := by
  unfold Tame.ofLeaf
  split <;> simp_all [VRel, leafV]
theorem VRels.ofLeaf (ρ : Ren) : ∀ (l : List Value), l.all leafV = true → VRels ρ (l.map Tame.ofLeaf) l
  | [], _ => VRels.nil ρ
  | v :: vs, h => by
    simp only [List.all_cons, Bool.and_eq_true] at h
    exact VRels.cons (VRel.ofLeaf ρ v h.1) (VRels.ofLeaf ρ vs h.2)
theorem VRel.ofValue (ρ : Ren) (v : Value) (hl : constOk v = true) : VRel ρ (ofValue v) v := by
  unfold Tame.ofValue
  split
  · rename_i cs
    simp only [VRel]
    exact ⟨cs.toList, rfl, VRels.ofLeaf ρ _ (by simpa [constOk] using hl)⟩
  · rename_i cs
    simp only [VRel]
    exact ⟨cs.toList, rfl, VRels.ofLeaf ρ _ (by simpa [constOk] using hl)⟩
  · rename_i h1 h2
    refine VRel.ofLeaf ρ v ?_
    cases v <;> simp_all [leafV]

/-! ### environments -/
structure ERel (ρ : Ren) (sz : Nat) (t : Env) (tmps : Array Value) : Prop where
  size : tmps.size = sz
  get : ∀ (i : Nat) (a : AV), t.get i = some a → ∃ v, tmps[i]? = some v ∧ VRel ρ a v

theorem ERel.mono {ρ ρ' : Ren} (h : ρ.le ρ') {sz : Nat} {t : Env} {tmps : Array Value} (e : ERel ρ sz t tmps) : ERel ρ' sz t tmps :=
  ⟨e.size, fun i a hi => let ⟨v, hv, hr⟩ := e.get i a hi; ⟨v, hv, hr.mono h⟩⟩

theorem ERel.val {ρ : Ren} {sz : Nat} {t : Env} {a : Act} (e : ERel ρ sz t a.tmps) {x : Operand} {v : AV} (h : val t x = some v) : VRel ρ v (a.eval x) := by
  cases x with
  | tmp i =>
    obtain ⟨u, hu, hr⟩ := e.get i v h
    have : a.eval (.tmp i) = u := by simp [Act.eval, Array.getD_eq_getD_getElem?, hu]
    rw [this]; exact hr
  | const c =>
    simp only [Tame.val] at h
    cases hc : constOk c with
    | false => rw [hc] at h; simp at h
    | true => rw [hc] at h; simp at h; subst h; exact VRel.ofValue ρ c hc
  | global g => simp only [Tame.val] at h; injection h with h; subst h; simp [VRel, Act.eval]
  | func f => simp only [Tame.val] at h; injection h with h; subst h; simp only [VRel, Act.eval]; exact ⟨[], [], rfl, VRels.nil ρ, VRels.nil ρ⟩

theorem ERel.vals {ρ : Ren} {sz : Nat} {t : Env} {a : Act} (e : ERel ρ sz t a.tmps) : ∀ {xs : List Operand} {vs : List AV}, vals t xs = some vs → VRels ρ vs (xs.map a.eval)
  | [], vs, h => by simp [Tame.vals] at h; subst h; exact VRels.nil ρ
  | x :: xs, vs, h => by
    simp only [Tame.vals] at h
    split at h
    · cases h
    · rename_i v hv
      split at h
      · cases h
      · rename_i ws hw
        injection h with h; subst h
        exact VRels.cons (e.val hv) (e.vals hw)

theorem blt_true {a b : Nat} : Nat.blt a b = true ↔ a < b := by
  unfold Nat.blt; rw [Nat.ble_eq]; exact Iff.rfl

theorem ble_true {a b : Nat} : Nat.ble a b = true ↔ a ≤ b := by rw [Nat.ble_eq]

theorem ERel.put {ρ : Ren} {sz : Nat} {t t' : Env} {a : Act} (e : ERel ρ sz t a.tmps) {dst : Option Nat} {v : AV} {cv : Value} (hp : putA sz t dst v = some t') (hr : VRel ρ v cv) :
    ERel ρ sz t' (a.put dst cv).tmps := by
  cases dst with
  | none => simp only [putA] at hp; injection hp with hp; subst hp; exact e
  | some d =>
    simp only [putA] at hp
    cases hb : (Nat.blt d sz && Nat.blt d 1000000000) with
    | false => rw [hb] at hp; simp at hp
    | true =>
      rw [hb] at hp; simp only [cond_true] at hp; injection hp with hp; subst hp
      simp only [Bool.and_eq_true, blt_true] at hb
      refine ⟨by simp [Act.put, e.size], fun i b hi => ?_⟩
      rw [Tr.get_put _ _ _ _ _ (by have : (2:Nat) ^ D = 1099511627776 := rfl; omega)] at hi
      simp only [Act.put]
      by_cases hid : i = d
      · subst hid
        rw [if_pos rfl] at hi; injection hi with hi; subst hi
        exact ⟨cv, by rw [Array.getElem?_setIfInBounds_self_of_lt (by rw [e.size]; exact hb.1)], hr⟩
      · rw [if_neg hid] at hi
        obtain ⟨u, hu, hr'⟩ := e.get i b hi
        exact ⟨u, by rw [Array.getElem?_setIfInBounds_ne (by omega)]; exact hu, hr'⟩

/-! ### blocks and the world -/
def ESRel (ρ : Ren) : List (AV × AV × Nat) → List MapEntry → Prop
  | [], es => es = []
  | (k, v, b) :: as, es => ∃ e es', es = e :: es' ∧ VRel ρ k e.key ∧ VRel ρ v e.val ∧ e.born = b ∧ ESRel ρ as es'

theorem ESRel.mono {ρ ρ' : Ren} (h : ρ.le ρ') : ∀ (as : List (AV × AV × Nat)) (es : List MapEntry), ESRel ρ as es → ESRel ρ' as es
  | [], _, hv => hv
  | (k, v, b) :: as, _, hv => by
    obtain ⟨e, es', rfl, h1, h2, h3, h4⟩ := hv
    exact ⟨e, es', rfl, h1.mono h, h2.mono h, h3, ESRel.mono h as es' h4⟩

def Out.code : Out → Option Code
  | .normal => none
  | .exit id => some (.exit id)
  | .ret => some .ret

/-- what a block stands for -/
def BRel (T : Tab) (ρ : Ren) (p : Place) : Blk → Obj → Prop
  | .cells e cs, o => ∃ c, o = .cells c e (0, 0) ∧ p.off + cs.length ≤ c.size ∧
      (∀ (i : Nat) (a : AV), cs[i]? = some a → ∃ v, c[p.off + i]? = some v ∧ VRel ρ a v) ∧
      (∀ C, p.cap = some C → ∃ ti, T.types.get e = some ti ∧ cs.length ≤ C * ti.size ∧ p.off + C * ti.size ≤ c.size)
  | .map es clock, o => ∃ l, o = .map l.toArray clock ∧ ESRel ρ es l
  | .iter m since seen stepped, o => p.off = 0 ∧ ∃ b, o = .mapIter b since seen.toArray stepped ∧ (match m with
      | none => b = none
      | some m => ∃ q, ρ m = some q ∧ b = some q.block)
  | .loop _ st pend sz t ps assign body dfr, o => ∃ fnw tmps q, ρ dfr = some q ∧ o = .loop { state := st, pending := pend.bind Out.code, fn := fnw, tmps, params := ps.toArray, assign, body, defers := q.block } ∧ ERel ρ sz t tmps ∧ pend ≠ some .normal
  | .dfr, o => o = .deferred (some [])

theorem BRel.mono {T : Tab} {ρ ρ' : Ren} (h : ρ.le ρ') {p : Place} : ∀ {b : Blk} {o : Obj}, BRel T ρ p b o → BRel T ρ' p b o
  | .cells e cs, _, ⟨c, h1, h2, h3, h4⟩ => ⟨c, h1, h2, fun i a hi => let ⟨v, hv, hr⟩ := h3 i a hi; ⟨v, hv, hr.mono h⟩, h4⟩
  | .map es clock, _, ⟨l, h1, h2⟩ => ⟨l, h1, h2.mono h⟩
  | .iter none .., _, ⟨h0, b, h1, h2⟩ => ⟨h0, b, h1, h2⟩
  | .iter (some m) .., _, ⟨h0, b, h1, q, h2, h3⟩ => ⟨h0, b, h1, q, h _ _ h2, h3⟩
  | .loop .., _, ⟨fnw, tmps, q, h1, h2, h3, h4⟩ => ⟨fnw, tmps, q, h _ _ h1, h2, h3.mono h, h4⟩
  | .dfr, _, h1 => h1

theorem BRel.fz {T : Tab} {ρ : Ren} {p : Place} {b : Blk} {o : Obj} (h : BRel T ρ p b o) {w : World} {a : Addr} (ho : w.heap[a.block]? = some o) : w.frozen? a = false := by
  unfold World.frozen?
  rw [ho]
  cases b with
  | cells e cs => obtain ⟨c, rfl, _⟩ := h; simp
  | map es cl => obtain ⟨l, rfl, _⟩ := h; rfl
  | iter m si se st =>
    cases m <;> (obtain ⟨_, b, rfl, _⟩ := h; rfl)
  | loop fn st pend sz t ps as1 body dfr => obtain ⟨fnw, tm, q, _, rfl, _⟩ := h; rfl
  | dfr => rw [show o = .deferred (some []) from h]

abbrev HF := Nat → Option Blk

structure Rep (T : Tab) (base : Nat) (ρ : Ren) (h : HF) (w : World) : Prop where
  low : base ≤ w.heap.size
  own : ∀ m b, h m = some b → ∃ p o, ρ m = some p ∧ base ≤ p.block ∧ w.heap[p.block]? = some o ∧ BRel T ρ p b o
  inj : ∀ m n b c p q, h m = some b → h n = some c → ρ m = some p → ρ n = some q → p.block = q.block → m = n
  glob : ∀ g cs, T.globs.get g = some cs → g < base ∧ ∃ c e fz, w.heap[g]? = some (.cells c e fz) ∧ ∀ (i : Nat) (a : AV), cs[i]? = some a → ∃ v, c[i]? = some v ∧ VRel (fun _ => none) a v

/-- what an evaluation has done to memory and names -/
structure Ext (ρ : Ren) (h : HF) (nx : Nat) (w : World) (ρ' : Ren) (h' : HF) (nx' : Nat) (w' : World) : Prop where
  le : ρ.le ρ'
  cnt : nx ≤ nx'
  out : ∀ m, m < nx ∨ nx' ≤ m → ρ' m = ρ m
  size : w.heap.size ≤ w'.heap.size
  os : w'.os = w.os
  tape : w'.tape = w.tape
  output : w'.output = w.output
  fz : ∀ a, w'.frozen? a = w.frozen? a
  frame : ∀ b, b < w.heap.size → (∀ m blk p, h m = some blk → ρ m = some p → p.block ≠ b) → w'.heap[b]? = w.heap[b]?
  origin : ∀ m blk p, h' m = some blk → ρ' m = some p → w.heap.size ≤ p.block ∨ ∃ n c q, h n = some c ∧ ρ n = some q ∧ q.block = p.block
  dom : ∀ m blk, h' m = some blk → (∃ c, h m = some c) ∨ (nx ≤ m ∧ m < nx')

theorem Ext.refl (ρ : Ren) (h : HF) (nx : Nat) (w : World) : Ext ρ h nx w ρ h nx w :=
  ⟨Ren.le_refl ρ, Nat.le_refl _, fun _ _ => rfl, Nat.le_refl _, rfl, rfl, rfl, fun _ => rfl, fun _ _ _ => rfl, fun m blk p hm hp => .inr ⟨m, blk, p, hm, hp, rfl⟩, fun m blk hm => .inl ⟨blk, hm⟩⟩

theorem Ext.trans {ρ : Ren} {h : HF} {nx : Nat} {w : World} {ρ' : Ren} {h' : HF} {nx' : Nat} {w' : World} {ρ'' : Ren} {h'' : HF} {nx'' : Nat} {w'' : World}
    (a : Ext ρ h nx w ρ' h' nx' w') (b : Ext ρ' h' nx' w' ρ'' h'' nx'' w'') : Ext ρ h nx w ρ'' h'' nx'' w'' where
  le := Ren.le_trans a.le b.le
  cnt := Nat.le_trans a.cnt b.cnt
  out := fun m hm => (b.out m (by have := a.cnt; have := b.cnt; omega)).trans (a.out m (by have := a.cnt; have := b.cnt; omega))
  size := Nat.le_trans a.size b.size
  os := b.os.trans a.os
  tape := b.tape.trans a.tape
  output := b.output.trans a.output
  fz := fun x => (b.fz x).trans (a.fz x)
  frame := fun k hk hno => by
    refine (b.frame k (Nat.lt_of_lt_of_le hk a.size) fun m blk p hm hp hpk => ?_).trans (a.frame k hk hno)
    rcases a.origin m blk p hm hp with h1 | ⟨n, c, q, h1, h2, h3⟩
    · omega
    · exact hno n c q h1 h2 (h3.trans hpk)
  origin := fun m blk p hm hp => by
    rcases b.origin m blk p hm hp with h1 | ⟨n, c, q, h1, h2, h3⟩
    · exact .inl (Nat.le_trans a.size h1)
    · rcases a.origin n c q h1 h2 with h4 | ⟨n', c', q', h4, h5, h6⟩
      · exact .inl (by omega)
      · exact .inr ⟨n', c', q', h4, h5, h6.trans h3⟩
  dom := fun m blk hm => by
    rcases b.dom m blk hm with ⟨c, hc⟩ | ⟨h1, h2⟩
    · rcases a.dom m c hc with h3 | ⟨h3, h4⟩
      · exact .inl h3
      · exact .inr ⟨h3, Nat.lt_of_lt_of_le h4 b.cnt⟩
    · exact .inr ⟨Nat.le_trans a.cnt h1, h2⟩

def Fresh (ρ : Ren) (nx nx' : Nat) : Prop := ∀ m, nx ≤ m → m < nx' → ρ m = none

theorem Fresh.left {ρ : Ren} {a b c : Nat} (h : Fresh ρ a c) (hbc : b ≤ c) : Fresh ρ a b := fun m h1 h2 => h m h1 (by omega)
theorem Fresh.right {ρ ρ' : Ren} {h h' : HF} {w w' : World} {a b c : Nat} (f : Fresh ρ a c) (e : Ext ρ h a w ρ' h' b w') : Fresh ρ' b c :=
  fun m h1 h2 => (e.out m (.inr h1)).trans (f m (Nat.le_trans e.cnt h1) h2)

/-- a draw turns nothing -/
theorem Rep.world {T : Tab} {base : Nat} {ρ : Ren} {h : HF} {w w' : World} (r : Rep T base ρ h w) (e : w'.heap = w.heap) : Rep T base ρ h w' :=
  ⟨by rw [e]; exact r.low, fun m b hm => let ⟨p, o, h1, h2, h3, h4⟩ := r.own m b hm; ⟨p, o, h1, h2, by rw [e]; exact h3, h4⟩, r.inj, fun g cs hg => let ⟨h1, c, x, fz, h2, h3⟩ := r.glob g cs hg; ⟨h1, c, x, fz, by rw [e]; exact h2, h3⟩⟩

theorem Ext.drew {ρ : Ren} {h : HF} {nx : Nat} {w : World} : Ext ρ h nx w ρ h nx w.drew :=
  ⟨Ren.le_refl ρ, Nat.le_refl _, fun _ _ => rfl, Nat.le_refl _, rfl, rfl, rfl, fun _ => rfl, fun _ _ _ => rfl, fun m blk p hm hp => .inr ⟨m, blk, p, hm, hp, rfl⟩, fun m blk hm => .inl ⟨blk, hm⟩⟩

end Go.Tame
