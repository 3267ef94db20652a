/- Regions whose order is drawn: one operation. -/
import Derived.Test.YtobkmmlodmdlgaaGreatDoorTameDrawn
set_option linter.all false
namespace Go.Tame
open Go

section
variable {T : Tab} {sz base : Nat} {call : CallF} {round : RoundF} {ops : Array Oper} {pl : Plan} {S : Nat → RS} {V : Nat → AV} {B : Nat → Bool} {t0 : Env} {h0 : Heap} {nx0 : Nat} (W : Way T sz call round ops pl S V B t0 h0 nx0)
variable {ρ0 : Ren} {w0 : World} {dfr : List Deferred} {L : Nat → Prop} {k : Nat} {ρ : Ren} {a : Act} {w : World} (I : Inv T sz base ops pl S V t0 h0 nx0 ρ0 w0 dfr L k ρ a w)
variable {i : Nat} {o : Oper} {p : PI} (ho : ops[i]? = some o) (hp : pl[i]? = some p) (hnot : ¬ L i) (hready : ∀ e ∈ o.after, Region.binds .any e = true → L e.on)
variable (hc : ∀ f args h nx v h' nx', call f args h nx = some (v, h', nx') → nx ≤ nx') (hd : ∀ f args h nx v h' nx', round f args h nx = some (v, h', nx') → nx ≤ nx')
include W I ho hp hnot hready hc hd

theorem Inv.nxs : nx0 ≤ (S i).nx ∧ (S i).nx ≤ (S (i + 1)).nx ∧ (S (i + 1)).nx ≤ (S ops.size).nx ∧ nx0 ≤ (S ops.size).nx := by
  have hi := W.lt ho
  have h1 := (W.upto hc hd (i := 0) (j := i) (by omega) (by omega)).1
  have h2 := (W.upto hc hd (i := i) (j := i + 1) (by omega) (by omega)).1
  have h3 := (W.upto hc hd (i := i + 1) (j := ops.size) (by omega) (by omega)).1
  rw [W.start] at h1
  exact ⟨h1, h2, h3, by simp only at h1; omega⟩

/-- the writers done, one more of another class done -/
theorem Inv.wrSame (hcls : p.cls ≤ 1) : ∀ j x, (writersA 0 pl)[j]? = some x → ((L x ∨ x = i) ↔ j < k) := by
  intro j x hx
  have hxi : x ≠ i := fun h => by
    obtain ⟨q, hq, h2, _⟩ := W.facts.is_ j x hx
    subst h; rw [hp] at hq; injection hq with hq; subst hq; omega
  rw [← I.wr j x hx]
  exact ⟨fun h => h.resolve_right hxi, .inl⟩

theorem Inv.downStep : ∀ j o, ops[j]? = some o → (L j ∨ j = i) → ∀ e ∈ o.after, Region.binds .any e = true → (L e.on ∨ e.on = i) := by
  intro j o' ho' hj e he hb
  rcases hj with hj | rfl
  · exact .inl (I.down j o' ho' hj e he hb)
  · rw [ho] at ho'; injection ho' with ho'; subst ho'; exact .inl (hready e he hb)

/-- what does not look at memory, or only looks; and what is left out -/
theorem Inv.quiet (hcls : p.cls ≤ 1) (hpc : (S ops.size).pcs.get i = none) {ρ' : Ren} {cv : Value} {w' : World} {g g' : HF} {cnt : Nat} (hv : VRel ρ' (V i) cv)
    (hg : ∀ (hl : HF), (∀ q m b cp, (S ops.size).pcs.get q = some (m, b, cp) → L q → k ≤ cp → hl m = some b) → (∀ x Hk, (S ops.size).hs.get k = some Hk → (∀ q m b cp, (S ops.size).pcs.get q = some (m, b, cp) → L q → k ≤ cp → m ≠ x) → hl x = Hk.get x) → ∀ x b, g x = some b → hl x = some b)
    (hgg : ∀ x, g' x = g x) (r' : Rep T base ρ' g' w') (e : Ext ρ g cnt w ρ' g' cnt w') (hcnt : nx0 ≤ cnt ∧ cnt ≤ (S ops.size).nx) :
    Inv T sz base ops pl S V t0 h0 nx0 ρ0 w0 dfr (fun j => L j ∨ j = i) k ρ' (a.put o.dst cv) w' := by
  obtain ⟨hl, hrep, hext, h1, h2⟩ := I.mem
  have hsub := hg hl h1 h2
  have hf : Fresh ρ cnt cnt := fun m h3 h4 => by omega
  obtain ⟨ra, ea⟩ := hrep.around hsub r' e hf
  have hsame : ∀ m, around hl g g' cnt cnt m = hl m := fun m => by
    unfold Tame.around
    split
    · rename_i h
      rcases h with ⟨c, h⟩ | ⟨h3, h4⟩
      · rw [hgg, h, hsub m c h]
      · omega
    · rfl
  have hfun : around hl g g' cnt cnt = hl := funext hsame
  rw [hfun] at ra ea
  refine ⟨I.downStep W ho hp hnot hready hc hd, I.kle, I.wrSame W ho hp hnot hready hc hd hcls, I.envStep W ho hp hnot e.le hv, ⟨hl, ra, hext.within ea hcnt.1 hcnt.2, fun q m b cp hq hL hle => ?_, fun x Hk hH hno => ?_⟩, I.dis, I.freshStep W ho hc hd e (.inl rfl), ?_⟩
  · rcases hL with hL | rfl
    · exact h1 q m b cp hq hL hle
    · rw [hpc] at hq; cases hq
  · exact h2 x Hk hH fun q m b cp hq hL hle => hno q m b cp hq (.inl hL) hle
  · cases h : o.dst <;> simp [Act.put, I.dfr]

/-- a new block -/
theorem Inv.made (hcls : p.cls = 0) {m : Nat} {bl : Blk} (hpc : (S ops.size).pcs.get i = some (m, bl, p.cp)) {ρ' : Ren} {cv : Value} {w' : World} {g' : HF} (hv : VRel ρ' (V i) cv)
    (hgm : g' m = some bl) (r' : Rep T base ρ' g' w') (e : Ext ρ (fun _ => none) m w ρ' g' (m + 1) w') :
    Inv T sz base ops pl S V t0 h0 nx0 ρ0 w0 dfr (fun j => L j ∨ j = i) k ρ' (a.put o.dst cv) w' := by
  obtain ⟨hl, hrep, hext, h1, h2⟩ := I.mem
  obtain ⟨o', p', ho', hp', _, _, _, _, hm, hm1, _⟩ := W.piece hc hd hpc
  rw [ho] at ho'; injection ho' with ho'; subst ho'
  rw [hp] at hp'; injection hp' with hp'; subst hp'
  have hi := W.lt ho
  obtain ⟨n1, n2, n3, n4⟩ := I.nxs W ho hp hnot hready hc hd
  have hf : Fresh ρ m (m + 1) := by have := I.fresh i hi hnot; rw [← hm, hm1] at this; exact this
  obtain ⟨ra, ea⟩ := hrep.around (fun _ _ h => by cases h) r' e hf
  have hat : around hl (fun _ => none) g' m (m + 1) m = some bl := by unfold Tame.around; rw [if_pos (.inr ⟨Nat.le_refl _, by omega⟩)]; exact hgm
  have hoth : ∀ x, x ≠ m → around hl (fun _ => none) g' m (m + 1) x = hl x := fun x hx => by
    unfold Tame.around
    split
    · rename_i h
      rcases h with ⟨c, h⟩ | ⟨h3, h4⟩
      · cases h
      · omega
    · rfl
  -- this block is not yet behind the writer that needs it
  have hcp : k ≤ p.cp := by
    rcases Nat.lt_or_ge p.cp k with hlt | hge
    · obtain ⟨x, hx⟩ : ∃ x, (writersA 0 pl)[p.cp]? = some x := ⟨_, List.getElem?_eq_getElem (by have := I.kle; omega)⟩
      obtain ⟨q, hq, hmem⟩ := (W.facts.lev i p hp).none hcls x hx
      have hLx := (I.wr p.cp x hx).2 hlt
      obtain ⟨q', hq', hcls', _⟩ := W.facts.is_ p.cp x hx
      rw [hq] at hq'; injection hq' with hq'; subst hq'
      have hb := ((W.facts.lev x q hq).needs (by omega) i hmem).2
      obtain ⟨ox, hox⟩ : ∃ ox, ops[x]? = some ox := by
        have : x < ops.size := by rw [← W.facts.len]; exact (List.getElem?_eq_some_iff.1 hq).1
        exact ⟨_, Array.getElem?_eq_getElem this⟩
      exact absurd (I.behind hox hLx hb) hnot
    · exact hge
  refine ⟨I.downStep W ho hp hnot hready hc hd, I.kle, I.wrSame W ho hp hnot hready hc hd (by omega), I.envStep W ho hp hnot e.le hv, ⟨_, ra, hext.within ea (by omega) (by omega), fun q m' b cp hq hL hle => ?_, fun x Hk hH hno => ?_⟩, I.dis, I.freshStep W ho hc hd e (.inr ⟨hm, hm1.symm⟩), ?_⟩
  · by_cases hqi : q = i
    · subst hqi; rw [hpc] at hq; injection hq with hq; simp only [Prod.mk.injEq] at hq; obtain ⟨rfl, rfl, rfl⟩ := hq; exact hat
    · rw [hoth m' fun h => hqi (W.names hc hd hq hpc h)]
      exact h1 q m' b cp hq (hL.resolve_right hqi) hle
  · rw [hoth x fun h => hno i m bl p.cp hpc (.inr rfl) hcp h.symm]
    exact h2 x Hk hH fun q m' b cp hq hL hle => hno q m' b cp hq (.inl hL) hle
  · cases h : o.dst <;> simp [Act.put, I.dfr]

/-- a writer -/
theorem Inv.wrote (hcls : 2 ≤ p.cls) {Hk h' : Heap} (hH : (S ops.size).hs.get k = some Hk) (hH' : (S ops.size).hs.get (k + 1) = some h') {ρ' : Ren} {cv : Value} {w' : World} (hv : VRel ρ' (V i) cv) (hk : wcount pl i = k)
    (r' : Rep T base ρ' h'.get w') (e : Ext ρ (addPcs (S ops.size).pcs k Hk p.needs).get (S i).nx w ρ' h'.get (S (i + 1)).nx w') :
    Inv T sz base ops pl S V t0 h0 nx0 ρ0 w0 dfr (fun j => L j ∨ j = i) (k + 1) ρ' (a.put o.dst cv) w' := by
  obtain ⟨hl, hrep, hext, h1, h2⟩ := I.mem
  have hi := W.lt ho
  obtain ⟨n1, n2, n3, n4⟩ := I.nxs W ho hp hnot hready hc hd
  have lev := W.facts.lev i p hp
  have hneeds : ∀ q ∈ p.needs, L q ∨ ops.size ≤ q := fun q hq => .inl (I.ahead ho hready (lev.needs (by omega) q hq).2)
  have hsub : ∀ x b, (addPcs (S ops.size).pcs k Hk p.needs).get x = some b → hl x = some b := fun x b hx => I.part W hc hd h1 h2 hneeds hH hx
  obtain ⟨ra, ea⟩ := hrep.around hsub r' e (I.fresh i hi hnot)
  have hat : (writersA 0 pl)[k]? = some i := by rw [← hk]; exact W.facts.at_ i p hp hcls
  have klt : k < (writersA 0 pl).length := (List.getElem?_eq_some_iff.1 hat).1
  -- a block that is not for this writer has another name than all that is here
  have apart : ∀ q m b cp, (S ops.size).pcs.get q = some (m, b, cp) → k + 1 ≤ cp → (∀ c, (addPcs (S ops.size).pcs k Hk p.needs).get m ≠ some c) ∧ ¬ ((S i).nx ≤ m ∧ m < (S (i + 1)).nx) := by
    intro q m b cp hq hcp
    obtain ⟨oq, pq, hoq, hpq, hclq, hcpq, _, _, hm, hm1, _⟩ := W.piece hc hd hq
    refine ⟨fun c hcc => ?_, fun ⟨h3, h4⟩ => ?_⟩
    · rcases addPcs_get (fun q m b cp h => W.small hc hd h) (pcs := (S ops.size).pcs) (l := k) (h := Hk) (needs := p.needs) (x := m) with ⟨q', hq', b', cp', hpc', hle', hget⟩ | ⟨_, hget⟩
      · have := W.names hc hd hpc' hq rfl
        subst this
        have := lev.cps hcls q' hq' pq hpq
        omega
      · rw [hget] at hcc
        exact I.dis m c Hk hH hcc q m b cp hq (by omega) rfl
    · have hql := W.lt hoq
      have hqi : q ≠ i := fun h => by subst h; rw [hp] at hpq; injection hpq with hpq; subst hpq; omega
      rcases Nat.lt_or_ge q i with hlt | hge
      · have := (W.upto hc hd (i := q + 1) (j := i) (by omega) (by omega)).1; omega
      · have := (W.upto hc hd (i := i + 1) (j := q) (by omega) (by omega)).1; omega
  refine ⟨I.downStep W ho hp hnot hready hc hd, klt, fun j x hx => ?_, I.envStep W ho hp hnot e.le hv, ⟨_, ra, hext.within ea n1 n3, fun q m b cp hq hL hle => ?_, fun x H1 hH1 hno => ?_⟩, fun x b H1 hH1 hx q m b' cp hq hle hmx => ?_, I.freshStep W ho hc hd e (.inr ⟨rfl, rfl⟩), ?_⟩
  · have hxi : x = i ↔ j = k := by
      constructor
      · intro h; subst h
        obtain ⟨q, hq, _, h4⟩ := W.facts.is_ j x hx
        omega
      · intro h; subst h; rw [hat] at hx; injection hx with hx; exact hx.symm
    rw [I.wr j x hx, hxi]; omega
  · have hqi : q ≠ i := fun h => by
      subst h
      obtain ⟨oq, pq, hoq, hpq, hclq, _⟩ := W.piece hc hd hq
      rw [hp] at hpq; injection hpq with hpq; subst hpq; omega
    obtain ⟨h3, h4⟩ := apart q m b cp hq hle
    have : around hl (addPcs (S ops.size).pcs k Hk p.needs).get h'.get (S i).nx (S (i + 1)).nx m = hl m := by
      unfold Tame.around
      rw [if_neg]
      rintro (⟨c, h5⟩ | h5)
      · exact h3 c h5
      · exact h4 h5
    rw [this]
    exact h1 q m b cp hq (hL.resolve_right hqi) (by omega)
  · rw [hH'] at hH1; injection hH1 with hH1; subst hH1
    unfold Tame.around
    split
    · rfl
    · rename_i hn
      have hnone : h'.get x = none := by
        cases hx : h'.get x with
        | none => rfl
        | some c =>
          rcases e.dom x c hx with h3 | h3
          · exact absurd (.inl h3) hn
          · exact absurd (.inr h3) hn
      rw [hnone]
      have hgn : ∀ c, (addPcs (S ops.size).pcs k Hk p.needs).get x ≠ some c := fun c h3 => hn (.inl ⟨c, h3⟩)
      have hhk : Hk.get x = none := by
        rcases addPcs_get (fun q m b cp h => W.small hc hd h) (pcs := (S ops.size).pcs) (l := k) (h := Hk) (needs := p.needs) (x := x) with ⟨q', hq', b', cp', hpc', hle', hget⟩ | ⟨_, hget⟩
        · exact absurd hget (hgn b')
        · cases hx : Hk.get x with
          | none => rfl
          | some c => rw [hx] at hget; exact absurd hget (hgn c)
      rw [← hhk]
      refine h2 x Hk hH fun q m b cp hq hL hle hmx => ?_
      subst hmx
      rcases Nat.lt_or_ge k cp with hlt | hge
      · exact hno q m b cp hq (.inl hL) hlt rfl
      · have hcp : cp = k := by omega
        obtain ⟨oq, pq, hoq, hpq, hclq, hcpq, _⟩ := W.piece hc hd hq
        obtain ⟨q2, hq2, hmem⟩ := (W.facts.lev q pq hpq).none hclq i (by rw [hcpq, hcp]; exact hat)
        rw [hp] at hq2; injection hq2 with hq2; subst hq2
        rcases addPcs_get (fun q m b cp h => W.small hc hd h) (pcs := (S ops.size).pcs) (l := k) (h := Hk) (needs := p.needs) (x := m) with ⟨q', hq', b', cp', hpc', hle', hget⟩ | ⟨hnot', _⟩
        · exact absurd hget (hgn b')
        · exact hnot' q hmem b cp hq (by omega)
  · rw [hH'] at hH1; injection hH1 with hH1; subst hH1
    subst hmx
    obtain ⟨h3, h4⟩ := apart q m b' cp hq hle
    rcases e.dom m b hx with ⟨c, h5⟩ | h5
    · exact h3 c h5
    · exact h4 h5
  · cases h : o.dst <;> simp [Act.put, I.dfr]

end
end Go.Tame
