/- Regions whose order is drawn: every order. -/
import Derived.Test.YtobkmmlodmdlgaaGreatDoorTameDrawn3
set_option linter.all false
namespace Go.Tame
open Go

theorem Rep.drew {T : Tab} {base : Nat} {ρ : Ren} {h : HF} {w w' : World} (r : Rep T base ρ h w) (e : w'.heap = w.heap) : Rep T base ρ h w' := r.world e

section
variable {T : Tab} {P : Program} {sz base : Nat} {call : CallF} {round : RoundF} (ok : TabOk T P) (ov : OverOk T) (hcO : CallOk T P base call) (hdO : RoundOk T P base round)
variable {ops : Array Oper} {pl : Plan} {S : Nat → RS} {V : Nat → AV} {B : Nat → Bool} {t0 : Env} {h0 : Heap} {nx0 : Nat} (W : Way T sz call round ops pl S V B t0 h0 nx0)
variable {ρ0 : Ren} {w0 : World} {dfr : List Deferred}
include ok ov hcO hdO W

omit ok ov in
/-- all done -/
theorem Inv.all {k : Nat} {ρ : Ren} {a : Act} {w : World} {L : Nat → Prop} (I : Inv T sz base ops pl S V t0 h0 nx0 ρ0 w0 dfr L k ρ a w) (hL : ∀ j, j < ops.size → L j) {h' : Heap} (hm : (S ops.size).mem (S ops.size).k (List.range ops.size) = some h') :
    ERel ρ sz (S ops.size).t a.tmps ∧ Rep T base ρ h'.get w ∧ Ext ρ0 h0.get nx0 w0 ρ h'.get (S ops.size).nx w ∧ a.defers = dfr := by
  have hc : ∀ f args h nx v h' nx', call f args h nx = some (v, h', nx') → nx ≤ nx' := fun f args h nx v h' nx' he => (hcO f args h nx v h' nx' he).1
  have hd : ∀ f args h nx v h' nx', round f args h nx = some (v, h', nx') → nx ≤ nx' := fun f args h nx v h' nx' he => (hdO f args h nx v h' nx' he).1
  obtain ⟨tr, etr, e1, e2⟩ := I.env
  obtain ⟨hl, hrep, hext, m1, m2⟩ := I.mem
  have hk : k = (writersA 0 pl).length := by
    rcases Nat.lt_or_ge k (writersA 0 pl).length with h | h
    · obtain ⟨x, hx⟩ : ∃ x, (writersA 0 pl)[k]? = some x := ⟨_, List.getElem?_eq_getElem h⟩
      obtain ⟨q, hq, _⟩ := W.facts.is_ k x hx
      have hxs : x < ops.size := by rw [← W.facts.len]; exact (List.getElem?_eq_some_iff.1 hq).1
      have := (I.wr k x hx).1 (hL x hxs)
      omega
    · have := I.kle; omega
  have hkS : (S ops.size).k = k := by rw [W.k (Nat.le_refl _), hk, writersA_length, W.facts.len]
  rw [hkS] at hm
  unfold RS.mem at hm
  split at hm
  · rename_i Hk hH
    injection hm with hm; subst hm
    have hsub : ∀ x b, (addPcs (S ops.size).pcs k Hk (List.range ops.size)).get x = some b → hl x = some b := fun x b hx => I.part W hc hd m1 m2 (fun q hq => .inl (hL q (List.mem_range.1 hq))) hH hx
    obtain ⟨g1, g2⟩ := W.tget (i := ops.size) (Nat.le_refl _)
    refine ⟨⟨etr.size, fun x b hx => etr.get x b ?_⟩, hrep.sub hsub, hext.sub hsub, I.dfr⟩
    rw [← hx]
    by_cases hw : ∃ (j : Nat) (o' : Oper), ops[j]? = some o' ∧ o'.dst = some x
    · obtain ⟨j, o', ho', hdd⟩ := hw
      rw [e1 j o' x ho' (hL j (W.lt ho')) hdd, g1 j o' x (W.lt ho') ho' hdd]
    · rw [e2 x fun j o' ho' _ hdd => hw ⟨j, o', ho', hdd⟩, g2 x fun j o' _ ho' hdd => hw ⟨j, o', ho', hdd⟩]
  · cases hm

/-- from half way, whatever comes up -/
theorem Inv.any {ro : Option Nat} {Q : Exit → Act → World → Prop} {h' : Heap} (hm : (S ops.size).mem (S ops.size).k (List.range ops.size) = some h')
    (hQ : ∀ ρ a w, ERel ρ sz (S ops.size).t a.tmps → Rep T base ρ h'.get w → Ext ρ0 h0.get nx0 w0 ρ h'.get (S ops.size).nx w → a.defers = dfr → Q .normal a w) :
    ∀ (fuel : Nat) (listed : Array Bool) (l : List Nat) (k : Nat) (ρ : Ren) (a : Act) (w : World), listed.size = ops.size → l.length = fuel → (∀ j, j < ops.size → listed.getD j false = false → j ∈ l) →
      Inv T sz base ops pl S V t0 h0 nx0 ρ0 w0 dfr (fun j => listed.getD j false = true) k ρ a w → wpAnyIn (FW ro) 0 P .any ops Q fuel listed a w := by
  -- where nothing is ready, all is done
  have empty : ∀ (listed : Array Bool), listed.size = ops.size → Region.ready .any ops listed = [] → ∀ j, j < ops.size → listed.getD j false = true := by
    intro listed hsz hnil j
    induction j using Nat.strongRecOn with
    | _ j ih =>
      intro hj
      cases hlj : listed.getD j false with
      | true => rfl
      | false =>
        have : j ∈ Region.ready .any ops listed := by
          rw [mem_ready]
          refine ⟨?_, ops[j], Array.getElem?_eq_getElem hj, fun e he hb => ?_⟩
          · have hjs : j < listed.size := by omega
            simp [hjs] at hlj ⊢; exact hlj
          · have := W.facts.back j ops[j] (Array.getElem?_eq_getElem hj) e he hb
            exact ih e.on this (by omega)
        rw [hnil] at this; cases this
  have final : ∀ (listed : Array Bool) (k : Nat) (ρ : Ren) (a : Act) (w : World), listed.size = ops.size → Region.ready .any ops listed = [] → Inv T sz base ops pl S V t0 h0 nx0 ρ0 w0 dfr (fun j => listed.getD j false = true) k ρ a w → Q .normal a w := by
    intro listed k ρ a w hsz hnil I
    obtain ⟨q1, q2, q3, q4⟩ := I.all hcO hdO W (empty listed hsz hnil) hm
    exact hQ ρ a w q1 q2 q3 q4
  intro fuel
  induction fuel with
  | zero =>
    intro listed l k ρ a w hsz hl hmem I
    have hl0 : l = [] := List.eq_nil_of_length_eq_zero hl
    have hnil : Region.ready .any ops listed = [] := by
      cases hr : Region.ready .any ops listed with
      | nil => rfl
      | cons x xs =>
        have hx : x ∈ Region.ready .any ops listed := by rw [hr]; simp
        obtain ⟨h1, o, ho, _⟩ := mem_ready.1 hx
        have hxs := W.lt ho
        have : x ∈ l := hmem x hxs (by
          have hjs : x < listed.size := by omega
          simp [hjs] at h1 ⊢; exact h1)
        rw [hl0] at this; cases this
    exact ⟨hnil, final listed k ρ a w hsz hnil I⟩
  | succ fuel ih =>
    intro listed l k ρ a w hsz hl hmem I
    refine ⟨fun hnil => final listed k ρ a w hsz hnil I, fun i hi => ?_⟩
    obtain ⟨h1, o, ho, hready⟩ := mem_ready.1 hi
    have his := W.lt ho
    have hil : i < listed.size := by omega
    have hnot : listed.getD i false = false := by simp [hil] at h1 ⊢; exact h1
    refine I.op ok ov hcO hdO W ho (by rw [hnot]; decide) hready fun k' ρ' a' w' I' => ?_
    refine ih (listed.setIfInBounds i true) (l.erase i) k' ρ' a' w' (by simpa using hsz) ?_ (fun j hj hlj => ?_) ?_
    · rw [List.length_erase_of_mem (hmem i his hnot), hl]; rfl
    · have hji : j ≠ i := fun h => by subst h; simp [hil] at hlj
      rw [getD_set_ne false (Ne.symm hji)] at hlj
      exact (List.mem_erase_of_ne hji).2 (hmem j hj hlj)
    · have hfun : (fun j => (listed.setIfInBounds i true).getD j false = true) = (fun j => listed.getD j false = true ∨ j = i) := by
        funext j
        apply propext
        by_cases hji : j = i
        · subst hji; simp [hil]
        · rw [getD_set_ne false (Ne.symm hji)]; simp [hji]
      rw [hfun]; exact I'

end

theorem drawnA_ok {T : Tab} {P : Program} {base : Nat} {call : CallF} {round : RoundF} (ok : TabOk T P) (ov : OverOk T) (hmix : P.follows .mixedOrders = true) (hcO : CallOk T P base call) (hdO : RoundOk T P base round)
    {f sz id : Nat} {ops : Array Oper} {t : Env} {h : Heap} {nx : Nat} {t' : Env} {h' : Heap} {nx' : Nat} (hpl : planned T f (.region id ops true) = true) (hh : drawnA T call round f sz id ops t h nx = some (t', h', nx')) :
    nx ≤ nx' ∧ ∀ {ρ : Ren} {w : World} {a : Act} {ro : Option Nat} {Q : Exit → Act → World → Prop}, Rep T base ρ h.get w → ERel ρ sz t a.tmps → Fresh ρ nx nx' →
      (∀ ρ' a' w', ERel ρ' sz t' a'.tmps → Rep T base ρ' h'.get w' → Ext ρ h.get nx w ρ' h'.get nx' w' → a'.defers = a.defers → Q .normal a' w') → (Code.region id ops true).wpIn (FW ro) 0 P Q a w := by
  have hc : ∀ f args h nx v h' nx', call f args h nx = some (v, h', nx') → nx ≤ nx' := fun f args h nx v h' nx' he => (hcO f args h nx v h' nx' he).1
  have hd : ∀ f args h nx v h' nx', round f args h nx = some (v, h', nx') → nx ≤ nx' := fun f args h nx v h' nx' he => (hdO f args h nx v h' nx' he).1
  unfold drawnA at hh
  simp only [planned] at hpl
  split at hh
  · cases hh
  · rename_i ps hps
    rw [hps] at hpl
    simp only at hpl
    split at hh
    · cases hh
    · rename_i pl hplg
      rw [hplg] at hpl
      simp only at hpl
      split at hh
      · cases hh
      · rename_i s hs
        obtain ⟨hlooks, hh⟩ := ite_bool hh
        split at hh
        · rename_i hf hmem
          injection hh with hh; simp only [Prod.mk.injEq] at hh; obtain ⟨rfl, rfl, rfl⟩ := hh
          obtain ⟨S, hS0, hSn, hall⟩ := allA_trace hs
          rw [Nat.zero_add, Array.length_toList] at hSn
          have facts := planOk_facts hpl
          have hall' : ∀ i, ∃ b v, ∀ o p, ops[i]? = some o → pl[i]? = some p → OneSpec T sz call round ops i o p (S i) (S (i + 1)) b v := by
            intro i
            rcases Nat.lt_or_ge i ops.size with hi | hi
            · obtain ⟨b, v, hbv⟩ := hall i ops[i] (pl[i]'(by rw [facts.len]; exact hi)) (by simp [hi]) (List.getElem?_eq_getElem _)
              refine ⟨b, v, fun o p ho hp => ?_⟩
              rw [Array.getElem?_eq_getElem hi] at ho; injection ho with ho; subst ho
              rw [List.getElem?_eq_getElem (by rw [facts.len]; exact hi)] at hp; injection hp with hp; subst hp
              simpa using hbv
            · refine ⟨false, .nilptr, fun o p ho => ?_⟩
              rw [Array.getElem?_eq_none hi] at ho; cases ho
          let B : Nat → Bool := fun i => Classical.choose (hall' i)
          let V : Nat → AV := fun i => Classical.choose (Classical.choose_spec (hall' i))
          have W : Way T sz call round ops pl S V B t h nx := ⟨facts, hS0, fun i o p ho hp => Classical.choose_spec (Classical.choose_spec (hall' i)) o p ho hp, by rw [hSn]; exact hlooks⟩
          have hnx : nx ≤ (S ops.size).nx := by
            have := (W.upto hc hd (i := 0) (j := ops.size) (by omega) (Nat.le_refl _)).1
            rw [hS0] at this; exact this
          subst hSn
          refine ⟨hnx, fun {ρ w a ro Q} r e hfr hQ => wpIn_region_any hmix ?_⟩
          refine Inv.any ok ov hcO hdO W (ρ0 := ρ) (w0 := w) (dfr := a.defers) hmem (fun ρ' a' w' q1 q2 q3 q4 => hQ ρ' a' w' q1 q2 q3 q4) ops.size _ (List.range ops.size) 0 ρ a _ (by simp) (by simp) (fun j hj _ => List.mem_range.2 hj) ?_
          have hno : ∀ j, ¬ (Array.replicate ops.size false).getD j false = true := fun j hj => by
            by_cases hjs : j < ops.size
            · simp [hjs] at hj
            · simp [hjs] at hj
          have hH0 : (S ops.size).hs.get 0 = some h := by
            rw [(W.upto hc hd (i := 0) (j := ops.size) (by omega) (Nat.le_refl _)).2.2.2.1 0 (by omega), hS0]
            rw [Tr.get_put _ _ _ _ _ (by have := D_pow; omega), if_pos rfl]
          refine ⟨fun i o _ hL => absurd hL (hno i), Nat.zero_le _, fun j x hx => ⟨fun hL => absurd hL (hno x), fun h => by omega⟩, ⟨t, e, fun i o d _ hL => absurd hL (hno i), fun x _ => rfl⟩,
            ⟨h.get, r.world rfl, ⟨Ren.le_refl _, hnx, fun _ _ => rfl, Nat.le_refl _, rfl, rfl, rfl, fun _ => rfl, fun _ _ _ => rfl, fun m blk p hm hp => .inr ⟨m, blk, p, hm, hp, rfl⟩, fun m blk hm => .inl ⟨blk, hm⟩⟩, fun q m b cp _ hL => absurd hL (hno q), fun x Hk hH _ => ?_⟩,
            fun x b Hk hH hx q m b' cp hq _ hmx => ?_, fun i hi _ => ?_, rfl⟩
          · rw [hH0] at hH; injection hH with hH; subst hH; rfl
          · rw [hH0] at hH; injection hH with hH; subst hH
            subst hmx
            obtain ⟨oq, pq, hoq, _, _, _, _, _, hm1, hm2, _⟩ := W.piece hc hd hq
            have hql := W.lt hoq
            have l1 := (W.upto hc hd (i := 0) (j := q) (by omega) (by omega)).1
            have l2 := (W.upto hc hd (i := q + 1) (j := ops.size) (by omega) (Nat.le_refl _)).1
            rw [hS0] at l1
            simp only at l1
            obtain ⟨p, _, hp, _⟩ := r.own m b hx
            rw [hfr m (by omega) (by omega)] at hp; cases hp
          · have l1 := (W.upto hc hd (i := 0) (j := i) (by omega) (by omega)).1
            have l2 := (W.upto hc hd (i := i + 1) (j := ops.size) (by omega) (Nat.le_refl _)).1
            rw [hS0] at l1
            simp only at l1
            exact fun m h1 h2 => hfr m (by omega) (by omega)
        · cases hh

end Go.Tame
