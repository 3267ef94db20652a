/- A part of memory is turned, the rest stays. -/
import Derived.Test.YtobkmmlodmdlgaaGreatDoorTameWay
set_option linter.all false
namespace Go.Tame
open Go

theorem Rep.sub {T : Tab} {base : Nat} {ρ : Ren} {h g : HF} {w : World} (r : Rep T base ρ h w) (hs : ∀ m b, g m = some b → h m = some b) : Rep T base ρ g w :=
  ⟨r.low, fun m b hm => r.own m b (hs m b hm), fun m n b c p q hm hn hp hq e => r.inj m n b c p q (hs m b hm) (hs n c hn) hp hq e, r.glob⟩

theorem Ext.sub {ρ ρ' : Ren} {h h' g : HF} {nx nx' : Nat} {w w' : World} (e : Ext ρ h nx w ρ' h' nx' w') (hs : ∀ m b, g m = some b → h' m = some b) : Ext ρ h nx w ρ' g nx' w' :=
  ⟨e.le, e.cnt, e.out, e.size, e.os, e.tape, e.output, e.fz, e.frame, fun m b p hm hp => e.origin m b p (hs m b hm) hp, fun m b hm => e.dom m b (hs m b hm)⟩

theorem Ext.within {ρ ρ' ρ'' : Ren} {h h' h'' : HF} {lo hi a b : Nat} {w w' w'' : World} (e : Ext ρ h lo w ρ' h' hi w') (f : Ext ρ' h' a w' ρ'' h'' b w'') (ha : lo ≤ a) (hb : b ≤ hi) : Ext ρ h lo w ρ'' h'' hi w'' where
  le := Ren.le_trans e.le f.le
  cnt := e.cnt
  out := fun m hm => (f.out m (by omega)).trans (e.out m hm)
  size := Nat.le_trans e.size f.size
  os := f.os.trans e.os
  tape := f.tape.trans e.tape
  output := f.output.trans e.output
  fz := fun x => (f.fz x).trans (e.fz x)
  frame := fun k hk hno => by
    refine (f.frame k (Nat.lt_of_lt_of_le hk e.size) fun m blk p hm hp hpk => ?_).trans (e.frame k hk hno)
    rcases e.origin m blk p hm hp with h1 | ⟨n, c, q, h1, h2, h3⟩
    · omega
    · exact hno n c q h1 h2 (h3.trans hpk)
  origin := fun m blk p hm hp => by
    rcases f.origin m blk p hm hp with h1 | ⟨n, c, q, h1, h2, h3⟩
    · exact .inl (Nat.le_trans e.size h1)
    · rcases e.origin n c q h1 h2 with h4 | ⟨n', c', q', h4, h5, h6⟩
      · exact .inl (by omega)
      · exact .inr ⟨n', c', q', h4, h5, h6.trans h3⟩
  dom := fun m blk hm => by
    rcases f.dom m blk hm with ⟨c, hc⟩ | ⟨h1, h2⟩
    · exact e.dom m c hc
    · exact .inr ⟨by omega, by omega⟩

open Classical in
/-- memory hl, of which the part g has become g' -/
noncomputable def around (hl g g' : HF) (a b : Nat) : HF := fun m => if (∃ c, g m = some c) ∨ (a ≤ m ∧ m < b) then g' m else hl m

theorem Rep.around {T : Tab} {base : Nat} {ρ ρ' : Ren} {hl g g' : HF} {a b : Nat} {w w' : World} (r : Rep T base ρ hl w) (hs : ∀ m c, g m = some c → hl m = some c)
    (r' : Rep T base ρ' g' w') (e : Ext ρ g a w ρ' g' b w') (hf : Fresh ρ a b) : Rep T base ρ' (around hl g g' a b) w' ∧ Ext ρ hl a w ρ' (around hl g g' a b) b w' := by
  have cases_ : ∀ m c, Tame.around hl g g' a b m = some c → (g' m = some c ∧ ((∃ c, g m = some c) ∨ (a ≤ m ∧ m < b))) ∨ (hl m = some c ∧ g m = none ∧ ¬ (a ≤ m ∧ m < b)) := by
    intro m c hm
    unfold Tame.around at hm
    split at hm
    · rename_i h; exact .inl ⟨hm, h⟩
    · rename_i h
      refine .inr ⟨hm, ?_, fun h2 => h (.inr h2)⟩
      cases hg : g m with
      | none => rfl
      | some c => exact absurd (.inl ⟨c, hg⟩) h
  -- what stays
  have stay : ∀ m c, hl m = some c → g m = none → ∃ p o, ρ m = some p ∧ ρ' m = some p ∧ base ≤ p.block ∧ p.block < w.heap.size ∧ w'.heap[p.block]? = some o ∧ BRel T ρ' p c o := by
    intro m c hm hg
    obtain ⟨p, o, hp, hb, ho, hr⟩ := r.own m c hm
    have hlt := (Array.getElem?_eq_some_iff.1 ho).1
    refine ⟨p, o, hp, e.le m p hp, hb, hlt, ?_, hr.mono e.le⟩
    rw [e.frame p.block hlt fun n blk q hn hq hqp => ?_]
    · exact ho
    · have := r.inj n m blk c q p (hs n blk hn) hm hq hp hqp
      subst this; rw [hg] at hn; cases hn
  have apart : ∀ m n c d p q, g' m = some c → ρ' m = some p → hl n = some d → g n = none → ρ' n = some q → p.block ≠ q.block := by
    intro m n c d p q hm hp hn hg hq he
    obtain ⟨q', o, hq0, hq', _, hlt, _⟩ := stay n d hn hg
    rw [hq] at hq'; injection hq' with hq'; subst hq'
    rcases e.origin m c p hm hp with h1 | ⟨n', c', q', h1, h2, h3⟩
    · omega
    · have := r.inj n' n c' d q' q (hs n' c' h1) hn h2 hq0 (h3.trans he)
      subst this; rw [hg] at h1; cases h1
  refine ⟨⟨r'.low, fun m c hm => ?_, fun m n c d p q hm hn hp hq he => ?_, r'.glob⟩, ?_⟩
  · rcases cases_ m c hm with ⟨h1, _⟩ | ⟨h1, h2, _⟩
    · exact r'.own m c h1
    · obtain ⟨p, o, _, h3, h4, _, h5, h6⟩ := stay m c h1 h2
      exact ⟨p, o, h3, h4, h5, h6⟩
  · rcases cases_ m c hm with ⟨h1, _⟩ | ⟨h1, h2, _⟩ <;> rcases cases_ n d hn with ⟨h3, _⟩ | ⟨h3, h4, _⟩
    · exact r'.inj m n c d p q h1 h3 hp hq he
    · exact absurd he (apart m n c d p q h1 hp h3 h4 hq)
    · exact absurd he.symm (apart n m d c q p h3 hq h1 h2 hp)
    · obtain ⟨p', _, h5, h6, _⟩ := stay m c h1 h2
      obtain ⟨q', _, h7, h8, _⟩ := stay n d h3 h4
      rw [hp] at h6; injection h6 with h6; subst h6
      rw [hq] at h8; injection h8 with h8; subst h8
      exact r.inj m n c d p q h1 h3 h5 h7 he
  · refine ⟨e.le, e.cnt, e.out, e.size, e.os, e.tape, e.output, e.fz, fun k hk hno => e.frame k hk fun m blk p hm hp => hno m blk p (hs m blk hm) hp, fun m c p hm hp => ?_, fun m c hm => ?_⟩
    · rcases cases_ m c hm with ⟨h1, _⟩ | ⟨h1, h2, _⟩
      · rcases e.origin m c p h1 hp with h3 | ⟨n, d, q, h3, h4, h5⟩
        · exact .inl h3
        · exact .inr ⟨n, d, q, hs n d h3, h4, h5⟩
      · obtain ⟨p', _, h5, h6, _⟩ := stay m c h1 h2
        rw [hp] at h6; injection h6 with h6; subst h6
        exact .inr ⟨m, c, p, h1, h5, rfl⟩
    · rcases cases_ m c hm with ⟨h1, h2 | h2⟩ | ⟨h1, h2, _⟩
      · obtain ⟨d, h2⟩ := h2; exact .inl ⟨d, hs m d h2⟩
      · exact .inr h2
      · exact .inl ⟨c, h1⟩

end Go.Tame
