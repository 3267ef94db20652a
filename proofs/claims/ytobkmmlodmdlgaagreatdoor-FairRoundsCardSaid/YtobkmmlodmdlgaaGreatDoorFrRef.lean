/- The document's 'Round' and 'Rounds': the rows that they make, or the errors that they answer. -/
import Derived.Test.YtobkmmlodmdlgaaGreatDoorFrRows
import Derived.OwnWalk
set_option linter.all false
namespace Go.Proofs.Fr
open Go.RowKit Go.Lib Go.Proofs.Aged

theorem info59 : (Tryz.prog.info? 60).map (fun i => (i.zero, i.size, i.bytes)) = some (some (.agg #[.int .i8 0, .int .i64 0, .int .i64 0, .int .u64 0]), 4, 32) := by kernel_rfl

theorem grown_below {w W w1 : World} {e size k : Nat} {v : Value} {xs : List Value} (hB : Below w.heap.size w W) (hrow : W.ownsRow w.heap.size e size v k xs) (hg : W.grownBy w1 v.ownBlock) : Below w.heap.size w w1 :=
  hB.grown hg hB.size fun j ej => by
    rcases hrow.2 with ⟨rfl, _⟩ | ⟨g, cap, cur, rfl, hb, _⟩
    · simp [Value.ownBlock] at ej
    · obtain rfl : g = j := by simpa [Value.ownBlock] using ej
      exact hb

theorem cells_new (W : World) (l : List Value) (t : TypeId) : ∀ (j : Nat) (u : Value), l[j]? = some u → (W.alloc (.cells l.toArray t)).cell? (Addr.add ⟨W.heap.size, 0, none⟩ j) = some u := by
  intro j u hj
  have h : (W.alloc (.cells l.toArray t)).heap[W.heap.size]? = some (.cells l.toArray t) := by show (W.heap.push _)[W.heap.size]? = _; simp
  have e : Addr.add ⟨W.heap.size, 0, none⟩ j = ⟨W.heap.size, j, none⟩ := by simp only [Addr.add]; split <;> simp_all
  rw [e]
  simp only [World.cell?, h]
  simpa using hj

theorem encC_one (l : List Ch) : ∀ u ∈ encC l, u.oneCell' = true := by
  intro u hu
  simp only [encC, List.mem_flatMap] at hu
  obtain ⟨x, _, hx⟩ := hu
  simp [Ch.enc] at hx
  rcases hx with rfl | rfl | rfl | rfl <;> rfl

set_option maxHeartbeats 1000000 in
theorem refRound_bad (n : Int) (w : World) (h : n < 1 ∨ 8 < n) :
    Calls Tryz.prog 7 #[.int .i64 n] w fun e w' => e = .returned (.tuple #[.slice none 0 0, .int .i64 2]) ∧ Aged w w' := by
  by_cases h1 : n < 1
  · go_enter Tryz.func7, Tryz.ntmps7
    go_wp2
    go_ret2
    exact ⟨by simp, Aged.refl _⟩
  · have h2 : 8 < n := by omega
    go_enter Tryz.func7, Tryz.ntmps7
    go_wp2
    go_ret2
    exact ⟨by simp, Aged.refl _⟩

set_option maxHeartbeats 4000000 in
set_option maxRecDepth 100000 in
theorem refRound_good (N : Nat) (w : World) (h1 : 1 ≤ N) (h2 : N ≤ 8) :
    Calls Tryz.prog 7 #[.int .i64 N] w fun e w' => ∃ v, e = .returned (.tuple #[v, .int .i64 0]) ∧ w'.ownsRow w.heap.size 60 4 v (5 * N) (encC (rnd N)) ∧ Below w.heap.size w w' := by
  obtain ⟨i0, hi, hz0, hz1, hz2⟩ := info_parts info59
  have h1' : ¬ (N : Int) < 1 := by omega
  have h2' : ¬ (8 : Int) < N := by omega
  go_enter Tryz.func7, Tryz.ntmps7
  go_wp2
  go_loopg [4, 5] N (fun gg v i wr => ∃ k : Nat, k ≤ N ∧ N - k ≤ gg ∧ i = .int .i64 (k + 1) ∧ Aside (wr.ownsRow w.heap.size 60 4 v (5 * k) (encC (rnd k))) ∧ Aside (Below w.heap.size w wr))
  case atStart => exact ⟨0, Nat.zero_le _, by omega, rfl, World.ownsRow_nil _ _ _ _, Below.refl _ _⟩
  case round =>
    obtain ⟨k, hk, hg, rfl, hown, hB⟩ := hrel
    by_cases hlt : k < N
    · have hltz : (k : Int) + 1 ≤ N := by omega
      have E : Aside (encC (rnd (k + 1)) = encC (rnd k) ++ [.int .i8 8, .int .i64 (k + 1), .int .i64 0, .int .u64 0, .int .i8 2, .int .i64 (k + 1), .int .i64 0, .int .u64 0, .int .i8 7, .int .i64 (k + 1), .int .i64 0, .int .u64 0, .int .i8 3, .int .i64 (k + 1), .int .i64 0, .int .u64 0, .int .i8 0, .int .i64 (k + 1), .int .i64 0, .int .u64 0]) := by
        show _ = _
        rw [rnd, encC_append]; simp [part, kindsR, encC, Ch.enc]
      generalize hes : encC (rnd k) = es at hown E
      clear hes
      go_wp2_with (first
        | (at_builtin; refine wpList_append_own _ rfl _ _ 44 rfl w.heap.size 60 i0 _ 4 32 Tryz.underlying44 hi hz0 hz1 hz2 rfl (by decide) _ _ _ rfl (hown.out.alloc _) ⟨wr.heap.size, 0, none⟩ 5 5 [.int .i8 8, .int .i64 (k + 1), .int .i64 0, .int .u64 0, .int .i8 2, .int .i64 (k + 1), .int .i64 0, .int .u64 0, .int .i8 7, .int .i64 (k + 1), .int .i64 0, .int .u64 0, .int .i8 3, .int .i64 (k + 1), .int .i64 0, .int .u64 0, .int .i8 0, .int .i64 (k + 1), .int .i64 0, .int .u64 0] rfl rfl ?c1 ?c2 ?c3 ?c4 ?c5 ?_)
        | go_in)
      case c1 => exact cells_new wr _ 60
      case c2 => intro u hu; simp at hu; rcases hu with h | h | h | h | h | h | h | h | h | h | h | h | h | h | h | h | h | h | h | h <;> (subst h; rfl)
      case c3 => unfold maxLen; omega
      case c4 => omega
      case c5 => have := hB.out.size; simp; omega
      intro v' w1 hown' hgrow _
      have hB' := grown_below (hB.out.alloc hB.out.size _) (hown.out.alloc _) hgrow
      have O : Aside (w1.ownsRow w.heap.size 60 4 v' (5 * k + 5) (es ++ [.int .i8 8, .int .i64 (k + 1), .int .i64 0, .int .u64 0, .int .i8 2, .int .i64 (k + 1), .int .i64 0, .int .u64 0, .int .i8 7, .int .i64 (k + 1), .int .i64 0, .int .u64 0, .int .i8 3, .int .i64 (k + 1), .int .i64 0, .int .u64 0, .int .i8 0, .int .i64 (k + 1), .int .i64 0, .int .u64 0])) := hown'
      have BB : Aside (Below w.heap.size w w1) := hB'
      clear hown' hgrow hB'
      go_wp2
      go_roundg (N - (k + 1))
      case measure => omega
      case rel =>
        refine ⟨k + 1, by omega, by omega, by go_num, (show Aside _ from ?_), BB⟩
        show w1.ownsRow w.heap.size 60 4 _ _ _
        rw [E.out, show 5 * (k + 1) = 5 * k + 5 by omega]
        exact O.out
    · have hltz : ¬ (k : Int) + 1 ≤ N := by omega
      obtain rfl : k = N := by omega
      go_wp2
      go_ret2
      exact ⟨_, rfl, hown.out, hB.out⟩

theorem encC_at : ∀ (ys : List Ch) (j i : Nat), j < ys.length → i < 4 → (encC ys)[j * 4 + i]? = (ys[j]!.enc)[i]?
  | [], j, i, h, _ => absurd h (Nat.not_lt_zero _)
  | y :: ys, 0, i, _, hi => by
    simp only [encC, List.flatMap_cons, Nat.zero_mul, Nat.zero_add]
    rw [List.getElem?_append_left (by rw [enc_len]; exact hi)]
    rfl
  | y :: ys, j + 1, i, h, hi => by
    have ih := encC_at ys j i (by simpa using h) hi
    simp only [encC, List.flatMap_cons] at ih ⊢
    rw [List.getElem?_append_right (by rw [enc_len]; omega), enc_len, show (j + 1) * 4 + i - 4 = j * 4 + i by omega, ih]
    simp

/-- a row of its own, read -/
theorem frow_of_owns {w : World} {base : Nat} {v : Value} {ys : List Ch} {n : Nat} (h : w.ownsRow base 60 4 v n (encC ys)) (hn : n = ys.length) (hl : ys.length ≤ 1000000) :
    ∃ A cap, v = .slice A n cap ∧ n ≤ cap ∧ cap ≤ maxLen ∧ FRow w A n ys ∧ (A = none → cap = 0) := by
  subst hn
  have h0 := h
  rcases h.2 with ⟨hv, h1⟩ | ⟨g, cap, cur, hv, _, hh, h2, h3, _, _⟩
  · exact ⟨none, 0, by rw [hv, h1], by omega, by unfold maxLen; omega, ⟨rfl, hl, .inl h1⟩, fun _ => rfl⟩
  · refine ⟨some ⟨g, 0, none⟩, cap, hv, h2, h3, ⟨rfl, hl, .inr ⟨g, 0, rfl, (h.lt g (by rw [hv]; rfl)).2, fun j hj i u hi => ?_⟩⟩, (fun e => by cases e)⟩
    have hi3 : i < 4 := (List.getElem?_eq_some_iff.1 hi).1
    have hc := h0.cells (g := g) (by rw [hv]; rfl) (j * 4 + i) u (by rw [encC_at ys j i hj hi3]; exact hi)
    have e : (⟨g, 0, none⟩ : Addr).add (j * 4 + i) = ⟨g, 0 + j * 4 + i, none⟩ := by
      simp only [Addr.add]
      split
      · rw [show 0 + j * 4 + i = 0 by omega]
      · rw [← Nat.add_assoc]
    rw [← e]; exact hc

/-- the cells of a row, appended to another -/
theorem frow_news {w : World} {b o : Nat} {xs : List Ch} (h : ∀ j, j < xs.length → ∀ i v, (xs[j]!.enc)[i]? = some v → w.cell? ⟨b, o + j * 4 + i, none⟩ = some v) :
    ∀ (j : Nat) (u : Value), (encC xs)[j]? = some u → w.cell? (Addr.add ⟨b, o, none⟩ j) = some u := by
  intro j u hj
  have hlt : j < xs.length * 4 := by
    have := (List.getElem?_eq_some_iff.1 hj).1
    rw [encC_len] at this; exact this
  have h1 := encC_at xs (j / 4) (j % 4) (by omega) (by omega)
  rw [show j / 4 * 4 + j % 4 = j by omega] at h1
  rw [h1] at hj
  have h2 := h (j / 4) (by omega) (j % 4) u hj
  have e : Addr.add ⟨b, o, none⟩ j = ⟨b, o + j / 4 * 4 + j % 4, none⟩ := by
    simp only [Addr.add]
    split
    · rename_i hz; subst hz; simp
    · rw [show o + j / 4 * 4 + j % 4 = o + j by omega]
  rw [e]; exact h2

set_option maxHeartbeats 1000000 in
theorem refRounds_bad (n t : Int) (w : World) (h : n < 1 ∨ 8 < n) :
    Calls Tryz.prog 9 #[.int .i64 n, .int .i64 t] w fun e w' => e = .returned (.tuple #[.slice none 0 0, .int .i64 2]) ∧ Aged w w' := by
  have hr := refRound_bad n w h
  clear h
  go_enter Tryz.func9, Tryz.ntmps9
  go_wp2_with (go_at_call 7; refine hr.mono ?_; rintro e w' ⟨rfl, ha⟩)
  go_ret2
  exact ⟨by simp, ha⟩

set_option maxHeartbeats 1000000 in
theorem refRounds_long (N : Nat) (t : Int) (w : World) (h1 : 1 ≤ N) (h2 : N ≤ 8) (ht : 1024 / (5 * (N : Int)) < t) :
    Calls Tryz.prog 9 #[.int .i64 N, .int .i64 t] w fun e w' => e = .returned (.tuple #[.slice none 0 0, .int .i64 3]) ∧ Aged w w' := by
  have hr := refRound_good N w h1 h2
  have hr2 : Calls Tryz.prog 7 #[.int .i64 N] w fun e w' => ∃ A cap, e = .returned (.tuple #[.slice A (5 * N) cap, .int .i64 0]) ∧ 5 * N ≤ cap ∧ cap ≤ maxLen ∧ Aside (FRow w' A (5 * N) (rnd N)) ∧ Aside (Below w.heap.size w w') :=
    hr.mono fun e w' ⟨v, he, ho, hb⟩ => by
      obtain ⟨A, cap, rfl, g1, g2, g3, g4⟩ := frow_of_owns ho (rnd_len N).symm (by rw [rnd_len]; omega)
      exact ⟨A, cap, he, g1, g2, g3, hb⟩
  clear hr
  go_enter Tryz.func9, Tryz.ntmps9
  go_wp2_with (go_at_call 7; refine hr2.mono ?_; rintro e w' ⟨A, cap, rfl, g1, g2, g3, g4⟩)
  go_ret2
  exact ⟨by simp, Aged.of_below g4.out⟩

theorem fits {N k : Nat} {t : Int} (h1 : 1 ≤ N) (ht : t ≤ 1024 / (5 * (N : Int))) (hk : (k : Int) < t) : 5 * N * k + 5 * N ≤ 1024 := by
  have h : (k + 1 : Int) ≤ 1024 / (5 * (N : Int)) := by omega
  have h2 : ((k + 1 : Nat) : Int) ≤ ((1024 / (5 * N) : Nat) : Int) := by
    rw [Int.natCast_ediv]; simpa using h
  have h3 : k + 1 ≤ 1024 / (5 * N) := by omega
  have h4 := (Nat.le_div_iff_mul_le (by omega)).1 h3
  rw [Nat.mul_comm, Nat.mul_add, Nat.mul_one] at h4; exact h4

/-- a slice of its own, that holds these choices -/
def Given (W : World) (ys : List Ch) (e : Ending) (W' : World) : Prop :=
  ∃ A cap, e = .returned (.tuple #[.slice A ys.length cap, .int .i64 0]) ∧ FRow W' A ys.length ys ∧ Aged W W'

theorem ownsRow_base {W : World} {b0 b1 e size k : Nat} {v : Value} {xs : List Value} (h : W.ownsRow b1 e size v k xs) (hle : b0 ≤ b1) : W.ownsRow b0 e size v k xs := by
  refine ⟨h.1, h.2.imp id fun ⟨g, cap, cur, h1, h2, h3⟩ => ⟨g, cap, cur, h1, Nat.le_trans hle h2, h3⟩⟩

theorem FRow.below {w w' : World} {A : Option Addr} {n : Nat} {zs : List Ch} (h : FRow w A n zs) (hB : Below w.heap.size w w') : FRow w' A n zs := h.aged (Aged.of_below hB)

set_option maxHeartbeats 4000000 in
set_option maxRecDepth 100000 in
theorem refRounds_good (N : Nat) (t : Int) (w : World) (h1 : 1 ≤ N) (h2 : N ≤ 8) (ht : t ≤ 1024 / (5 * (N : Int))) :
    Calls Tryz.prog 9 #[.int .i64 N, .int .i64 t] w (Given w (rnds N t.toNat)) := by
  obtain ⟨i0, hi, hz0, hz1, hz2⟩ := info_parts info59
  have hr := refRound_good N w h1 h2
  have hr2 : Calls Tryz.prog 7 #[.int .i64 N] w fun e w' => ∃ A cap, e = .returned (.tuple #[.slice A (5 * N) cap, .int .i64 0]) ∧ 5 * N ≤ cap ∧ cap ≤ maxLen ∧ Aside (FRow w' A (5 * N) (rnd N)) ∧ Aside (Below w.heap.size w w') :=
    hr.mono fun e w' ⟨v, he, ho, hb⟩ => by
      obtain ⟨A, cap, rfl, g1, g2, g3, g4⟩ := frow_of_owns ho (rnd_len N).symm (by rw [rnd_len]; omega)
      exact ⟨A, cap, he, g1, g2, g3, hb⟩
  clear hr
  have ht' : ¬ 1024 / (5 * (N : Int)) < t := by omega
  have FT := fun k => fits (k := k) h1 ht
  clear ht
  go_enter Tryz.func9, Tryz.ntmps9
  go_wp2_with (go_at_call 7; refine hr2.mono ?_; rintro e w' ⟨A, cap, rfl, g1, g2, g3, g4⟩)
  go_loopg [8, 9] t.toNat (fun gg v i wr => ∃ k : Nat, (k : Int) ≤ max t 0 ∧ t.toNat - k ≤ gg ∧ i = .int .i64 k ∧ Aside (wr.ownsRow w'.heap.size 60 4 v (5 * N * k) (encC (rnds N k))) ∧ Aside (Below w'.heap.size w' wr))
  case atStart => exact ⟨0, by omega, by omega, rfl, World.ownsRow_nil _ _ _ _, Below.refl _ _⟩
  case round =>
    obtain ⟨k, hk, hg, rfl, hown, hB⟩ := hrel
    by_cases hlt : (k : Int) < t
    · have hfit := FT k hlt
      clear FT
      have hk4 : (k : Int) ≤ 1024 := by
        have : 1 * k ≤ 5 * N * k := Nat.mul_le_mul_right k (by omega)
        omega
      have E : Aside (encC (rnds N (k + 1)) = encC (rnds N k) ++ encC (rnd N)) := by
        show _ = _
        rw [rnds, encC_append]
      have E2 : Aside (5 * N * (k + 1) = 5 * N * k + 5 * N) := by show _ = _; rw [Nat.mul_succ]
      have hrow := (g3.out).below hB.out
      obtain ⟨q1, q2, q3⟩ := hrow
      rcases q3 with q3 | ⟨b, o, rfl, hb, hc⟩
      · omega
      have hnews := frow_news hc
      have hone := encC_one (rnd N)
      have hnl : Aside ((encC (rnd N)).length = 5 * N * 4) := by show _ = _; rw [encC_len, rnd_len]
      generalize hrn : encC (rnd N) = rs at hnews hone hnl E
      clear q1 q2 hc hrn
      generalize hes : encC (rnds N k) = es at hown E
      generalize hM : 5 * N * k = M at hown hfit E2
      generalize hL : 5 * N = L at *
      clear hes hM
      go_wp2_with (first
        | (at_builtin; refine wpList_append_own _ rfl _ _ 44 rfl w'.heap.size 60 i0 _ 4 32 Tryz.underlying44 hi hz0 hz1 hz2 rfl (by decide) _ _ _ rfl hown.out ⟨b, o, none⟩ L cap rs rfl hnl.out hnews hone ?c3 ?c4 ?c5 ?_)
        | go_in)
      case c3 => unfold maxLen; omega
      case c4 => omega
      case c5 => exact hB.out.size
      intro v' w1 hown' hgrow _
      have hB' := grown_below hB.out hown.out hgrow
      have O : Aside (w1.ownsRow w'.heap.size 60 4 v' (M + L) (es ++ rs)) := hown'
      have BB : Aside (Below w'.heap.size w' w1) := hB'
      clear hown' hgrow hB'
      go_wp2
      go_roundg (t.toNat - (k + 1))
      case measure => omega
      case rel =>
        refine ⟨k + 1, by omega, by omega, by go_num, (show Aside _ from ?_), BB⟩
        show w1.ownsRow w'.heap.size 60 4 _ _ _
        rw [E.out, E2.out]
        exact O.out
    · clear FT
      have hkt : Aside (k = t.toNat) := by show _ = _; omega
      have hlen : Aside (5 * N * k ≤ 1000000) := by
        show _ ≤ _
        rcases Nat.eq_zero_or_pos k with h0 | h0
        · subst h0; simp
        · have := fits (k := k - 1) (t := t) h1 (by omega) (by omega)
          rw [show k = (k - 1) + 1 by omega, Nat.mul_succ]; omega
      go_wp2
      go_ret2
      obtain ⟨A2, cap2, rfl, r1, r2, r3, r4⟩ := frow_of_owns hown.out (rnds_len N k).symm (by rw [rnds_len]; exact hlen.out)
      rw [← hkt.out]
      exact ⟨A2, cap2, by simp [rnds_len], by rw [rnds_len]; exact r3, (Aged.of_below g4.out).trans (Aged.of_below hB.out)⟩
end Go.Proofs.Fr
