/- The law FairRounds returns true, given what its callees answer and that its guard answers true. -/
import Derived.Test.YtobkmmlodmdlgaaGreatDoorFrGreat
import Derived.Deep.RegionHeld3
import Derived.Deep.DrawnRows
import Derived.Deep.MidRow
set_option linter.all false
namespace Go.Proofs.Fr
open Go.RowKit Go.Lib Go.Proofs.Aged
attribute [local go_sem ↓] Go.wp_at_zero Go.wp_at_succ

/-- what the makers of rounds answer -/
def Res (xs : List Ch) (q : Int) (W : World) (e : Ending) (W' : World) : Prop :=
  ∃ A cap, e = .returned (.tuple #[.slice A xs.length cap, .int .i64 q]) ∧ FRow W' A xs.length xs ∧ Aged W W'
theorem res_nil (q : Int) (W : World) (e : Ending) (W' : World) (h : e = .returned (.tuple #[.slice none 0 0, .int .i64 q]) ∧ Aged W W') : Res [] q W e W' :=
  ⟨none, 0, h.1, ⟨rfl, by simp, .inl rfl⟩, h.2⟩
theorem res_given {xs : List Ch} (W : World) (e : Ending) (W' : World) (h : Given W xs e W') : Res xs 0 W e W' := h

theorem round_both (n : Int) : ∃ xs q, (∀ w, Calls Tryz.prog 6 #[.int .i64 n] w (Res xs q w)) ∧ (∀ w, Calls Tryz.prog 7 #[.int .i64 n] w (Res xs q w)) := by
  by_cases h : n < 1 ∨ 8 < n
  · exact ⟨[], 2, fun w => (round1_bad n w h).mono (res_nil 2 w), fun w => (refRound_bad n w h).mono (res_nil 2 w)⟩
  · obtain ⟨N, rfl⟩ := Int.eq_ofNat_of_zero_le (show 0 ≤ n by omega)
    exact ⟨rnd N, 0, fun w => (round1_good N w (by omega) (by omega)).mono (res_given w), fun w => (refRound_given N w (by omega) (by omega)).mono (res_given w)⟩

theorem rounds_both (n t : Int) : ∃ xs q, (∀ w, Calls Tryz.prog 8 #[.int .i64 n, .int .i64 t] w (Res xs q w)) ∧ (∀ w, Calls Tryz.prog 9 #[.int .i64 n, .int .i64 t] w (Res xs q w)) := by
  by_cases h : n < 1 ∨ 8 < n
  · exact ⟨[], 2, fun w => (rounds_bad n t w h).mono (res_nil 2 w), fun w => (refRounds_bad n t w h).mono (res_nil 2 w)⟩
  · obtain ⟨N, rfl⟩ := Int.eq_ofNat_of_zero_le (show 0 ≤ n by omega)
    by_cases h2 : 1024 / (5 * (N : Int)) < t
    · exact ⟨[], 3, fun w => (rounds_long N t w (by omega) (by omega) h2).mono (res_nil 3 w), fun w => (refRounds_long N t w (by omega) (by omega) h2).mono (res_nil 3 w)⟩
    · exact ⟨rnds N t.toNat, 0, fun w => (rounds_good N t w (by omega) (by omega) (by omega)).mono (res_given w), fun w => (refRounds_good N t w (by omega) (by omega) (by omega)).mono (res_given w)⟩

theorem PlanIn.aged {w w' : World} {A B : Option Addr} {n m : Nat} (h : PlanIn w A n B m) (ha : Aged w w') : PlanIn w' A n B m :=
  ⟨fun i hi => by
    obtain ⟨b, of, h1, h2, C, l, c, h4⟩ := h.img i hi
    exact ⟨b, of, h1, Nat.lt_of_lt_of_le h2 ha.size, C, l, c, by rw [ha.cell (p := ⟨b, of + i, none⟩) h2]; exact h4⟩, fun i hi => by
    obtain ⟨b, of, h1, h2, C, l, c, h4⟩ := h.spc i hi
    exact ⟨b, of, h1, Nat.lt_of_lt_of_le h2 ha.size, C, l, c, by rw [ha.cell (p := ⟨b, of + i * 3 + 1, none⟩) h2]; exact h4⟩⟩


/-- the callees' contracts, at this plan and this core -/
structure Callees (w : World) (ps cs : Array Value) (x : Int) (o z1 z2 : Bool) (bv : Int) : Prop where
  great : ∀ W, Aged w W → Calls Tryz.prog 4 #[.agg ps] W fun e W' => ∃ b : Bool, e = .returned (.bool b) ∧ Aged W W'
  bound : ∀ W, Calls Tryz.prog 13 #[.agg ps, .int .i64 x] W fun e W' => e = .returned (.int .i64 bv) ∧ Aged W W'
  refBound : ∀ W, Calls Tryz.prog 14 #[.agg ps, .int .i64 x] W fun e W' => e = .returned (.int .i64 bv) ∧ Aged W W'
  duties : ∀ W, Calls Tryz.prog 10 #[.agg cs] W fun e W' => e = .returned (.tuple #[.bool o, .bool z1, .bool z2]) ∧ Aged W W'
  refDuties : ∀ W, Calls Tryz.prog 11 #[.agg cs] W fun e W' => e = .returned (.tuple #[.bool o, .bool z1, .bool z2]) ∧ Aged W W'
  psize : ps.size = 5
  csize : cs.size = 28

theorem heldAt {w : World} {b : Nat} {cs : Array Value} {t : TypeId} (h : w.heap[b]? = some (.cells cs t)) : w.rangeAt b 0 cs.toList := fun j v hj => by
  simp only [World.cell?, h]
  simpa using hj

theorem info41 : (Tryz.prog.info? 41).map (·.size) = some 28 := by kernel_rfl

set_option maxHeartbeats 4000000 in
set_option maxRecDepth 100000 in
theorem outer_long (n t x : Int) (P0 P1 P2 P3 P4 : Value) (cs : Array Value) (C : Option Addr) (bn bc : Nat) (o z1 z2 : Bool) (bv : Int) (w : World) (H : Callees w #[P0, P1, P2, P3, P4] cs x o z1 z2 bv) (h25 : cs[25]? = some (.slice C bn bc))
    (hw : ∀ W, Aged w W → Calls Tryz.prog 5 #[] W fun e W' => e = .returned (.bool true) ∧ Aged W W') (hb : ¬ (20 : Int) < bn) :
    Calls Tryz.prog 3 #[.int .i64 n, .int .i64 t, .int .i64 x, .agg #[P0, P1, P2, P3, P4], .agg cs] w fun e w' => e = .returned (.bool true) ∧ Aged w w' := by
  obtain ⟨w2, hw2⟩ : ∃ w2, (w.alloc (.cells #[P0, P1, P2, P3, P4] 25)).alloc (.cells cs 41) = w2 := ⟨_, rfl⟩
  have hsz : w2.heap.size = w.heap.size + 2 := by rw [← hw2]; simp
  have ha : Aged w w2 := by rw [← hw2]; exact Aged.of_below (((Below.refl _ w).alloc (Nat.le_refl _) _).alloc (by simp) _)
  have hC0 : w2.heap[w.heap.size + 1]? = some (.cells cs 41) := by
    rw [← hw2]
    have := World.alloc_heap_new (w.alloc (.cells #[P0, P1, P2, P3, P4] 25)) (.cells cs 41)
    simpa using this
  have hP0 : w2.heap[w.heap.size]? = some (.cells #[P0, P1, P2, P3, P4] 25) := by
    rw [← hw2, Below.heap_alloc _ _ _ (by simp)]
    exact World.alloc_heap_new w _
  have hCW : ∀ W, Aged w2 W → W.rangeAt (w.heap.size + 1) 0 cs.toList := fun W hW => heldAt (by rw [hW.block (w.heap.size + 1) (by omega)]; exact hC0)
  have hPW : ∀ W, Aged w2 W → W.cell? ⟨w.heap.size, 0, none⟩ = some P0 ∧ W.cell? ⟨w.heap.size, 1, none⟩ = some P1 ∧ W.cell? ⟨w.heap.size, 2, none⟩ = some P2 ∧ W.cell? ⟨w.heap.size, 3, none⟩ = some P3 ∧ W.cell? ⟨w.heap.size, 4, none⟩ = some P4 := fun W hW => by
    have h := heldAt (w := W) (by rw [hW.block w.heap.size (by omega)]; exact hP0)
    exact ⟨h 0 _ rfl, h 1 _ rfl, h 2 _ rfl, h 3 _ rfl, h 4 _ rfl⟩
  have hc25 : w2.cell? ⟨w.heap.size + 1, 25, none⟩ = some (.slice C bn bc) := by
    have := heldAt hC0 25 (.slice C bn bc) (by simpa using h25)
    simpa using this
  have hi41 : (Tryz.prog.info? 41).map (·.size) = some cs.toList.length := by rw [info41]; simp [H.csize]
  obtain ⟨q0, q1, q2, q3, q4⟩ := hPW w2 (Aged.refl _)
  have hA : Aside (Aged w w2) := ha
  have hg := H.great w2 ha
  have h5 : ∀ W, Aged w2 W → _ := fun W hW => hw W (ha.trans hW)
  obtain ⟨xs, q, h6, h7⟩ := round_both n
  obtain ⟨ys, qq, h8, h9⟩ := rounds_both n t
  have HH : Aside (Callees w #[P0, P1, P2, P3, P4] cs x o z1 z2 bv) := H
  have hPW' : Aside (∀ W, Aged w2 W → W.cell? ⟨w.heap.size, 0, none⟩ = some P0 ∧ W.cell? ⟨w.heap.size, 1, none⟩ = some P1 ∧ W.cell? ⟨w.heap.size, 2, none⟩ = some P2 ∧ W.cell? ⟨w.heap.size, 3, none⟩ = some P3 ∧ W.cell? ⟨w.heap.size, 4, none⟩ = some P4) := hPW
  clear ha hw hsz h25 H hC0 hP0 hPW
  go_enter Tryz.func3, Tryz.ntmps3
  go_wp2_with (go_at_call 4; refine hg.mono ?_; rintro e w' ⟨b, rfl, hb1⟩; cases b; rotate_left)
  · refine (h5 _ hb1).mono ?_
    rintro e w3 ⟨rfl, hb2⟩
    go_wp2
    go_ret
    exact ⟨by simp, hA.out.trans (hb1.trans hb2)⟩
  · clear q0 q1 q2 q3 q4 hc25 hg hw2
    refine (h6 _).mono ?_
    rintro e w3 ⟨A3, cp3, rfl, f3, a3⟩
    have b3 := hb1.trans a3
    have F3 : Aside (FRow w3 A3 xs.length xs) := f3
    clear f3 h6 hb1 a3
    go_wp2_with fail
    refine (h7 _).mono ?_
    rintro e w4 ⟨A4, cp4, rfl, f4, a4⟩
    have b4 := b3.trans a4
    have F4 : Aside (FRow w4 A4 xs.length xs ∧ FRow w4 A3 xs.length xs) := ⟨f4, F3.out.aged a4⟩
    clear f4 h7 b3 a4 F3
    go_wp2_with fail
    refine (h8 _).mono ?_
    rintro e w5 ⟨A5, cp5, rfl, f5, a5⟩
    have b5 := b4.trans a5
    have F5 : Aside (FRow w5 A5 ys.length ys ∧ FRow w5 A4 xs.length xs ∧ FRow w5 A3 xs.length xs) := ⟨f5, F4.out.1.aged a5, F4.out.2.aged a5⟩
    clear f5 h8 b4 a5 F4
    go_wp2_with fail
    refine (h9 _).mono ?_
    rintro e w6 ⟨A6, cp6, rfl, f6, a6⟩
    have b6 := b5.trans a6
    have F6 : Aside (FRow w6 A6 ys.length ys ∧ FRow w6 A5 ys.length ys ∧ FRow w6 A4 xs.length xs ∧ FRow w6 A3 xs.length xs) := ⟨f6, F5.out.1.aged a6, F5.out.2.1.aged a6, F5.out.2.2.aged a6⟩
    clear f6 h9 b5 a6 F5
    have hr := hCW w6 b6
    go_wp2_with (with_reducible refine wpList_load_mid rfl 41 (.tmp 9) rfl _ 0 rfl cs.toList _ hr Tryz.underlying41 rfl hi41 ?_)
    refine (HH.out.duties _).mono ?_
    rintro e w7 ⟨rfl, a7⟩
    have b7 := b6.trans a7
    have F7 : Aside (FRow w7 A6 ys.length ys ∧ FRow w7 A5 ys.length ys ∧ FRow w7 A4 xs.length xs ∧ FRow w7 A3 xs.length xs) := ⟨F6.out.1.aged a7, F6.out.2.1.aged a7, F6.out.2.2.1.aged a7, F6.out.2.2.2.aged a7⟩
    clear b6 a7 F6 hr
    have hr := hCW w7 b7
    go_wp2_with (with_reducible refine wpList_load_mid rfl 41 (.tmp 9) rfl _ 0 rfl cs.toList _ hr Tryz.underlying41 rfl hi41 ?_)
    refine (HH.out.refDuties _).mono ?_
    rintro e w8 ⟨rfl, a8⟩
    have b8 := b7.trans a8
    have F8 : Aside (FRow w8 A6 ys.length ys ∧ FRow w8 A5 ys.length ys ∧ FRow w8 A4 xs.length xs ∧ FRow w8 A3 xs.length xs) := ⟨F7.out.1.aged a8, F7.out.2.1.aged a8, F7.out.2.2.1.aged a8, F7.out.2.2.2.aged a8⟩
    clear b7 a8 F7 hr hCW
    go_wp2_with fail
    have hmk : ∀ W, Aged w8 W → W.cell? ⟨w.heap.size, 0, none⟩ = some P0 ∧ W.cell? ⟨w.heap.size, 1, none⟩ = some P1 ∧ W.cell? ⟨w.heap.size, 2, none⟩ = some P2 ∧ W.cell? ⟨w.heap.size, 3, none⟩ = some P3 ∧ W.cell? ⟨w.heap.size, 4, none⟩ = some P4 ∧ Aged w8 W := fun W hW => by
      obtain ⟨r0, r1, r2, r3, r4⟩ := hPW'.out W (b8.trans hW)
      exact ⟨r0, r1, r2, r3, r4, hW⟩
    have hd8 : Aged w8 w8.drew := ⟨rfl, rfl, Nat.le_refl _, fun _ _ => rfl⟩
    have hMK : Aside (∀ W, Aged w8 W → W.cell? ⟨w.heap.size, 0, none⟩ = some P0 ∧ W.cell? ⟨w.heap.size, 1, none⟩ = some P1 ∧ W.cell? ⟨w.heap.size, 2, none⟩ = some P2 ∧ W.cell? ⟨w.heap.size, 3, none⟩ = some P3 ∧ W.cell? ⟨w.heap.size, 4, none⟩ = some P4 ∧ Aged w8 W) := hmk
    clear hmk
    have HR1 : Aside (∀ W, Aged w8 W → Calls Tryz.prog 12 #[.slice A3 xs.length cp3, .slice A4 xs.length cp4] W fun e w' => e = .returned (.bool true) ∧ Aged w8 w') := fun W hW =>
      (rows_same A3 A4 xs.length cp3 cp4 xs W (F8.out.2.2.2.aged hW) (F8.out.2.2.1.aged hW)).mono fun e w' ⟨h1, r, h2⟩ => ⟨h1, by rw [h2]; exact hW.trans (Aged.of_drewN _ _)⟩
    have HR2 : Aside (∀ W, Aged w8 W → Calls Tryz.prog 12 #[.slice A5 ys.length cp5, .slice A6 ys.length cp6] W fun e w' => e = .returned (.bool true) ∧ Aged w8 w') := fun W hW =>
      (rows_same A5 A6 ys.length cp5 cp6 ys W (F8.out.2.1.aged hW) (F8.out.1.aged hW)).mono fun e w' ⟨h1, r, h2⟩ => ⟨h1, by rw [h2]; exact hW.trans (Aged.of_drewN _ _)⟩
    have HR3 : Aside (∀ W, Aged w8 W → Calls Tryz.prog 13 #[.agg #[P0, P1, P2, P3, P4], .int .i64 x] W fun e w' => e = .returned (.int .i64 bv) ∧ Aged w8 w') := fun W hW =>
      (HH.out.bound W).mono fun e w' h => ⟨h.1, hW.trans h.2⟩
    have HR4 : Aside (∀ W, Aged w8 W → Calls Tryz.prog 14 #[.agg #[P0, P1, P2, P3, P4], .int .i64 x] W fun e w' => e = .returned (.int .i64 bv) ∧ Aged w8 w') := fun W hW =>
      (HH.out.refBound W).mono fun e w' h => ⟨h.1, hW.trans h.2⟩
    have HR5 : Aside (∀ W, Aged w8 W → Calls Tryz.prog 5 #[] W fun e w' => e = .returned (.bool true) ∧ Aged w8 w') := fun W hW =>
      (h5 W (b8.trans hW)).mono fun e w' h => ⟨h.1, hW.trans h.2⟩
    have B8 : Aside (Aged w2 w8) := b8
    clear h5 b8 HH F8 hPW' hi41
    go_region_held3 (fun W => W.cell? ⟨w.heap.size, 0, none⟩ = some P0 ∧ W.cell? ⟨w.heap.size, 1, none⟩ = some P1 ∧ W.cell? ⟨w.heap.size, 2, none⟩ = some P2 ∧ W.cell? ⟨w.heap.size, 3, none⟩ = some P3 ∧ W.cell? ⟨w.heap.size, 4, none⟩ = some P4 ∧ Aged w8 W)
      (exact hMK.out _ (by assumption))
      (first
        | (go_at_call 12; (with_reducible refine (HR1.out _ (by assumption)).mono ?_); rintro e w9 ⟨rfl, hk9⟩)
        | (go_at_call 12; (with_reducible refine (HR2.out _ (by assumption)).mono ?_); rintro e w10 ⟨rfl, hk10⟩)
        | (go_at_call 13; (with_reducible refine (HR3.out _ (by assumption)).mono ?_); rintro e w11 ⟨rfl, hk11⟩)
        | (go_at_call 14; (with_reducible refine (HR4.out _ (by assumption)).mono ?_); rintro e w12 ⟨rfl, hk12⟩)
        | (go_at_call 5; (with_reducible refine (HR5.out _ (by assumption)).mono ?_); rintro e w13 ⟨rfl, hk13⟩))
    all_goals (
      go_wp2
      go_ret
      exact ⟨by simp, hA.out.trans (B8.out.trans hk13)⟩)

set_option maxHeartbeats 4000000 in
set_option maxRecDepth 100000 in
theorem outer_short (n t x : Int) (P0 P1 P2 P3 P4 : Value) (cs : Array Value) (C : Option Addr) (bn bc : Nat) (w : World) (h25 : cs[25]? = some (.slice C bn bc))
    (hw : ∀ W, Aged w W → Calls Tryz.prog 5 #[] W fun e W' => e = .returned (.bool true) ∧ Aged W W') (hb : (20 : Int) < bn) :
    Calls Tryz.prog 3 #[.int .i64 n, .int .i64 t, .int .i64 x, .agg #[P0, P1, P2, P3, P4], .agg cs] w fun e w' => e = .returned (.bool true) ∧ Aged w w' := by
  obtain ⟨w2, hw2⟩ : ∃ w2, (w.alloc (.cells #[P0, P1, P2, P3, P4] 25)).alloc (.cells cs 41) = w2 := ⟨_, rfl⟩
  have ha : Aged w w2 := by rw [← hw2]; exact Aged.of_below (((Below.refl _ w).alloc (Nat.le_refl _) _).alloc (by simp) _)
  have hC0 : w2.heap[w.heap.size + 1]? = some (.cells cs 41) := by
    rw [← hw2]
    have := World.alloc_heap_new (w.alloc (.cells #[P0, P1, P2, P3, P4] 25)) (.cells cs 41)
    simpa using this
  have hc25 : w2.cell? ⟨w.heap.size + 1, 25, none⟩ = some (.slice C bn bc) := by
    have := heldAt hC0 25 (.slice C bn bc) (by simpa using h25)
    simpa using this
  have h0 := hw _ ha
  have hA : Aside (Aged w w2) := ha
  clear ha hw h25 hC0
  go_enter Tryz.func3, Tryz.ntmps3
  go_wp2_with (go_at_call 5; refine h0.mono ?_; rintro e w' ⟨rfl, hb2⟩)
  go_ret
  exact ⟨by simp, hA.out.trans hb2⟩

theorem outer (n t x : Int) (P0 P1 P2 P3 P4 : Value) (cs : Array Value) (C : Option Addr) (bn bc : Nat) (o z1 z2 : Bool) (bv : Int) (w : World) (H : Callees w #[P0, P1, P2, P3, P4] cs x o z1 z2 bv) (h25 : cs[25]? = some (.slice C bn bc))
    (hw : ∀ W, Aged w W → Calls Tryz.prog 5 #[] W fun e W' => e = .returned (.bool true) ∧ Aged W W') :
    Calls Tryz.prog 3 #[.int .i64 n, .int .i64 t, .int .i64 x, .agg #[P0, P1, P2, P3, P4], .agg cs] w fun e w' => e = .returned (.bool true) ∧ Aged w w' := by
  by_cases hb : (20 : Int) < bn
  · exact outer_short n t x P0 P1 P2 P3 P4 cs C bn bc w h25 hw hb
  · exact outer_long n t x P0 P1 P2 P3 P4 cs C bn bc o z1 z2 bv w H h25 hw hb

theorem callees (w : World) (p0 p1 p2 : Int) (A B C : Option Addr) (an ac bm bd bn bc : Nat) (x : Int) (c0 c1 c2 c4 c5 c6 c7 c8 c9 c10 c11 c12 c13 c15 c16 c17 c18 c19 c20 c21 c22 c23 c24 c26 c27 : Value) (on : Bool) (k : Int) (hP : PlanIn w A an B bm) :
    Callees w #[.int .i64 p0, .int .i64 p1, .int .i64 p2, .slice A an ac, .slice B bm bd] #[c0, c1, c2, .bool on, c4, c5, c6, c7, c8, c9, c10, c11, c12, c13, .int .i64 k, c15, c16, c17, c18, c19, c20, c21, c22, c23, c24, .slice C bn bc, c26, c27] x on (decide (0 < bn)) (decide (0 < k)) (boundV p0 p1 x) where
  great W hW := great p0 p1 p2 A B an ac bm bd W (hP.aged hW)
  bound W := bound p0 p1 p2 _ _ x W
  refBound W := refBound p0 p1 p2 _ _ x W
  duties W := duties _ _ _ _ _ _ _ _ _ _ _ _ _ _ _ _ _ _ _ _ _ _ _ _ _ on k C bn bc W
  refDuties W := refDuties _ _ _ _ _ _ _ _ _ _ _ _ _ _ _ _ _ _ _ _ _ _ _ _ _ on k C bn bc W
  psize := rfl
  csize := rfl
end Go.Proofs.Fr
