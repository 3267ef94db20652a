/- Two rows of choices that hold the same are found alike by the law's 'rows', whatever world they stand in. -/
import Derived.WalkKit
import Derived.BigQuiet
import Derived.Deep.QuietTactic
import Derived.Shelf.SlicesQ.Load
import Derived.Laws.StructEq
import Derived.Test.YtobkmmlodmdlgaaGreatDoorChecked
import Derived.Test.YtobkmmlodmdlgaaGreatDoorAged
set_option linter.all false
namespace Go.Proofs.Fr
open Go.RowKit Go.Lib Go.Proofs.Aged

/-- a choice of the rounds -/
structure Ch where
  kind : Int
  core : Int
  deriving Inhabited, DecidableEq

def Ch.enc (x : Ch) : List Value := [.int .i8 x.kind, .int .i64 x.core, .int .i64 0, .int .u64 0]
def encC (l : List Ch) : List Value := l.flatMap Ch.enc
theorem encC_snoc (l : List Ch) (x : Ch) : encC (l ++ [x]) = encC l ++ x.enc := by simp [encC]
theorem encC_append (l k : List Ch) : encC (l ++ k) = encC l ++ encC k := by simp [encC]
theorem enc_len (x : Ch) : x.enc.length = 4 := rfl
theorem encC_len : ∀ (l : List Ch), (encC l).length = l.length * 4
  | [] => rfl
  | x :: l => by have := encC_len l; simp only [encC, List.flatMap_cons, List.length_append, enc_len, List.length_cons] at this ⊢; omega

def kindsR : List Int := [8, 2, 7, 3, 0]
/-- a core's part of a round -/
def part (i : Int) : List Ch := kindsR.map fun k => ⟨k, i⟩
/-- the first j cores' parts -/
def rnd : Nat → List Ch
  | 0 => []
  | j + 1 => rnd j ++ part (j + 1 : Nat)
def rnds (n : Nat) : Nat → List Ch
  | 0 => []
  | t + 1 => rnds n t ++ rnd n
theorem rnd_len : ∀ j, (rnd j).length = 5 * j
  | 0 => rfl
  | j + 1 => by rw [rnd, List.length_append, rnd_len j]; simp [part, kindsR]; omega
theorem rnds_len (n : Nat) : ∀ t, (rnds n t).length = 5 * n * t
  | 0 => rfl
  | t + 1 => by rw [rnds, List.length_append, rnds_len n t, rnd_len, Nat.mul_succ]

theorem neqC (x : Ch) (w : World) : (binOp .neq 60 (.agg x.enc.toArray) (.agg x.enc.toArray)).run Tryz.prog w = .ok (.bool false) w := by
  have u3 := Tryz.underlying3
  have a3 := Tryz.isAgg3
  have z3 := Tryz.sizeOf3
  have u26 := Tryz.underlying26
  have a26 := Tryz.isAgg26
  have z26 := Tryz.sizeOf26
  have u27 := Tryz.underlying27
  have a27 := Tryz.isAgg27
  have z27 := Tryz.sizeOf27
  have hS : Tryz.prog.underlying 60 = some (.struct (Tryz.prog.fieldsOf 60)) := by kernel_rfl
  have hp : Tryz.prog.stoodInHeld 60 = false := by kernel_rfl
  obtain ⟨k, c⟩ := x
  simp only [Ch.enc]
  rw [run_neq_struct, show (10000 : Nat) = 9999 + 1 from rfl, run_equalIn_agg w 9999 60 _ _ hS hp]
  simp only [Program.fieldsOf, Tryz.underlying60]
  go_simp

theorem guardC (op : BinOp) (a b : Operand) (x y : Ch) (w : World) : (eqGuard op 60 a b (.agg x.enc.toArray) (.agg y.enc.toArray)).run Tryz.prog w = .ok () w :=
  GuardAt.agg (P := Tryz.prog) (T := 60) (fun x : Ch => x.enc.toArray) (by kernel_rfl) op a b x y w

/-- a slice of choices, as a value -/
def FRow (w : World) (A : Option Addr) (n : Nat) (xs : List Ch) : Prop :=
  n = xs.length ∧ n ≤ 1000000 ∧ (n = 0 ∨ ∃ b o, A = some ⟨b, o, none⟩ ∧ b < w.heap.size ∧ ∀ j, j < xs.length → ∀ i v, (xs[j]!.enc)[i]? = some v → w.cell? ⟨b, o + j * 4 + i, none⟩ = some v)
theorem FRow.aged {w w' : World} {A : Option Addr} {n : Nat} {zs : List Ch} (h : FRow w A n zs) (hB : Aged w w') : FRow w' A n zs := by
  obtain ⟨h1, h2, h3⟩ := h
  refine ⟨h1, h2, h3.imp id fun ⟨b, o, hA, hb, hc⟩ => ⟨b, o, hA, Nat.lt_of_lt_of_le hb hB.size, fun j hj i v hi => ?_⟩⟩
  rw [hB.cell (p := ⟨b, o + j * 4 + i, none⟩) hb]; exact hc j hj i v hi

set_option maxHeartbeats 1000000 in
theorem rows_zero (A B : Option Addr) (c d : Nat) (w : World) :
    Calls Tryz.prog 12 #[.slice A 0 c, .slice B 0 d] w fun e w' => e = .returned (.bool true) ∧ ∃ q, w' = w.drewN q := by
  go_enter Tryz.func12, Tryz.ntmps12
  go_wp2
  go_loopg [5] 0 (fun gg s8 wr => s8 = .int .i64 0 ∧ wr = w)
  case atStart => exact ⟨rfl, rfl⟩
  case round =>
    obtain ⟨rfl, rfl⟩ := hrel
    go_wp2
    go_ret
    exact ⟨rfl, 0, rfl⟩

set_option maxHeartbeats 4000000 in
set_option maxRecDepth 100000 in
theorem rows_eq (b1 o1 n c b2 o2 d : Nat) (xs : List Ch) (w : World) (hx : n = xs.length) (hbig : n ≤ 1000000)
    (hc1 : ∀ j, j < xs.length → ∀ i v, (xs[j]!.enc)[i]? = some v → w.cell? ⟨b1, o1 + j * 4 + i, none⟩ = some v) (hc2 : ∀ j, j < xs.length → ∀ i v, (xs[j]!.enc)[i]? = some v → w.cell? ⟨b2, o2 + j * 4 + i, none⟩ = some v) :
    Calls Tryz.prog 12 #[.slice (some ⟨b1, o1, none⟩) n c, .slice (some ⟨b2, o2, none⟩) n d] w fun e w' => e = .returned (.bool true) ∧ ∃ q, w' = w.drewN q := by
  have hx' : n ≤ xs.length := by omega
  clear hx
  go_enter Tryz.func12, Tryz.ntmps12
  go_wp2
  go_loopg [5] n (fun gg s8 wr => ∃ kk q : Nat, kk ≤ n ∧ n - kk ≤ gg ∧ s8 = .int .i64 kk ∧ wr = w.drewN q)
  case atStart => exact ⟨0, 0, Nat.zero_le _, by omega, rfl, rfl⟩
  case round =>
    obtain ⟨kk, q, hkk, hg, rfl, rfl⟩ := hrel
    by_cases hlt : kk < n
    · have hltz : (kk : Int) < (n : Int) := by omega
      have l1 : ∀ i v, (xs[kk]!.enc)[i]? = some v → (w.drewN q).cell? ⟨b1, o1 + kk * 4 + i, none⟩ = some v := fun i v hi => by rw [World.cell?_drewN]; exact hc1 kk (by omega) i v hi
      have l2 : ∀ i v, (xs[kk]!.enc)[i]? = some v → (w.drewN q).cell? ⟨b2, o2 + kk * 4 + i, none⟩ = some v := fun i v hi => by rw [World.cell?_drewN]; exact hc2 kk (by omega) i v hi
      clear hc1 hc2
      generalize xs[kk]! = x at l1 l2
      generalize hwq : w.drewN q = wq at l1 l2 ⊢
      have B : Aside (w.drewN q = wq) := hwq
      clear hwq
      have hne' := neqC x
      have hgd' := fun op a b w => guardC op a b x x w
      obtain ⟨k, co⟩ := x
      have c10 := l1 0 _ rfl
      have c11 := l1 1 _ rfl
      have c12 := l1 2 _ rfl
      have c13 := l1 3 _ rfl
      have c20 := l2 0 _ rfl
      have c21 := l2 1 _ rfl
      have c22 := l2 2 _ rfl
      have c23 := l2 3 _ rfl
      clear l1 l2
      simp only [Nat.add_zero] at c10 c20
      simp only [Ch.enc] at hne' hgd'
      go_wp2_with fail
      go_quiet (fail)
      go_wp2
      go_roundg (n - (kk + 1))
      case measure => omega
      case rel =>
        exact ⟨kk + 1, q + nq, by omega, by omega, by go_num, by rw [← B.out, World.drewN_drewN]⟩
    · have hltz : ¬ (kk : Int) < (n : Int) := by omega
      have : kk = n := by omega
      subst this
      clear hc1 hc2
      go_wp2
      go_ret
      exact ⟨rfl, q, rfl⟩

theorem rows_same (A B : Option Addr) (n c d : Nat) (xs : List Ch) (w : World) (hx : FRow w A n xs) (hy : FRow w B n xs) :
    Calls Tryz.prog 12 #[.slice A n c, .slice B n d] w fun e w' => e = .returned (.bool true) ∧ ∃ q, w' = w.drewN q := by
  obtain ⟨h1, h2, h3⟩ := hx
  obtain ⟨h4, h5, h6⟩ := hy
  rcases h3 with h3 | ⟨b1, o1, rfl, hb1, hc1⟩
  · subst h3; exact rows_zero A B c d w
  · rcases h6 with h6 | ⟨b2, o2, rfl, hb2, hc2⟩
    · subst h6; exact rows_zero _ B c d w
    · exact rows_eq b1 o1 n c b2 o2 d xs w h1 h2 hc1 hc2

open Go.RowKit Go.Lib Go.Proofs.Aged

set_option maxHeartbeats 1000000 in
set_option maxRecDepth 100000 in
theorem duties (c0 c1 c2 c4 c5 c6 c7 c8 c9 c10 c11 c12 c13 c15 c16 c17 c18 c19 c20 c21 c22 c23 c24 c26 c27 : Value) (on : Bool) (k : Int) (A : Option Addr) (n cp : Nat) (w : World) :
    Calls Tryz.prog 10 #[.agg #[c0, c1, c2, .bool on, c4, c5, c6, c7, c8, c9, c10, c11, c12, c13, .int .i64 k, c15, c16, c17, c18, c19, c20, c21, c22, c23, c24, .slice A n cp, c26, c27]] w fun e w' => e = .returned (.tuple #[.bool on, .bool (decide (0 < n)), .bool (decide (0 < k))]) ∧ Aged w w' := by
  go_enter Tryz.func10, Tryz.ntmps10
  go_wp2_with fail
  go_quiet (fail)
  go_wp2
  go_ret3
  exact ⟨by simp, (Aged.of_below ((Below.refl _ w).alloc (Nat.le_refl _) _)).trans (Aged.of_drewN _ _)⟩

set_option maxHeartbeats 1000000 in
set_option maxRecDepth 100000 in
theorem refDuties (c0 c1 c2 c4 c5 c6 c7 c8 c9 c10 c11 c12 c13 c15 c16 c17 c18 c19 c20 c21 c22 c23 c24 c26 c27 : Value) (on : Bool) (k : Int) (A : Option Addr) (n cp : Nat) (w : World) :
    Calls Tryz.prog 11 #[.agg #[c0, c1, c2, .bool on, c4, c5, c6, c7, c8, c9, c10, c11, c12, c13, .int .i64 k, c15, c16, c17, c18, c19, c20, c21, c22, c23, c24, .slice A n cp, c26, c27]] w fun e w' => e = .returned (.tuple #[.bool on, .bool (decide (0 < n)), .bool (decide (0 < k))]) ∧ Aged w w' := by
  go_enter Tryz.func11, Tryz.ntmps11
  go_wp2_with fail
  go_quiet (fail)
  go_wp2
  go_ret3
  exact ⟨by simp, (Aged.of_below ((Below.refl _ w).alloc (Nat.le_refl _) _)).trans (Aged.of_drewN _ _)⟩

def mostV (y : Int) : Int := 20 + 4 * min (max 16 0) 1048576 + 4 * min (max y 0) 1048576
set_option maxHeartbeats 1000000 in
theorem brought (x : Int) (w : World) :
    Calls Tryz.prog 25 #[.int .i64 x] w fun e w' => e = .returned (.int .i64 (min (max x 0) 1048576)) ∧ w = w' := by
  go_enter Tryz.func25, Tryz.ntmps25
  go_wp2
  go_ret
  exact ⟨by simp, rfl⟩
set_option maxHeartbeats 1000000 in
theorem most (y : Int) (w : World) :
    Calls Tryz.prog 18 #[.int .i64 16, .int .i64 y] w fun e w' => e = .returned (.int .i64 (mostV y)) ∧ w = w' := by
  go_enter Tryz.func18, Tryz.ntmps18
  go_wp2_with (go_at_call 25; refine (brought _ _).mono ?_; rintro e w' ⟨rfl, rfl⟩)
  go_ret
  exact ⟨by simp [mostV], rfl⟩
set_option maxHeartbeats 1000000 in
theorem refMost (y : Int) (w : World) :
    Calls Tryz.prog 19 #[.int .i64 16, .int .i64 y] w fun e w' => e = .returned (.int .i64 (mostV y)) ∧ w = w' := by
  go_enter Tryz.func19, Tryz.ntmps19
  go_wp2
  go_ret
  exact ⟨by simp [mostV], rfl⟩
def boundV (n fr x : Int) : Int := wrap64 (wrap64 (20 * min (max x 0) 1048576 * min (max n 0) 8) * wrap64 (8 + mostV (min fr 64)))
set_option maxHeartbeats 1000000 in
set_option maxRecDepth 100000 in
theorem bound (n fr as_ : Int) (v3 v4 : Value) (x : Int) (w : World) :
    Calls Tryz.prog 13 #[.agg #[.int .i64 n, .int .i64 fr, .int .i64 as_, v3, v4], .int .i64 x] w fun e w' => e = .returned (.int .i64 (boundV n fr x)) ∧ Aged w w' := by
  go_enter Tryz.func13, Tryz.ntmps13
  go_wp2_with (go_at_call 18; refine (most _ _).mono ?_; rintro e w' ⟨rfl, rfl⟩)
  go_ret
  exact ⟨by simp [boundV], Aged.of_below ((Below.refl _ w).alloc (Nat.le_refl _) _)⟩
set_option maxHeartbeats 1000000 in
set_option maxRecDepth 100000 in
theorem refBound (n fr as_ : Int) (v3 v4 : Value) (x : Int) (w : World) :
    Calls Tryz.prog 14 #[.agg #[.int .i64 n, .int .i64 fr, .int .i64 as_, v3, v4], .int .i64 x] w fun e w' => e = .returned (.int .i64 (boundV n fr x)) ∧ Aged w w' := by
  go_enter Tryz.func14, Tryz.ntmps14
  go_wp2_with (go_at_call 19; refine (refMost _ _).mono ?_; rintro e w' ⟨rfl, rfl⟩)
  go_ret
  exact ⟨by simp [boundV], Aged.of_below ((Below.refl _ w).alloc (Nat.le_refl _) _)⟩
end Go.Proofs.Fr
