/- 'Great' answers some bool for every plan that can be read; 'Round' of the code and of the document make one row. -/
import Derived.Test.YtobkmmlodmdlgaaGreatDoorFrRounds
set_option linter.all false
namespace Go.Proofs.Fr
open Go.RowKit Go.Shelf Go.Lib Go.Proofs.Aged

theorem rnds_one (n : Nat) : rnds n 1 = rnd n := by simp [rnds]

set_option maxHeartbeats 1000000 in
theorem round1_bad (n : Int) (w : World) (h : n < 1 ∨ 8 < n) :
    Calls Tryz.prog 6 #[.int .i64 n] w fun e w' => e = .returned (.tuple #[.slice none 0 0, .int .i64 2]) ∧ Aged w w' := by
  have hr := rounds_bad n 1 w h
  clear h
  go_enter Tryz.func6, Tryz.ntmps6
  go_wp2_with (go_at_call 8; refine hr.mono ?_; rintro e w' ⟨rfl, ha⟩)
  go_ret2
  exact ⟨by simp, ha⟩

set_option maxHeartbeats 1000000 in
theorem round1_good (N : Nat) (w : World) (h1 : 1 ≤ N) (h2 : N ≤ 8) :
    Calls Tryz.prog 6 #[.int .i64 N] w (Given w (rnd N)) := by
  have hr := rounds_good N 1 w h1 h2 (by
    have h := (by omega : N = 1 ∨ N = 2 ∨ N = 3 ∨ N = 4 ∨ N = 5 ∨ N = 6 ∨ N = 7 ∨ N = 8)
    rcases h with rfl | rfl | rfl | rfl | rfl | rfl | rfl | rfl <;> decide)
  rw [show (1 : Int).toNat = 1 from rfl, rnds_one] at hr
  have hr2 : Calls Tryz.prog 8 #[.int .i64 N, .int .i64 1] w fun e w' => ∃ A cap, e = .returned (.tuple #[.slice A (rnd N).length cap, .int .i64 0]) ∧ Aside (FRow w' A (rnd N).length (rnd N) ∧ Aged w w') := hr.mono fun e w' ⟨A, c, he, g1, g2⟩ => ⟨A, c, he, g1, g2⟩
  clear hr
  have hG : ∀ A cap w', Aside (FRow w' A (rnd N).length (rnd N) ∧ Aged w w') → Given w (rnd N) (.returned (.tuple #[.slice A (rnd N).length cap, .int .i64 0])) w' := fun A cap w' h => ⟨A, cap, rfl, h.out.1, h.out.2⟩
  generalize Given w (rnd N) = G at *
  generalize (rnd N).length = L at *
  go_enter Tryz.func6, Tryz.ntmps6
  go_wp2_with (go_at_call 8; refine hr2.mono ?_; rintro e w' ⟨A, cap, rfl, ha⟩)
  exact ha

theorem refRound_given (N : Nat) (w : World) (h1 : 1 ≤ N) (h2 : N ≤ 8) : Calls Tryz.prog 7 #[.int .i64 N] w (Given w (rnd N)) :=
  (refRound_good N w h1 h2).mono fun e w' ⟨v, he, ho, hb⟩ => by
    obtain ⟨A, cap, rfl, g1, g2, g3, g4⟩ := frow_of_owns ho (rnd_len N).symm (by rw [rnd_len]; omega)
    exact ⟨A, cap, by rw [he, rnd_len], by rw [rnd_len]; exact g3, Aged.of_below hb⟩

/-- what is read of a plan: the lengths of its images, and of its spaces' regions -/
structure PlanIn (w : World) (A : Option Addr) (n : Nat) (B : Option Addr) (m : Nat) : Prop where
  img : ∀ i, i < n → ∃ b o, A = some ⟨b, o, none⟩ ∧ b < w.heap.size ∧ ∃ (C : Option Addr) (l c : Nat), w.cell? ⟨b, o + i, none⟩ = some (.slice C l c)
  spc : ∀ i, i < m → ∃ b o, B = some ⟨b, o, none⟩ ∧ b < w.heap.size ∧ ∃ (C : Option Addr) (l c : Nat), w.cell? ⟨b, o + i * 3 + 1, none⟩ = some (.slice C l c)

theorem PlanIn.alloc {w : World} {A B : Option Addr} {n m : Nat} (h : PlanIn w A n B m) (o : Obj) : PlanIn (w.alloc o) A n B m :=
  ⟨fun i hi => by
    obtain ⟨b, of, h1, h2, C, l, c, h4⟩ := h.img i hi
    exact ⟨b, of, h1, by simp; omega, C, l, c, Lib.cell?_alloc_some _ h4⟩, fun i hi => by
    obtain ⟨b, of, h1, h2, C, l, c, h4⟩ := h.spc i hi
    exact ⟨b, of, h1, by simp; omega, C, l, c, Lib.cell?_alloc_some _ h4⟩⟩

def SomeBool (w : World) (e : Ending) (w' : World) : Prop := ∃ b : Bool, e = .returned (.bool b) ∧ Aged w w'

set_option maxHeartbeats 4000000 in
set_option maxRecDepth 100000 in
theorem great (p0 p1 p2 : Int) (A B : Option Addr) (n c m d : Nat) (w : World) (h : PlanIn w A n B m) :
    Calls Tryz.prog 4 #[.agg #[.int .i64 p0, .int .i64 p1, .int .i64 p2, .slice A n c, .slice B m d]] w (SomeBool w) := by
  have hw1 := h.alloc (.cells #[.int .i64 p0, .int .i64 p1, .int .i64 p2, .slice A n c, .slice B m d] 25)
  have hag : Aside (Aged w (w.alloc (.cells #[.int .i64 p0, .int .i64 p1, .int .i64 p2, .slice A n c, .slice B m d] 25))) := Aged.of_below ((Below.refl _ w).alloc (Nat.le_refl _) _)
  have hc3 : (w.alloc (.cells #[.int .i64 p0, .int .i64 p1, .int .i64 p2, .slice A n c, .slice B m d] 25)).cell? ⟨w.heap.size, 3, none⟩ = some (.slice A n c) := by simp
  have hc4 : (w.alloc (.cells #[.int .i64 p0, .int .i64 p1, .int .i64 p2, .slice A n c, .slice B m d] 25)).cell? ⟨w.heap.size, 4, none⟩ = some (.slice B m d) := by simp
  clear h
  go_enter Tryz.func4, Tryz.ntmps4
  go_wp2
  generalize w.alloc (.cells #[.int .i64 p0, .int .i64 p1, .int .i64 p2, .slice A n c, .slice B m d] 25) = W at *
  go_loopg [3, 4] n (fun gg s3 s4 wr => ∃ (i : Nat) (nn : Int), i ≤ n ∧ n - i ≤ gg ∧ s3 = .int .i64 nn ∧ s4 = .int .i64 i ∧ wr = W)
  case atStart => exact ⟨0, 0, by omega, by omega, rfl, rfl, rfl⟩
  case round =>
    obtain ⟨i, nn, hin, hg, rfl, rfl, rfl⟩ := hrel
    by_cases hlt : (i : Int) < n ∧ (i : Int) < 100 ∧ nn ≤ 1000
    · obtain ⟨hl1, hl2, hl3⟩ := hlt
      obtain ⟨b, o, rfl, hb, C, l, cc, hcl⟩ := hw1.img i (by omega)
      have hd1 : decide ((i : Int) < n) = true := by simpa using hl1
      have hd2 : decide ((i : Int) < 100) = true := by simpa using hl2
      have hd3 : decide (nn ≤ 1000) = true := by simpa using hl3
      clear hw1
      go_wp2
      go_roundg (n - (i + 1))
      case measure => omega
      case rel => exact ⟨i + 1, _, by omega, by omega, rfl, by go_num, rfl⟩
    · have hex : ¬ (i : Int) < n ∨ ((i : Int) < n ∧ ¬ (i : Int) < 100) ∨ ((i : Int) < n ∧ (i : Int) < 100 ∧ ¬ nn ≤ 1000) := by omega
      clear hlt
      rcases hex with h1 | ⟨h1, h2⟩ | ⟨h1, h2, h3⟩
      all_goals (
        go_wp2
        go_loopg [3, 5] m (fun gg s3 s5 wr' => ∃ (j : Nat) (nn : Int), j ≤ m ∧ m - j ≤ gg ∧ s3 = .int .i64 nn ∧ s5 = .int .i64 j ∧ wr' = wr)
        case atStart => exact ⟨0, nn, by omega, by omega, rfl, rfl, rfl⟩
        case round =>
          obtain ⟨j, nn2, hjm, hg2, rfl, rfl, rfl⟩ := hrel
          by_cases hlt2 : (j : Int) < m ∧ (j : Int) < 100 ∧ nn2 ≤ 1000
          · obtain ⟨hl1, hl2, hl3⟩ := hlt2
            obtain ⟨b, o, rfl, hb, C, l, cc, hcl⟩ := hw1.spc j (by omega)
            have hd1 : decide ((j : Int) < m) = true := by simpa using hl1
            have hd2 : decide ((j : Int) < 100) = true := by simpa using hl2
            have hd3 : decide (nn2 ≤ 1000) = true := by simpa using hl3
            clear hw1
            go_wp2
            go_roundg (m - (j + 1))
            case measure => omega
            case rel => exact ⟨j + 1, _, by omega, by omega, rfl, by go_num, rfl⟩
          · have hex2 : ¬ (j : Int) < m ∨ ((j : Int) < m ∧ ¬ (j : Int) < 100) ∨ ((j : Int) < m ∧ (j : Int) < 100 ∧ ¬ nn2 ≤ 1000) := by omega
            clear hlt2 hw1
            rcases hex2 with g1 | ⟨g1, g2⟩ | ⟨g1, g2, g3⟩
            all_goals (
              by_cases k1 : (50 : Int) < n
              · first | (exfalso; omega) | (go_wp2; go_ret; exact ⟨_, rfl, hag.out⟩)
              · by_cases k2 : (50 : Int) < m
                · first | (exfalso; omega) | (go_wp2; go_ret; exact ⟨_, rfl, hag.out⟩)
                · by_cases k3 : (1000 : Int) < nn2
                  · first | (exfalso; omega) | (go_wp2; go_ret; exact ⟨_, rfl, hag.out⟩)
                  · first | (exfalso; omega) | (go_wp2; go_ret; exact ⟨_, rfl, hag.out⟩)))
end Go.Proofs.Fr
