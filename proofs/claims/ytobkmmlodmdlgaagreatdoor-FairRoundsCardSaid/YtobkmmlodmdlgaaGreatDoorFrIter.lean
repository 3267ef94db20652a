/- The iterator over a round of n cores: it yields the round's choices in order. -/
import Derived.Test.YtobkmmlodmdlgaaGreatDoorFrRef
import Derived.RangeFuncNested
import Derived.RangeFuncBound
import Derived.RangeFuncCalls
import Derived.RangeFuncLeaves
import Derived.Shelf.Abstract
import Derived.Shelf.RegionOpen
import Derived.OwnWalkIn
import Derived.TacticsInMore
import Derived.LoopNIn
import Derived.LoopIn
import Derived.Carry
import Derived.Maps.AppendAt
set_option linter.all false
namespace Go.Proofs.Fr
open Go.RowKit Go.Shelf Go.Lib Go.Proofs.Aged
attribute [local go_sem] Oper.semAt_some

/-- rows of five small integers, and boxes of integers, are as they were -/
def K65 (A B : World) : Prop := ∀ (b : Nat) (c : Array Value) (e : TypeId) (fz : Nat × Nat), (e = 82 ∨ e = 3) → A.heap[b]? = some (Obj.cells c e fz) → B.heap[b]? = some (Obj.cells c e fz)
theorem K65.refl (A : World) : K65 A A := fun _ _ _ _ _ h => h
theorem K65.trans {A B C : World} (h : K65 A B) (k : K65 B C) : K65 A C := fun b c e fz he hb => k b c e fz he (h b c e fz he hb)

theorem ix0 (w : World) : (Instr.index 82 (.agg #[.int .i8 8, .int .i8 2, .int .i8 7, .int .i8 3, .int .i8 0]) (.int .i64 0)).run Tryz.prog w = .ok (.int .i8 8) w := by
  simp [Instr.index, asIntOf, run_underlying Tryz.underlying82, Tryz.sizeOf26, Tryz.isAgg26, Go.part]
theorem ix1 (w : World) : (Instr.index 82 (.agg #[.int .i8 8, .int .i8 2, .int .i8 7, .int .i8 3, .int .i8 0]) (.int .i64 1)).run Tryz.prog w = .ok (.int .i8 2) w := by
  simp [Instr.index, asIntOf, run_underlying Tryz.underlying82, Tryz.sizeOf26, Tryz.isAgg26, Go.part]
theorem ix2 (w : World) : (Instr.index 82 (.agg #[.int .i8 8, .int .i8 2, .int .i8 7, .int .i8 3, .int .i8 0]) (.int .i64 2)).run Tryz.prog w = .ok (.int .i8 7) w := by
  simp [Instr.index, asIntOf, run_underlying Tryz.underlying82, Tryz.sizeOf26, Tryz.isAgg26, Go.part]
theorem ix3 (w : World) : (Instr.index 82 (.agg #[.int .i8 8, .int .i8 2, .int .i8 7, .int .i8 3, .int .i8 0]) (.int .i64 3)).run Tryz.prog w = .ok (.int .i8 3) w := by
  simp [Instr.index, asIntOf, run_underlying Tryz.underlying82, Tryz.sizeOf26, Tryz.isAgg26, Go.part]
theorem ix4 (w : World) : (Instr.index 82 (.agg #[.int .i8 8, .int .i8 2, .int .i8 7, .int .i8 3, .int .i8 0]) (.int .i64 4)).run Tryz.prog w = .ok (.int .i8 0) w := by
  simp [Instr.index, asIntOf, run_underlying Tryz.underlying82, Tryz.sizeOf26, Tryz.isAgg26, Go.part]
theorem part_take {c j : Nat} {x : Int} (h : kindsR[j]? = some x) : rnd c ++ (part ((c : Int) + 1)).take (j + 1) = rnd c ++ (part ((c : Int) + 1)).take j ++ [⟨x, (c : Int) + 1⟩] := by
  have h2 : (part ((c : Int) + 1))[j]? = some ⟨x, (c : Int) + 1⟩ := by simp [part, h]
  rw [List.append_assoc, List.take_add_one, h2]; rfl

set_option maxRecDepth 100000 in
set_option maxHeartbeats 4000000 in
theorem iter_in (F : Fence) (n : Nat) (h18 : F.fn 24) (hro : F.round = none) (hn : 1 ≤ n) (l Bn N : Nat) (J Jx : List Ch → World → Prop)
    (hY : ∀ pre x W, J pre W → pre.length < 5 * N → YieldAt F (n - 1) Tryz.prog l #[.agg x.enc.toArray] W fun e W' => (e = .returned (.bool true) ∧ J (pre ++ [x]) W' ∧ K65 W W') ∨ (e = .returned (.bool false) ∧ Jx (pre ++ [x]) W'))
    (W : World) (hJ : AbidesFrom W.heap.size J) (hBn : W.heap[Bn]? = some (.cells #[.int .i64 N] 3)) (hN : N ≤ 8) (h0 : J [] W) :
    CallsIn F n Tryz.prog 24 #[.func (.yield l) #[] #[], .pointer (some ⟨Bn, 0, none⟩)] W fun e W' => (∃ v, e = .returned v) ∧ ((∃ ys, ys = rnd N ∧ J ys W') ∨ (∃ pre, True ∧ Jx pre W')) := by
  refine callsIn_of_wp Tryz.func24 rfl h18 ?_ hro
  simp only [Tryz.ntmps24, List.size_toArray, List.length_cons, List.length_nil, Nat.reduceAdd, Nat.reduceSub, Array.replicate_succ, Array.replicate_zero, List.push_toArray, List.append_toArray, List.nil_append, List.cons_append]
  have hJ1 : ∀ o, J [] (W.alloc o) := fun o => hJ _ _ _ none h0 (World.grownBy_alloc _ _ none) (fun r e => by cases e)
  have hB1 : ∀ o, (W.alloc o).heap[Bn]? = some (.cells #[.int .i64 N] 3) := fun o => by rw [Below.heap_alloc _ _ _ (Array.getElem?_eq_some_iff.1 hBn).1]; exact hBn
  have hK1 : ∀ o : Obj, (W.alloc o).heap[W.heap.size]? = some o := fun o => World.alloc_heap_new W o
  gi_wp2
  gi_loopw [4] (fun i wr => ∃ c : Nat, c ≤ N ∧ i = .int .i64 (c + 1) ∧ Aside (J (rnd c) wr) ∧ Aside (wr.heap[Bn]? = some (.cells #[.int .i64 N] 3)) ∧ Aside (wr.heap[W.heap.size]? = some (.cells #[.int .i8 8, .int .i8 2, .int .i8 7, .int .i8 3, .int .i8 0] 82))) (fun i _ => N + 1 - (RowKit.intOf i).toNat)
  case atStart => exact ⟨0, Nat.zero_le _, rfl, hJ1 _, hB1 _, hK1 _⟩
  case round =>
    obtain ⟨c, hc, rfl, hJc, hB, hK⟩ := hrel
    have hBn' : wr.cell? ⟨Bn, 0, none⟩ = some (.int .i64 N) := by simp [World.cell?, hB.out]
    clear hJ1 hB1 hK1 hBn
    by_cases hlt : c < N
    · have hltz : (c : Int) + 1 ≤ N := by omega
      have k0 : wr.cell? ⟨W.heap.size, 0, none⟩ = some (.int .i8 8) := by simp [World.cell?, hK.out]
      have k1 : wr.cell? ⟨W.heap.size, 1, none⟩ = some (.int .i8 2) := by simp [World.cell?, hK.out]
      have k2 : wr.cell? ⟨W.heap.size, 2, none⟩ = some (.int .i8 7) := by simp [World.cell?, hK.out]
      have k3 : wr.cell? ⟨W.heap.size, 3, none⟩ = some (.int .i8 3) := by simp [World.cell?, hK.out]
      have k4 : wr.cell? ⟨W.heap.size, 4, none⟩ = some (.int .i8 0) := by simp [World.cell?, hK.out]
      gi_wp2
      clear k0 k1 k2 k3 k4
      gi_loopw [14] (fun i wr => ∃ j : Nat, j ≤ 5 ∧ i = .int .i64 j ∧ Aside (J (rnd c ++ (part ((c : Int) + 1)).take j) wr) ∧ Aside (wr.heap[Bn]? = some (.cells #[.int .i64 N] 3)) ∧ Aside (wr.heap[W.heap.size]? = some (.cells #[.int .i8 8, .int .i8 2, .int .i8 7, .int .i8 3, .int .i8 0] 82))) (fun i _ => 6 - (RowKit.intOf i).toNat)
      case atStart => exact ⟨0, by omega, rfl, (show Aside _ from by show J _ _; simpa using hJc.out), hB, hK⟩
      case round =>
        obtain ⟨j, hj, rfl, hJj, hBj, hKj⟩ := hrel
        by_cases hj5 : j < 5
        · have hlen : Aside ((rnd c ++ (part ((c : Int) + 1)).take j).length < 5 * N) := by
            show _ < _
            rw [List.length_append, rnd_len, List.length_take]; simp [part, kindsR]; omega
          have arm : ∀ x : Int, kindsR[j]? = some x → YieldAt F (n - 1) Tryz.prog l #[.agg #[.int .i8 x, .int .i64 ((c : Int) + 1), .int .i64 0, .int .u64 0]] wr fun e W' => (e = .returned (.bool true) ∧ Aside (J (rnd c ++ (part ((c : Int) + 1)).take (j + 1)) W' ∧ K65 wr W')) ∨ (e = .returned (.bool false) ∧ Aside (∃ pre, Jx pre W')) := fun x hx => by
            obtain ⟨fn, tmps, assign, body, hy, hR⟩ := hY _ ⟨x, (c : Int) + 1⟩ wr hJj.out hlen.out
            refine ⟨fn, tmps, assign, body, hy, hR.mono fun e W' h => ?_⟩
            rcases h with ⟨h1, h2, h3⟩ | ⟨h1, h2⟩
            · exact .inl ⟨h1, (show _ ∧ _ from ⟨by rw [part_take hx]; exact h2, h3⟩)⟩
            · exact .inr ⟨h1, (show ∃ _, _ from ⟨_, h2⟩)⟩
          clear hlen hJj hY hJ h0
          have hj' : j = 0 ∨ j = 1 ∨ j = 2 ∨ j = 3 ∨ j = 4 := by omega
          rcases hj' with rfl | rfl | rfl | rfl | rfl
          all_goals (
            obtain ⟨fn, tmps, assign, body, hy, hR⟩ := arm _ rfl
            clear arm
            have i0 := ix0
            have i1 := ix1
            have i2 := ix2
            have i3 := ix3
            have i4 := ix4
            gi_wp2
            refine hR.mono ?_
            rintro e W3 (⟨rfl, hJ3⟩ | ⟨rfl, hJx3⟩)
            · gi_wp2
              go_roundw
              case rel => exact ⟨_, by omega, by go_num, hJ3.out.1, hJ3.out.2 _ _ _ _ (.inr rfl) hBj.out, hJ3.out.2 _ _ _ _ (.inl rfl) hKj.out⟩
              case measure => simp [RowKit.intOf]
            · gi_wp2
              refine bodyPost_ret (results_none rfl _ _ _) rfl ?_
              obtain ⟨pre, hp⟩ := hJx3.out
              exact ⟨⟨_, rfl⟩, .inr ⟨pre, trivial, hp⟩⟩)
        · obtain rfl : j = 5 := by omega
          have hJe : Aside (J (rnd (c + 1)) wr) := by
            show J _ _
            have := hJj.out
            rw [List.take_of_length_le (by simp [part, kindsR])] at this
            simpa [rnd] using this
          clear hJj hY hJ h0
          gi_wp2
          go_roundw
          case rel => exact ⟨c + 1, by omega, by go_num, hJe, hBj, hKj⟩
          case measure => simp [RowKit.intOf]; omega
    · have hltz : ¬ (c : Int) + 1 ≤ N := by omega
      obtain rfl : c = N := by omega
      gi_wp2
      go_end0
      exact ⟨⟨_, rfl⟩, .inl hJc.out⟩
end Go.Proofs.Fr
