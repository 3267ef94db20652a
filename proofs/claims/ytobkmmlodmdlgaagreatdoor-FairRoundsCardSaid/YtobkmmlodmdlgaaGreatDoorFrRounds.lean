/- The code's 'Rounds': a range over the iterator within a counted loop makes the row of all rounds' choices, or the errors are answered. -/
import Derived.Test.YtobkmmlodmdlgaaGreatDoorFrIter
set_option linter.all false
namespace Go.Proofs.Fr
open Go.RowKit Go.Shelf Go.Lib Go.Proofs.Aged
attribute [local go_sem] Oper.semAt_some

theorem round (F : Fence) (n : Nat) (h15 : F.fn 17) (hro : F.round = none) (N : Int) (w : World) :
    CallsIn F n Tryz.prog 17 #[.int .i64 N] w fun e w' => e = .returned (.func (.func 24) #[] #[.pointer (some ⟨w.heap.size, 0, none⟩)]) ∧ w' = w.alloc (.cells #[.int .i64 N] 3) := by
  have hmf : ∀ (fn : Fn) (first cap : Array Value) (w : World), (Instr.makeFunc fn first cap).run Tryz.prog w = .ok (.func fn first cap) w := fun _ _ _ _ => rfl
  refine callsIn_of_wp Tryz.func17 rfl h15 ?_ hro
  simp only [Tryz.ntmps17, List.size_toArray, List.length_cons, List.length_nil, Nat.reduceAdd, Nat.reduceSub, Array.replicate_succ, Array.replicate_zero, List.push_toArray, List.append_toArray, List.nil_append, List.cons_append]
  gi_wp2
  go_ret
  exact ⟨rfl, rfl⟩

theorem iter_stops (F : Fence) (n : Nat) (h18 : F.fn 24) (hro : F.round = none) (hn : 1 ≤ n) (Bn N : Nat) (w : World)
    (hBn : w.heap[Bn]? = some (.cells #[.int .i64 N] 3)) (hN : N ≤ 8) :
    SeqStopsK F n Tryz.prog 24 #[.pointer (some ⟨Bn, 0, none⟩)] (fun x : Ch => #[Value.agg x.enc.toArray]) K65 (fun xs => xs = rnd N) (fun _ => True) (5 * N) w := fun l J Jx W hW hJ _ hY h0 =>
  iter_in F n h18 hro hn l Bn N J Jx hY W hJ ((hW.block Bn (Array.getElem?_eq_some_iff.1 hBn).1).trans hBn) hN h0

set_option maxHeartbeats 1000000 in
theorem rounds_bad (n t : Int) (w : World) (h : n < 1 ∨ 8 < n) :
    Calls Tryz.prog 8 #[.int .i64 n, .int .i64 t] w fun e w' => e = .returned (.tuple #[.slice none 0 0, .int .i64 2]) ∧ Aged w w' := by
  by_cases h1 : n < 1
  · clear h
    go_enter Tryz.func8, Tryz.ntmps8
    go_wp2
    go_ret2
    exact ⟨by simp, Aged.refl _⟩
  · have h2 : 8 < n := by omega
    clear h
    go_enter Tryz.func8, Tryz.ntmps8
    go_wp2
    go_ret2
    exact ⟨by simp, Aged.refl _⟩

set_option maxHeartbeats 1000000 in
theorem rounds_long (N : Nat) (t : Int) (w : World) (h1 : 1 ≤ N) (h2 : N ≤ 8) (ht : 1024 / (5 * (N : Int)) < t) :
    Calls Tryz.prog 8 #[.int .i64 N, .int .i64 t] w fun e w' => e = .returned (.tuple #[.slice none 0 0, .int .i64 3]) ∧ Aged w w' := by
  have h1' : ¬ (N : Int) < 1 := by omega
  have h2' : ¬ (8 : Int) < N := by omega
  go_enter Tryz.func8, Tryz.ntmps8
  go_wp2
  go_ret2
  exact ⟨by simp, Aged.refl _⟩

section loops
variable {F : Fence} {n : Nat} {P : Program} {Q : Exit → Act → World → Prop}

def LoopW (F : Fence) (n : Nat) (P : Program) (c : Code) (Q : Exit → Act → World → Prop) (a : Act) (w : World) : Prop :=
  ∀ (b : Frame) (k : List Item) (cs : List Frame), b.roundOf = F.round → F.fn b.fn → F.room (cs.length + 1 + n) →
    ∃ e a' w', Q e a' w' ∧ ArrivesIn (Machine.fenced P F) P (lone (b.atR a (.code c :: .inLoop c :: k)) cs w) b k cs e a' w'
theorem LoopW.loop {c : Code} {a : Act} {w : World} (h : LoopW F n P c Q a w) : (Code.loop c).wpIn F n P Q a w := by
  intro b k cs hro hb hr
  obtain ⟨e, a', w', hq, harr⟩ := h b k cs hro hb hr
  exact ⟨e, a', w', hq, .of_steps (.one (fenced_calm hb hr rfl) stepR_loop) harr⟩
theorem LoopW.round {c : Code} {a : Act} {w : World} (h : c.wpIn F n P (Exit.then (LoopW F n P c Q) Q) a w) : LoopW F n P c Q a w := by
  intro b k cs hro hb hr
  obtain ⟨e, a₁, w₁, hq, harr⟩ := h b (.inLoop c :: k) cs hro hb hr
  cases e with
  | normal =>
    obtain ⟨e₂, a₂, w₂, hq₂, harr₂⟩ := hq b k cs hro hb hr
    exact ⟨e₂, a₂, w₂, hq₂, .of_steps (StepsIn.trans harr (.one (fenced_calm hb hr rfl) stepR_inLoop)) harr₂⟩
  | exit id => exact ⟨_, a₁, w₁, hq, .pass (x := .inLoop c) rfl (fun _ _ => .inl (by simp)) harr⟩
  | goto l => exact ⟨_, a₁, w₁, hq, .pass (x := .inLoop c) rfl (fun _ _ => .inl (by simp)) harr⟩
  | ret => exact ⟨_, a₁, w₁, hq, .pass (x := .inLoop c) rfl (fun _ _ => .inl (by simp)) harr⟩
  | panic ch => exact ⟨_, a₁, w₁, hq, .pass (x := .inLoop c) rfl (fun _ _ => .inl (by simp)) harr⟩
  | outgrown => exact ⟨_, a₁, w₁, hq, .pass (x := .inLoop c) rfl (fun _ _ => .inl (by simp)) harr⟩

/-- a loop whose rounds count down -/
theorem wpIn_loop_count {c : Code} {Inv : Nat → Act → World → Prop} (step : ∀ m a w, Inv m a w → ∀ K : Act → World → Prop, (∀ m' a' w', m' < m → Inv m' a' w' → K a' w') → c.wpIn F n P (Exit.then K Q) a w) :
    ∀ (m : Nat) (a : Act) (w : World), Inv m a w → (Code.loop c).wpIn F n P Q a w := fun m a w h => LoopW.loop <| by
  induction m using Nat.strongRecOn generalizing a w with
  | ind m ih => exact LoopW.round (step m a w h _ fun m' a' w' hm hi => ih m' hm a' w' hi)
end loops

theorem encC_one' (x : Ch) : ∀ u ∈ x.enc, u.oneCell' = true := by
  intro u hu
  simp [Ch.enc] at hu
  rcases hu with rfl | rfl | rfl | rfl <;> rfl

/-- the marks of loops over functions: each block hands over nothing -/
structure Marks (B : Nat) (Ds : List Nat) (W : World) : Prop where
  low : ∀ D ∈ Ds, B ≤ D
  nodup : Ds.Nodup
  at_ : ∀ D ∈ Ds, W.heap[D]? = some (.deferred (some []))
def marks (Ds : List Nat) : List Deferred := Ds.map fun D => { target := .collected D, args := #[] }

theorem leaves_marks {F : Fence} {n : Nat} {fn : Func} {tmps : Array Value} {R : Ending → World → Prop} {v : Value} {B : Nat} (Φ : World → Prop)
    (hres : ∀ W, (results fn tmps).run Tryz.prog W = .ok v W) (hput : ∀ W D, B ≤ D → W.heap[D]? = some (.deferred (some [])) → Φ W → Φ (W.putObj D (.deferred none)))
    (hR : ∀ W, Φ W → R (.returned v) W) : ∀ (Ds : List Nat) (W : World), Marks B Ds W → Φ W → LeavesInM F n Tryz.prog fn tmps R (marks Ds) .returning W
  | [], W, _, hP => ⟨v, hres W, hR W hP⟩
  | D :: Ds, W, hM, hP => by
    refine ⟨by simp, .inl ⟨D, _, rfl, run_takeDeferred (hM.at_ D (by simp)), ?_⟩⟩
    have hd := List.nodup_cons.1 hM.nodup
    refine leaves_marks Φ hres hput hR Ds _ ⟨fun E hE => hM.low E (by simp [hE]), hd.2, fun E hE => ?_⟩ (hput W D (hM.low D (by simp)) (hM.at_ D (by simp)) hP)
    have hne : E ≠ D := fun h => hd.1 (h ▸ hE)
    exact (World.putObj_heap_other hne).trans (hM.at_ E (by simp [hE]))

theorem K65.alloc (W : World) (o : Obj) : K65 W (W.alloc o) := fun b c e fz he h => by
  rw [Below.heap_alloc _ _ _ (Array.getElem?_eq_some_iff.1 h).1]; exact h
theorem K65.grown {W W' : World} {row : Option Nat} (hg : W.grownBy W' row) (hr : ∀ g, row = some g → ∃ c t fz, W.heap[g]? = some (.cells c t fz) ∧ t ≠ 82 ∧ t ≠ 3) : K65 W W' := fun b c e fz he h => by
  refine (hg.block b (Array.getElem?_eq_some_iff.1 h).1 fun e => ?_).trans h
  obtain ⟨c', t, fz', h1, h2, h3⟩ := hr b e.symm
  rw [h] at h1; simp at h1
  rcases he with he | he
  · exact h2 (h1.2.1.symm.trans he)
  · exact h3 (h1.2.1.symm.trans he)
theorem K65.setCell {W : World} {B : Nat} {t : TypeId} {u : Value} (h : Boxed W B t u) (ht : t ≠ 82 ∧ t ≠ 3) (v : Value) : K65 W (W.setCell ⟨B, 0, none⟩ v) := fun b c e fz he hb => by
  have hne : b ≠ B := fun e => by
    subst e
    rw [show W.heap[b]? = _ from h] at hb; simp at hb
    rcases he with he | he
    · exact ht.1 (hb.2.1.trans he)
    · exact ht.2 (hb.2.1.trans he)
  have := (grownBy_setCell' W B v).block b (Array.getElem?_eq_some_iff.1 hb).1 (fun e => hne (by cases e; rfl))
  exact this.trans hb
theorem K65.putObj {W : World} {l : Nat} {o o' : Obj} (h : W.heap[l]? = some o) (ho : o.isCells = false) : K65 W (W.putObj l o') := fun b c e fz _ hb => by
  have hne : b ≠ l := fun e => by
    subst e; rw [hb] at h; cases h; cases ho
  exact (World.putObj_heap_other hne).trans hb
theorem ownsRow_elem {W : World} {base e size k : Nat} {v : Value} {xs : List Value} (h : W.ownsRow base e size v k xs) (g : Nat) (hg : v.ownBlock = some g) : ∃ c fz, W.heap[g]? = some (.cells c e fz) := by
  rcases h.2 with ⟨rfl, _⟩ | ⟨g', cap, cur, rfl, _, hgb, _⟩
  · simp [Value.ownBlock] at hg
  · obtain rfl : g' = g := by simpa [Value.ownBlock] using hg
    exact ⟨_, _, hgb⟩

set_option maxRecDepth 100000 in
set_option maxHeartbeats 4000000 in
theorem rounds_in (F : Fence) (n : Nat) (h8 : F.fn 8) (h15 : F.fn 17) (h18 : F.fn 24) (hro : F.round = none) (hdp : F.depth = none) (hn : 6 ≤ n) (N : Nat) (t : Int) (w : World) (h1 : 1 ≤ N) (h2 : N ≤ 8) (ht : t ≤ 1024 / (5 * (N : Int))) :
    CallsIn F n Tryz.prog 8 #[.int .i64 N, .int .i64 t] w (Given w (rnds N t.toNat)) := by
  obtain ⟨i0, hi, hz0, hz1, hz2⟩ := info_parts info59
  have h1' : ¬ (N : Int) < 1 := by omega
  have h2' : ¬ (8 : Int) < N := by omega
  have ht' : ¬ 1024 / (5 * (N : Int)) < t := by omega
  have FT := fun k => fits (k := k) h1 ht
  clear ht
  refine callsIn_of_wp_marks Tryz.func8 rfl h8 ?_ hro
  simp only [Tryz.ntmps8, List.size_toArray, List.length_cons, List.length_nil, Nat.reduceAdd, Nat.reduceSub, Array.replicate_succ, Array.replicate_zero, List.push_toArray, List.append_toArray, List.nil_append, List.cons_append]
  gi_wp2
  refine wpIn_loop_count (Inv := fun m a' W => ∃ (k : Nat) (Ds : List Nat) (u22 u23 u24 u25 u26 u27 u28 u29 u30 u31 : Value) (v : Value), (k : Int) ≤ max t 0 ∧ m = t.toNat - k ∧ a' = { tmps := #[.int .i64 N, .int .i64 t, undef, undef, .slice none 0 0, .int .i64 0, .pointer (some ⟨w.heap.size, 0, none⟩), undef, .int .i64 N, .bool false, .bool false, .int .i64 N, .bool false, .bool false, .int .i64 t, .int .i64 N, .int .i64 (5 * N), .int .i64 (1024 / (5 * N)), .bool false, .int .i64 t, .int .i64 (max t 0), .int .i64 k, u22, u23, u24, u25, u26, u27, u28, u29, u30, u31], defers := marks Ds } ∧
    Boxed W w.heap.size 44 v ∧ W.ownsRow w.heap.size 60 4 v (5 * N * k) (encC (rnds N k)) ∧ Below w.heap.size w W ∧ Marks w.heap.size Ds W) ?step (t.toNat) _ _ ?start
  case start =>
    exact ⟨0, [], undef, undef, undef, undef, undef, undef, undef, undef, undef, undef, .slice none 0 0, by omega, by omega, rfl, Boxed.new w 44 (.slice none 0 0), World.ownsRow_nil _ _ _ _, (Below.refl _ w).alloc (Nat.le_refl _) _, ⟨(fun _ h => by cases h), List.nodup_nil, (fun _ h => by cases h)⟩⟩
  case step =>
    rintro m a' W ⟨k, Ds, u22, u23, u24, u25, u26, u27, u28, u29, u30, u31, v, hk, rfl, rfl, hv, hrow, hB, hM⟩ K hK
    by_cases hlt : (k : Int) < t
    · have hltz : (k : Int) < max t 0 := by omega
      have hr := round F (n - 1) h15 hro N W
      have hfit := FT k hlt
      gi_wp2_with (gi_at_call 17; refine hr.mono ?_; rintro e w' ⟨rfl, rfl⟩)
      have hbox : (W.alloc (.cells #[.int .i64 N] 3)).heap[W.heap.size]? = some (.cells #[.int .i64 N] 3) := World.alloc_heap_new W _
      have hv1 := hv.alloc (.cells #[.int .i64 N] 3)
      have hrow1 := hrow.alloc (.cells #[.int .i64 N] 3)
      have hB1 := hB.alloc hB.size (.cells #[.int .i64 N] 3)
      have hM1 : Marks w.heap.size Ds (W.alloc (.cells #[.int .i64 N] 3)) := ⟨hM.low, hM.nodup, fun D hD => by rw [Below.heap_alloc _ _ _ (Array.getElem?_eq_some_iff.1 (hM.at_ D hD)).1]; exact hM.at_ D hD⟩
      have hwlt : w.heap.size < W.heap.size := hv.lt
      obtain ⟨W1, hW1⟩ : ∃ W1, W.alloc (.cells #[.int .i64 N] 3) = W1 := ⟨_, rfl⟩
      have hsz : W.heap.size ≤ W1.heap.size := by rw [← hW1]; simp
      rw [hW1] at hbox hv1 hrow1 hB1 hM1 ⊢
      clear hW1 hr hv hrow hB hM
      refine wpIn_rangeFunc_ownH hro (by omega) (gf := 24) (lb := #[.pointer (some ⟨W.heap.size, 0, none⟩)]) rfl h18 (enters_of Tryz.func24 (by kernel_rfl) rfl) (iter_stops F (n - 1) h18 hro (by omega) W.heap.size N W1 hbox h2) K65.trans (fun W l o o' _ hl ho _ => K65.putObj hl ho) (Below.refl _ W1) (fun _ => rfl)
        (fun pre X => (∃ v, Boxed X w.heap.size 44 v ∧ X.ownsRow w.heap.size 60 4 v (5 * N * k + pre.length) (encC (rnds N k ++ pre)) ∧ True) ∧ Below w.heap.size w X ∧ Marks w.heap.size Ds X)
        (fun _ _ _ => False)
        ?own
        (fun _ _ _ _ _ hs _ _ => hs)
        ⟨⟨_, hv1, by simpa using hrow1, trivial⟩, hB1, hM1⟩
        (fun x a' X => ∃ Bx, w.heap.size < Bx ∧ X.heap[Bx]? = some (.cells x.enc.toArray 60 (0, 0)) ∧ ∃ u25 u26 u27 u28 u29 u30 u31, a' = { tmps := #[.int .i64 N, .int .i64 t, undef, undef, .slice none 0 0, .int .i64 0, .pointer (some ⟨w.heap.size, 0, none⟩), .pointer (some ⟨Bx, 0, none⟩), .int .i64 N, .bool false, .bool false, .int .i64 N, .bool false, .bool false, .int .i64 t, .int .i64 N, .int .i64 (5 * N), .int .i64 (1024 / (5 * N)), .bool false, .int .i64 t, .int .i64 (max t 0), .int .i64 k, .bool true, .int .i64 N, .func (.func 24) #[] #[.pointer (some ⟨W.heap.size, 0, none⟩)], u25, u26, u27, u28, u29, u30, u31], defers := [] })
        (fun x a' _ X Y row hs hg hr => by
          obtain ⟨Bx, h1, h2, h3⟩ := hs
          refine ⟨Bx, h1, (hg.block Bx (Array.getElem?_eq_some_iff.1 h2).1 (fun e => ?_)).trans h2, h3⟩
          obtain ⟨_, o, ho, hc⟩ := hr Bx e.symm
          rw [h2] at ho; cases ho; cases hc)
        ?assign ?body ?done ?stop
      case own =>
        refine OwnFrom.and (Own.from (holdsRow_own w.heap.size w.heap.size 44 60 4 (fun pre => 5 * N * k + pre.length) (fun pre => encC (rnds N k ++ pre)) (fun _ _ => True)) _) (OwnFrom.and (ownFrom_below (Nat.le_refl _) (by omega)) ?_)
        intro s X Y row hs hg hr
        refine ⟨hs.low, hs.nodup, fun D hD => (hg.block D (Array.getElem?_eq_some_iff.1 (hs.at_ D hD)).1 fun e => ?_).trans (hs.at_ D hD)⟩
        have h1 := (hr D e.symm).1
        have h2 := (Array.getElem?_eq_some_iff.1 (hM1.at_ D hD)).1
        omega
      case assign =>
        rintro l pre x X K3 ⟨⟨v3, hv3, hrow3, _⟩, hB3, hM3⟩ hK3
        obtain ⟨xk, xc⟩ := x
        have hK' := fun (Y : World) a b c d e => hK3 _ Y a b c ⟨X.heap.size, d, e, .agg #[.int .i8 xk, .int .i64 xc, .int .i64 0, .int .u64 0], u26, u27, u28, u29, u30, u31, rfl⟩
        clear hK3 hK FT hfit
        dsimp only [Ch.enc] at hK' ⊢
        gi_wp2
        exact hK' _ ((KeepsOthers.alloc _ _).from _) (K65.alloc _ _) ⟨⟨v3, hv3.alloc _, hrow3.alloc _, trivial⟩, hB3.alloc hB3.size _, ⟨hM3.low, hM3.nodup, fun D hD => by rw [Below.heap_alloc _ _ _ (Array.getElem?_eq_some_iff.1 (hM3.at_ D hD)).1]; exact hM3.at_ D hD⟩⟩ hv3.lt (World.alloc_heap_new X _)
      case body =>
        rintro l pre x a' X hl ⟨r, hr⟩ ⟨⟨v3, hv3, hrow3, _⟩, hB3, hM3⟩ ⟨Bx, hBx, hx, y25, y26, y27, y28, y29, y30, y31, rfl⟩ hlen
        have hc := hv3.cell
        obtain ⟨xk, xc⟩ := x
        have cx0 : X.cell? ⟨Bx, 0, none⟩ = some (.int .i8 xk) := by simp [World.cell?, hx, Ch.enc]
        have cx1 : X.cell? ⟨Bx, 1, none⟩ = some (.int .i64 xc) := by simp [World.cell?, hx, Ch.enc]
        have cx2 : X.cell? ⟨Bx, 2, none⟩ = some (.int .i64 0) := by simp [World.cell?, hx, Ch.enc]
        have cx3 : X.cell? ⟨Bx, 3, none⟩ = some (.int .u64 0) := by simp [World.cell?, hx, Ch.enc]
        have hb1 : 5 * N * k + pre.length + 1 ≤ 1024 := by omega
        have hsX := hB3.size
        clear hK FT hfit hlen
        have E1 : Aside (∀ x, encC (rnds N k ++ (pre ++ [x])) = encC (rnds N k ++ pre) ++ x.enc) := fun x => by rw [← List.append_assoc, encC_snoc]
        have E2 : Aside (∀ x : Ch, 5 * N * k + (pre ++ [x]).length = 5 * N * k + pre.length + 1) := fun x => by simp; omega
        generalize 5 * N * k + pre.length = M at *
        generalize encC (rnds N k ++ pre) = es at *
        gi_wp2_with (gi_at_builtin; refine wpListIn_append_own _ rfl _ _ 44 rfl w.heap.size 60 i0 _ 4 32 Tryz.underlying44 hi hz0 hz1 hz2 rfl (by decide) v3 M es rfl (hrow3.alloc (.cells #[.int .i8 xk, .int .i64 xc, .int .i64 0, .int .u64 0] 60)) ⟨X.heap.size, 0, none⟩ 1 1 (Ch.enc ⟨xk, xc⟩) rfl rfl (cells_new X (Ch.enc ⟨xk, xc⟩) 60) (encC_one' _) (by unfold maxLen; omega) (by omega) (by simp; omega) ?_; intro v' w1 hown' hgrow _; obtain ⟨g', cap', rfl⟩ := ownsRow_succ hown'; obtain ⟨hv1', hv2', hr2, hk2, hb2⟩ := hv3.appended (by decide) hrow3 hB3.size (Nat.le_refl _) hown' hgrow; have hc1 := hv1'.cell; have hf1 := hv1'.frozen)
        refine ⟨hk2.from _, (K65.alloc X _).trans ((K65.grown hgrow fun g hg => ?_).trans (K65.setCell hv1' (by decide) _)), ⟨⟨_, hv2', ?_, trivial⟩, hB3.trans hb2, ⟨hM3.low, hM3.nodup, fun D hD => hk2.same D _ (hM3.at_ D hD) rfl⟩⟩⟩
        · obtain ⟨c, fz, hcz⟩ := ownsRow_elem (hrow3.alloc (.cells #[.int .i8 xk, .int .i64 xc, .int .i64 0, .int .u64 0] 60)) g hg
          exact ⟨c, 60, fz, hcz, by decide, by decide⟩
        · rw [E1.out, E2.out]; exact hr2
      case done =>
        rintro D xs X hD rfl ⟨⟨v2, hv2, hrow2, _⟩, hB2, hM2⟩ hDk
        rename_i K1 g1 K2 g2 tr
        clear tr
        have hD2 : w.heap.size ≤ D := by omega
        have hnot : D ∉ Ds := fun h => by
          have := (Array.getElem?_eq_some_iff.1 (hM1.at_ D h)).1
          omega
        have hk5 : (k : Int) ≤ 1024 := by
          have : 1 * k ≤ 5 * N * k := Nat.mul_le_mul_right k (by omega)
          omega
        simp only [Exit.inBlock, Exit.then]
        refine g2 _ _ ?_
        clear g2 FT hfit
        gi_wp2
        refine hK (t.toNat - (k + 1)) _ _ (by omega) ⟨k + 1, D :: Ds, .bool true, .int .i64 N, .func (.func 24) #[] #[.pointer (some ⟨W.heap.size, 0, none⟩)], u25, u26, u27, u28, u29, .int .i64 ((k : Int) + 1), u31, v2, by omega, rfl, by simp [marks], hv2, ?_, hB2, ⟨?_, ?_, ?_⟩⟩
        · rw [Nat.mul_succ, rnds]
          rw [rnd_len] at hrow2; exact hrow2
        · intro E hE
          rcases List.mem_cons.1 hE with rfl | h
          · exact hD2
          · exact hM2.low E h
        · exact List.nodup_cons.2 ⟨hnot, hM2.nodup⟩
        · intro E hE
          rcases List.mem_cons.1 hE with rfl | h
          · exact hDk
          · exact hM2.at_ E h
      case stop =>
        rintro D c pre X _ _ h _
        exact h.elim
    · have hltz : ¬ (k : Int) < max t 0 := by omega
      obtain rfl : k = t.toNat := by omega
      have hc := hv.cell
      clear hK FT
      have hlen : Aside (5 * N * t.toNat ≤ 1000000) := by
        show _ ≤ _
        rcases Nat.eq_zero_or_pos t.toNat with h0 | h0
        · rw [h0]; simp
        · have := fits (k := t.toNat - 1) (t := t) h1 (by omega) (by omega)
          rw [show t.toNat = (t.toNat - 1) + 1 by omega, Nat.mul_succ]; omega
      gi_wp2
      refine leaves_marks (v := .tuple #[v, .int .i64 0]) (fun X => X.ownsRow w.heap.size 60 4 v (5 * N * t.toNat) (encC (rnds N t.toNat)) ∧ Below w.heap.size w X)
        (fun X => by simp [results, Tryz.results8, go_sem])
        (fun X D hD hX hP => ⟨ownsRow_putObj hP.1 _ hX rfl, hP.2.trans (belowK_b (w := w) (Nat.le_refl _) X D _ _ hD hX rfl rfl)⟩)
        (fun X hP => ?_) Ds W hM ⟨hrow, hB⟩
      obtain ⟨A2, cap2, rfl, r1, r2, r3, r4⟩ := frow_of_owns hP.1 (rnds_len N t.toNat).symm (by rw [rnds_len]; exact hlen.out)
      exact ⟨A2, cap2, by simp [rnds_len], by rw [rnds_len]; exact r3, Aged.of_below hP.2⟩

theorem rounds_good (N : Nat) (t : Int) (w : World) (h1 : 1 ≤ N) (h2 : N ≤ 8) (ht : t ≤ 1024 / (5 * (N : Int))) :
    Calls Tryz.prog 8 #[.int .i64 N, .int .i64 t] w (Given w (rnds N t.toNat)) :=
  (callsIn_wide (n := 6)).1 (rounds_in Fence.wide 6 trivial trivial trivial rfl rfl (by omega) N t w h1 h2 ht)
end Go.Proofs.Fr
