/- 'tenementlaw30.FairRounds' returns true, whatever its input is: rounds, duties and the bound of the code and of the document are alike (walks through every loop and the iterator), and the closed run of its guard answers true (one computation by the kernel, under every order of evaluation and every append capacity). -/
import Derived.Test.YtobkmmlodmdlgaaGreatDoorCards
import Derived.Test.YtobkmmlodmdlgaaGreatDoorTie
import Derived.WalkKit
import Derived.ProofKit
import Derived.OpenShut
import Derived.Lib.SmallJoins
import Derived.Deep.DeepHandedRow
import Derived.Lib.LaidTab
import Derived.Test.YtobkmmlodmdlgaaGreatDoorFrOut
import Derived.Test.YtobkmmlodmdlgaaGreatDoorFrOpen
import Derived.Test.YtobkmmlodmdlgaaGreatDoorAged
import Derived.Test.YtobkmmlodmdlgaaGreatDoorFrTab
import Derived.Test.YtobkmmlodmdlgaaGreatDoorFrFacts
import Derived.Test.YtobkmmlodmdlgaaGreatDoorTameUse
set_option linter.all false
namespace Go.Proofs.YtobkmmlodmdlgaaGreatDoor.FairRounds
open Go.ChangeShapes Go.WideShapes Go.ChangeAt Go.RowKit Go.Tame Go.Proofs.Aged Go.Proofs.Fr

theorem own : ownKnob Tryz.prog.godebug = none := by kernel_rfl
theorem mix : Tryz.prog.follows .mixedOrders = true := by kernel_rfl
theorem glSmall : small Frt.glL = true := by kernel_rfl
theorem glOk : eachB (globOk Tryz.prog Rows.fairRoundsRow.laid) Frt.glL = true := by kernel_rfl
theorem globs {W : World} (h : laidMetH Tryz.prog Rows.fairRoundsRow.laid W) : Globs Frt.tab W :=
  globs_of_laid (glL := Frt.glL) rfl glSmall glOk h

/-- THE RUN: one computation of the kernel's. -/
theorem run : isTrue ((ev Frt.tab 1000000).call 5 [] .nil 0) = true := by kernel_rfl
theorem globs_aged {w w' : World} (h : Globs Frt.tab w) (ha : Aged w w') : Globs Frt.tab w' := fun g cs hg => by
  obtain ⟨c, e, fz, h1, h2⟩ := h g cs hg
  exact ⟨c, e, fz, by rw [ha.block g (Array.getElem?_eq_some_iff.1 h1).1]; exact h1, h2⟩
theorem wakes {W : World} (h : Globs Frt.tab W) : Calls Tryz.prog 5 #[] W fun e w' => e = .returned (.bool true) ∧ Aged W w' :=
  (calls_true (cargs := []) Frt.facts.ok (Frt.facts.over Frt.overOk) mix Frt.facts.planned run (VRels.nil _) h).mono fun _ _ h => ⟨h.1, Aged.of_grown h.2⟩
theorem readableP : Tryz.prog.readableRec 25 = true := by kernel_rfl
theorem inRangeP : 25 < Tryz.prog.types.size := of_decide_eq_true (by kernel_rfl)
theorem readableC : Tryz.prog.readableRec 41 = true := by kernel_rfl
theorem inRangeC : 41 < Tryz.prog.types.size := of_decide_eq_true (by kernel_rfl)

set_option maxRecDepth 100000 in
/-- WHAT THE WALK GIVES, FOR EVERY ARGUMENT AND EVERY WORLD THAT HOLDS THE TABLES. -/
theorem contract (H : Type) (enc : TypeId × Value → H) (W : World) (base : Nat) (args : Array Value) (ds gs : List (DataW H)) (before : List MemPlace)
    (hval : ∀ (j : Nat) t v, Tryz.f3.params[j]? = some t → args[j]? = some v → Value.okWide Tryz.prog W .any base t v)
    (hW : DataW.Whole enc Tryz.prog Tryz.f3.params.toList Rows.fairRoundsSpec.vars false W args.toList ds gs before) (hL : laidMetH Tryz.prog Rows.fairRoundsRow.laid W) :
    Calls Tryz.prog 3 args W fun e W' => ∃ v, e = .returned v ∧ Rows.fairRoundsSpec.post enc Tryz.prog Tryz.f3 false true false false W args v W' := by
  have hW' := hW
  obtain ⟨p, q, hA0, hV, rfl, hfz, hnd⟩ := hW
  have hA : DataW.TrodAll enc Tryz.prog W 0 (fun _ => true) true Tryz.f3.params.toList args.toList ds p := hA0
  rw [Tryz.params3] at hA hval
  obtain ⟨v0, vs0, d0, ds0, p0, q0, hargs, rfl, rfl, h0, r0⟩ := trodAll_cons hA
  obtain ⟨v1, vs1, d1, ds1, p1, q1, hargs1, rfl, rfl, h1, r1⟩ := trodAll_cons r0
  obtain ⟨v2, vs2, d2, ds2, p2, q2, hargs2, rfl, rfl, h2, r2⟩ := trodAll_cons r1
  obtain ⟨v3, vs3, d3, ds3, p3, q3, hargs3, rfl, rfl, h3, r3⟩ := trodAll_cons r2
  obtain ⟨v4, vs4, d4, ds4, p4, q4, hargs4, rfl, rfl, h4, r4⟩ := trodAll_cons r3
  obtain ⟨rfl, rfl, rfl⟩ := trodAll_nil r4
  subst hargs4 hargs3 hargs2 hargs1
  obtain rfl : args = #[v0, v1, v2, v3, v4] := by cases args; simp_all
  obtain ⟨rfl, rfl⟩ := trodVars_none hV
  obtain ⟨n, rfl, rfl, rfl, w0⟩ := open_int Tryz.underlying3 (hval 0 3 v0 rfl rfl) h0
  obtain ⟨t, rfl, rfl, rfl, w1⟩ := open_int Tryz.underlying3 (hval 1 3 v1 rfl rfl) h1
  obtain ⟨x, rfl, rfl, rfl, w2⟩ := open_int Tryz.underlying3 (hval 2 3 v2 rfl rfl) h2
  obtain ⟨ar3, rfl, _⟩ := okWide_struct Tryz.underlying25 (hval 3 25 v3 rfl rfl)
  obtain ⟨ar4, rfl, _⟩ := okWide_struct Tryz.underlying41 (hval 4 41 v4 rfl rfl)
  have hlt := hW'.lt
  have k3 : ∀ x ∈ p3, x.block < W.heap.size := fun x hx => hlt x (by simp [hx])
  have k4 : ∀ x ∈ p4, x.block < W.heap.size := fun x hx => hlt x (by simp [hx])
  have hpost : ∀ W', Aged W W' → Rows.fairRoundsSpec.post enc Tryz.prog Tryz.f3 false true false false W #[.int .i64 n, .int .i64 t, .int .i64 x, .agg ar3, .agg ar4] (.bool true) W' := fun W' hg =>
    post_of_aged (pa := [] ++ ([] ++ ([] ++ (p3 ++ (p4 ++ []))))) (pv := []) hW' (fun _ _ _ => trodAll_cons_mk (shut_bool Tryz.underlying4 _) trodAll_mk0)
      (fun sp hsp => trodAll_cons_mk (shut_int Tryz.underlying3 w0) (trodAll_cons_mk (shut_int Tryz.underlying3 w1) (trodAll_cons_mk (shut_int Tryz.underlying3 w2)
        (trodAll_cons_mk (hg.trod j1 readableP inRangeP h3 k3 (fun x hx => hsp x (by simp [hx])))
          (trodAll_cons_mk (hg.trod j1 readableC inRangeC h4 k4 (fun x hx => hsp x (by simp [hx]))) trodAll_mk0))))) (fun _ _ => rfl) (by simp)
      hg (ok_one (by kernel_rfl) rfl (okWide_bool_mk Tryz.underlying4 _))
  clear hA0 hval hW' hA r0 r1 r2 r3
  obtain ⟨P0, P1, P2, A, an, ac, B, bm, bd, rfl, hP⟩ := plan_of h3
  obtain ⟨c0, c1, c2, c4, c5, c6, c7, c8, c9, c10, c11, c12, c13, c15, c16, c17, c18, c19, c20, c21, c22, c23, c24, c26, c27, on, k, C, bn, bc, rfl⟩ := core_of h4
  refine (outer n t x _ _ _ _ _ _ C bn bc _ _ _ _ W (callees W P0 P1 P2 A B C an ac bm bd bn bc x c0 c1 c2 c4 c5 c6 c7 c8 c9 c10 c11 c12 c13 c15 c16 c17 c18 c19 c20 c21 c22 c23 c24 c26 c27 on k hP) rfl fun W2 hW2 => wakes (globs_aged (globs hL) hW2)).mono fun e W' ⟨he, hg⟩ => ?_
  subst he
  exact ⟨_, rfl, hpost W' hg⟩

/-- A WORLD FOR THE WITNESS: the settled one, each listed table holding what its initialiser lays. -/
noncomputable def laidHeap (h : Array Obj) : List (Nat × List Value) → Array Obj
  | [] => h
  | (g, cs) :: l => (laidHeap h l).modify g fun
      | .cells _ t frozen => .cells cs.toArray t frozen
      | o => o
noncomputable def tables : List (Nat × List Value) := [
  (0, [.bool true, .bool false, .bool false, .bool false, .bool false, .bool false, .bool false, .bool true, .bool false, .bool false, .bool true, .bool true]),
  (1, [.bool false, .bool false, .bool false, .int .i64 (0), .int .i64 (0), .bool true, .bool false, .bool false, .int .i64 (0), .int .i64 (65535), .bool true, .bool true, .bool true, .int .i64 (0), .int .i64 (0), .bool true, .bool true, .bool true, .int .i64 (0), .int .i64 (0), .bool true, .bool true, .bool true, .int .i64 (0), .int .i64 (0), .bool true, .bool true, .bool true, .int .i64 (0), .int .i64 (0), .bool true, .bool true, .bool true, .int .i64 (0), .int .i64 (0), .bool true, .bool true, .bool false, .int .i64 (-2048), .int .i64 (2047), .bool true, .bool true, .bool false, .int .i64 (0), .int .i64 (0), .bool true, .bool true, .bool false, .int .i64 (0), .int .i64 (0), .bool true, .bool true, .bool false, .int .i64 (0), .int .i64 (0), .bool true, .bool true, .bool true, .int .i64 (0), .int .i64 (0), .bool true, .bool true, .bool false, .int .i64 (0), .int .i64 (0), .bool false, .bool false, .bool false, .int .i64 (0), .int .i64 (0), .bool false, .bool false, .bool false, .int .i64 (-1024), .int .i64 (1023), .bool true, .bool false, .bool false, .int .i64 (-1024), .int .i64 (1023), .bool true, .bool false, .bool false, .int .i64 (-1024), .int .i64 (1023), .bool false, .bool false, .bool false, .int .i64 (0), .int .i64 (0), .bool false, .bool false, .bool false, .int .i64 (0), .int .i64 (0)]),
  (2, [.int .u8 (0), .int .u8 (1), .int .u8 (56), .int .u8 (2), .int .u8 (57), .int .u8 (49), .int .u8 (28), .int .u8 (3), .int .u8 (61), .int .u8 (58), .int .u8 (42), .int .u8 (50), .int .u8 (38), .int .u8 (29), .int .u8 (17), .int .u8 (4), .int .u8 (62), .int .u8 (47), .int .u8 (59), .int .u8 (36), .int .u8 (45), .int .u8 (43), .int .u8 (51), .int .u8 (22), .int .u8 (53), .int .u8 (39), .int .u8 (33), .int .u8 (30), .int .u8 (24), .int .u8 (18), .int .u8 (12), .int .u8 (5), .int .u8 (63), .int .u8 (55), .int .u8 (48), .int .u8 (27), .int .u8 (60), .int .u8 (41), .int .u8 (37), .int .u8 (16), .int .u8 (46), .int .u8 (35), .int .u8 (44), .int .u8 (21), .int .u8 (52), .int .u8 (32), .int .u8 (23), .int .u8 (11), .int .u8 (54), .int .u8 (26), .int .u8 (40), .int .u8 (15), .int .u8 (34), .int .u8 (20), .int .u8 (31), .int .u8 (10), .int .u8 (25), .int .u8 (14), .int .u8 (19), .int .u8 (9), .int .u8 (13), .int .u8 (8), .int .u8 (7), .int .u8 (6)]),
  (3, [.int .u32 (4294967295), .int .u32 (4292870144), .int .u32 (4292934656), .int .u32 (4292934656), .int .u32 (4292934656), .int .u32 (4292934656), .int .u32 (4292934656), .int .u32 (4290772992), .int .u32 (4294966272), .int .u32 (4294966272), .int .u32 (4294966272), .int .u32 (4292934656), .int .u32 (4294966272), .int .u32 (4294967295), .int .u32 (4227858432), .int .u32 (4278190080), .int .u32 (4278190080), .int .u32 (4294967295)]),
  (4, [.int .u32 (3573751839), .int .u32 (3531603968), .int .u32 (2332033024), .int .u32 (3405774848), .int .u32 (2315255808), .int .u32 (2852126720), .int .u32 (3388997632), .int .u32 (2432696320), .int .u32 (4181721088), .int .u32 (4177526784), .int .u32 (3361700864), .int .u32 (3355474944), .int .u32 (3365927936), .int .u32 (3573759935), .int .u32 (335544320), .int .u32 (3019898880), .int .u32 (3036676096), .int .u32 (3556769793), .int .u32 (0)]),
  (5, [.int .i8 (1), .int .i8 (1), .int .i8 (1), .int .i8 (2)]),
  (6, [.int .u64 (0), .int .u64 (3), .int .u64 (3)]),
  (7, [.int .u64 (0), .int .u64 (281474976706563), .int .u64 (281474976709827)]),
  (8, [.int .i64 (6), .int .i64 (6), .int .i64 (7), .int .i64 (7), .int .i64 (10), .int .i64 (10), .int .i64 (11), .int .i64 (11), .int .i64 (47), .int .i64 (12)])
]
noncomputable def laidWorld (os : Os) : World :=
  { World.holding Tryz.prog os ⟨#[], #[], []⟩ with heap := laidHeap (World.holding Tryz.prog os ⟨#[], #[], []⟩).heap tables }
abbrev wargs : Array Value := #[.int .i64 0, .int .i64 0, .int .i64 0, .agg #[.int .i64 0, .int .i64 0, .int .i64 0, .slice none 0 0, .slice none 0 0], .agg #[.int .i64 0, .int .i64 0, .int .i64 0, .bool false, .int .i8 0, .bool false, .int .i8 0, .int .i8 0, .int .u64 0, .int .i64 0, .int .i8 0, .int .u64 0, .slice none 0 0, .bool false, .int .i64 0, .slice none 0 0, .slice none 0 0, .bool false, .int .i64 0, .int .u64 0, .int .i8 0, .int .i64 0, .bool false, .int .u64 0, .int .i8 0, .slice none 0 0, .bool false, .int .u64 0]]
theorem laid_met (os : Os) : laidMet Tryz.prog Rows.fairRoundsRow.laid ((laidWorld os).forCall (fun _ _ => 0) ⟨#[], wargs, []⟩).memory :=
  laidMet_of_run' 8 (by kernel_rfl) (by kernel_rfl)
theorem reads (os : Os) {H : Type} (enc : TypeId × Value → H) : ∃ places, DataW.whole enc Tryz.prog ((laidWorld os).forCall (fun _ _ => 0) ⟨#[], wargs, []⟩).memory Tryz.f3.params.toList Rows.fairRoundsSpec.vars false wargs.toList 8 = some ([.lit (.int .i64 0), .lit (.int .i64 0), .lit (.int .i64 0), .agg [.lit (.int .i64 0), .lit (.int .i64 0), .lit (.int .i64 0), .nil, .nil], .agg [.lit (.int .i64 0), .lit (.int .i64 0), .lit (.int .i64 0), .agg [.lit (.bool false), .agg [.lit (.int .i8 0), .lit (.bool false), .lit (.int .i8 0), .lit (.int .i8 0), .lit (.int .u64 0)], .lit (.int .i64 0), .lit (.int .i8 0), .lit (.int .u64 0), .nil], .lit (.bool false), .lit (.int .i64 0), .nil, .nil, .agg [.lit (.bool false), .lit (.int .i64 0), .lit (.int .u64 0), .lit (.int .i8 0), .lit (.int .i64 0)], .agg [.lit (.bool false), .lit (.int .u64 0), .lit (.int .i8 0)], .nil, .lit (.bool false), .lit (.int .u64 0)]], [], places) :=
  ⟨[], by kernel_rfl⟩

set_option maxRecDepth 100000 in
theorem lifted (os : Os) (started : os.Started) (H : Type) (enc : TypeId × Value → H) (F : Stop.Interp) :
    ReturnsInHanded {} Tryz.checked os 3 .any ((OpenSpec.ofChange Rows.fairRoundsSpec).preRow enc Tryz.prog Tryz.f3 Rows.fairRoundsRow.domain false Rows.fairRoundsRow.laid) (((OpenSpec.ofChange Rows.fairRoundsSpec).at F).post enc Tryz.prog Tryz.f3 false true false false) := by
  obtain ⟨places, hx⟩ := reads os enc
  refine returnsInHanded_of_row (C := Tryz.checked) (s := OpenSpec.ofChange Rows.fairRoundsSpec) own started (by kernel_rfl) Tryz.func3
    (witness_row_at (enc := enc) (C := Tryz.checked) false (laidWorld os) wargs rfl (by kernel_rfl) (by kernel_rfl) (by kernel_rfl)
      (OpenSpec.preRow_of_cond 8 hx (by kernel_rfl) (fun k hk => by cases hk) (by kernel_rfl) (laid_met os))) ?_
  intro W base args ds gs before hval hW _ _ _ hL _ _
  exact contract H enc W base args ds gs before hval hW hL

theorem inst : Tryz.f3.isInstance Tryz.prog Rows.fairRoundsRow.origin Rows.fairRoundsRow.targs := of_decide_eq_true (by kernel_rfl)

theorem said : Rows.FairRoundsSaid :=
  OpenClaim.holds_of_cond 3 Tryz.f3 rfl rfl rfl rfl rfl rfl rfl ⟨rfl, rfl, rfl, rfl, rfl⟩ rfl rfl rfl rfl rfl (by kernel_rfl) Tryz.func3 joined
    inst (by unfold Func.isWrapper; first | (rw [if_pos (by decide +kernel)]; kernel_rfl) | (rw [if_neg (by decide +kernel)]; exact ⟨rfl, rfl⟩))
    (fun os started H enc _ F => by rw [OpenClaim.pre_eq_preRow]; exact lifted os started H enc F)

/-- No parameter wants a stand-in; the program's own looks: what the card asks. -/
theorem plain (f : FuncId) (fn : Func) (hf : Tryz.pinned.checked.prog.funcNamed "tenement/tenementlaw30.FairRounds" = some f) (hfn : Tryz.pinned.checked.prog.funcs[f]? = some fn) :
    true = Tryz.pinned.checked.prog.looks [] ∧ ∀ (j : Nat) t, fn.params[j]? = some t → Tryz.pinned.checked.prog.wantsStandIn t = false := by
  obtain rfl : f = 3 := Option.some.inj ((show Tryz.prog.funcNamed "tenement/tenementlaw30.FairRounds" = some 3 by kernel_rfl).symm.trans hf) |>.symm
  obtain rfl : fn = Tryz.f3 := (Option.some.inj (Tryz.func3.symm.trans hfn)).symm
  refine ⟨by kernel_rfl, fun j t ht => ?_⟩
  rw [Tryz.params3] at ht
  have := Array.mem_of_getElem? ht
  simp only [List.mem_toArray, List.mem_cons, List.not_mem_nil, or_false] at this
  rcases this with rfl | rfl | rfl | rfl | rfl
  · exact (show Tryz.prog.wantsStandIn 3 = false by kernel_rfl)
  · exact (show Tryz.prog.wantsStandIn 3 = false by kernel_rfl)
  · exact (show Tryz.prog.wantsStandIn 3 = false by kernel_rfl)
  · exact (show Tryz.prog.wantsStandIn 25 = false by kernel_rfl)
  · exact (show Tryz.prog.wantsStandIn 41 = false by kernel_rfl)

/-- ████ THE CARD ████ -/
theorem card : Rows.FairRoundsCardSaid :=
  Claim7.holds_tied_plain_at .later [] _ _ _ _ said (fun _ h => by cases h) (by kernel_rfl) (fun _ h => by cases h) fairRounds_row_tie rfl ⟨rfl, rfl⟩ (by kernel_rfl) rfl plain goesBy
#print axioms card
end Go.Proofs.YtobkmmlodmdlgaaGreatDoor.FairRounds
