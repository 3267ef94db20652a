/- 'tenementlaw31.BothNil' returns true, whatever its input is: no pair holds nothing, and the closed run of its guard answers true (one computation by the kernel, under every order of evaluation and every append capacity). -/
import Derived.Test.YtdpcebflmhhbgaaGreatDoorCards
import Derived.Test.YtdpcebflmhhbgaaGreatDoorBnTie
import Derived.WalkKit
import Derived.ProofKit
import Derived.OpenShut
import Derived.Lib.SmallJoins
import Derived.Deep.DeepHandedRow
import Derived.Lib.LaidTab
import Derived.Test.YtdpcebflmhhbgaaGreatDoorBnTab
import Derived.Test.YtdpcebflmhhbgaaGreatDoorBnFacts
import Derived.Test.YtdpcebflmhhbgaaGreatDoorTameUse
set_option linter.all false
namespace Go.Proofs.YtdpcebflmhhbgaaGreatDoor.BothNil
open Go.ChangeShapes Go.WideShapes Go.ChangeAt Go.RowKit Go.Tame

theorem own : ownKnob Tryz.prog.godebug = none := by kernel_rfl
theorem mix : Tryz.prog.follows .mixedOrders = true := by kernel_rfl
theorem glSmall : small Bn.glL = true := by kernel_rfl
theorem glOk : eachB (globOk Tryz.prog Rows.bothNilRow.laid) Bn.glL = true := by kernel_rfl
theorem globs {W : World} (h : laidMetH Tryz.prog Rows.bothNilRow.laid W) : Globs Bn.tab W :=
  globs_of_laid (glL := Bn.glL) rfl glSmall glOk h

/-- THE RUN: one computation of the kernel's, whatever the choice is. -/
theorem run (k a b p : Int) : isTrue ((ev Bn.tab 1000000).call 3 [.agg [.con (.int .i8 k), .con (.int .i64 a), .con (.int .i64 b), .con (.int .u64 p)]] .nil 0) = true := by kernel_rfl

theorem walk (k a b p : Int) (W : World) (h : laidMetH Tryz.prog Rows.bothNilRow.laid W) : Calls Tryz.prog 3 #[.agg #[.int .i8 k, .int .i64 a, .int .i64 b, .int .u64 p]] W fun e w' => e = .returned (.bool true) ∧ Grown W w' :=
  calls_true (cargs := [.agg #[.int .i8 k, .int .i64 a, .int .i64 b, .int .u64 p]]) Bn.facts.ok (Bn.facts.over Bn.overOk) mix Bn.facts.planned (run k a b p)
    (VRels.cons (by simp only [VRel]; exact ⟨[.int .i8 k, .int .i64 a, .int .i64 b, .int .u64 p], rfl, VRels.cons (by simp [VRel, leafV]) (VRels.cons (by simp [VRel, leafV]) (VRels.cons (by simp [VRel, leafV]) (VRels.cons (by simp [VRel, leafV]) (VRels.nil _))))⟩) (VRels.nil _)) (globs h)
theorem cellsC : Tryz.prog.cellsOf 25 = 4 := by kernel_rfl

set_option maxRecDepth 100000 in
/-- WHAT THE WALK GIVES, FOR EVERY ARGUMENT AND EVERY WORLD THAT HOLDS THE TABLES. -/
theorem contract (H : Type) (enc : TypeId × Value → H) (W : World) (base : Nat) (args : Array Value) (ds gs : List (DataW H)) (before : List MemPlace)
    (hval : ∀ (j : Nat) t v, Tryz.f3.params[j]? = some t → args[j]? = some v → Value.okWide Tryz.prog W .any base t v)
    (hW : DataW.Whole enc Tryz.prog Tryz.f3.params.toList Rows.bothNilSpec.vars false W args.toList ds gs before) (hL : laidMetH Tryz.prog Rows.bothNilRow.laid W) :
    Calls Tryz.prog 3 args W fun e W' => ∃ v, e = .returned v ∧ Rows.bothNilSpec.post enc Tryz.prog Tryz.f3 false true false false W args v W' := by
  have hW' := hW
  obtain ⟨p, q, hA0, hV, rfl, hfz, hnd⟩ := hW
  have hA : DataW.TrodAll enc Tryz.prog W 0 (fun _ => true) true Tryz.f3.params.toList args.toList ds p := hA0
  rw [Tryz.params3] at hA hval
  obtain ⟨v0, vs0, d0, ds0, p0, q0, hargs, rfl, rfl, h0, r0⟩ := trodAll_cons hA
  obtain ⟨rfl, rfl, rfl⟩ := trodAll_nil r0
  obtain rfl : args = #[v0] := by cases args; simp_all
  obtain ⟨rfl, rfl⟩ := trodVars_none hV
  obtain ⟨c0, c1, c2, c3, y0, y1, y2, y3, m, rfl, rfl, rfl, hy0, hy1, hy2, hy3⟩ := Joins.open_agg4 Tryz.underlying25 (by kernel_rfl) cellsC (hval 0 25 v0 rfl rfl) h0
  obtain ⟨k, e0, rfl, w0⟩ := DataW.trod_int Tryz.underlying22 hy0
  obtain ⟨a, e1, rfl, w1⟩ := DataW.trod_int Tryz.underlying3 hy1
  obtain ⟨b, e2, rfl, w2⟩ := DataW.trod_int Tryz.underlying3 hy2
  obtain ⟨u, e3, rfl, w3⟩ := DataW.trod_int Tryz.underlying23 hy3
  simp only [List.cons.injEq, and_true] at e0 e1 e2 e3
  subst e0 e1 e2 e3
  clear hA0
  simp only [List.append_nil] at hW'
  refine (walk k a b u W hL).mono fun e W' ⟨he, hg⟩ => ?_
  subst he
  exact ⟨_, rfl, post_of_same (pa := []) (pv := []) hW' (fun _ _ _ => trodAll_cons_mk (shut_bool Tryz.underlying4 _) trodAll_mk0)
    (fun _ _ => trodAll_cons_mk (p := []) (Joins.shut_agg4 (y0 := (.lit (.int .i8 k), [])) (y1 := (.lit (.int .i64 a), [])) (y2 := (.lit (.int .i64 b), [])) (y3 := (.lit (.int .u64 u), [])) Tryz.underlying25 (by kernel_rfl) cellsC
      ⟨1, by simp [DataW.trod, Tryz.underlying22, w0]⟩ ⟨1, by simp [DataW.trod, Tryz.underlying3, w1]⟩ ⟨1, by simp [DataW.trod, Tryz.underlying3, w2]⟩ ⟨1, by simp [DataW.trod, Tryz.underlying23, w3]⟩) trodAll_mk0) (fun _ _ => rfl) rfl
    (hg.frame _) hg.2.1 (ok_one (by kernel_rfl) rfl (okWide_bool_mk Tryz.underlying4 _))⟩

/-- A WORLD FOR THE WITNESS: the settled one, each listed table holding what its initialiser lays. -/
noncomputable def laidHeap (h : Array Obj) : List (Nat × List Value) → Array Obj
  | [] => h
  | (g, cs) :: l => (laidHeap h l).modify g fun
      | .cells _ t frozen => .cells cs.toArray t frozen
      | o => o
noncomputable def tables : List (Nat × List Value) := [
  (0, [.bool false, .bool false, .bool false, .int .i64 (0), .int .i64 (0), .bool true, .bool false, .bool false, .int .i64 (0), .int .i64 (65535), .bool true, .bool true, .bool true, .int .i64 (0), .int .i64 (0), .bool true, .bool true, .bool true, .int .i64 (0), .int .i64 (0), .bool true, .bool true, .bool true, .int .i64 (0), .int .i64 (0), .bool true, .bool true, .bool true, .int .i64 (0), .int .i64 (0), .bool true, .bool true, .bool true, .int .i64 (0), .int .i64 (0), .bool true, .bool true, .bool false, .int .i64 (-2048), .int .i64 (2047), .bool true, .bool true, .bool false, .int .i64 (0), .int .i64 (0), .bool true, .bool true, .bool false, .int .i64 (0), .int .i64 (0), .bool true, .bool true, .bool false, .int .i64 (0), .int .i64 (0), .bool true, .bool true, .bool true, .int .i64 (0), .int .i64 (0), .bool true, .bool true, .bool false, .int .i64 (0), .int .i64 (0), .bool false, .bool false, .bool false, .int .i64 (0), .int .i64 (0), .bool false, .bool false, .bool false, .int .i64 (-1024), .int .i64 (1023), .bool true, .bool false, .bool false, .int .i64 (-1024), .int .i64 (1023), .bool true, .bool false, .bool false, .int .i64 (-1024), .int .i64 (1023), .bool false, .bool false, .bool false, .int .i64 (0), .int .i64 (0), .bool false, .bool false, .bool false, .int .i64 (0), .int .i64 (0)]),
  (1, [.int .i8 (1), .int .i8 (1), .int .i8 (1), .int .i8 (2)]),
  (2, [.int .u64 (0), .int .u64 (3), .int .u64 (3)]),
  (3, [.int .u64 (0), .int .u64 (281474976706563), .int .u64 (281474976709827)]),
  (4, [.int .u32 (4294967295), .int .u32 (4292870144), .int .u32 (4292934656), .int .u32 (4292934656), .int .u32 (4292934656), .int .u32 (4292934656), .int .u32 (4292934656), .int .u32 (4290772992), .int .u32 (4294966272), .int .u32 (4294966272), .int .u32 (4294966272), .int .u32 (4292934656), .int .u32 (4294966272), .int .u32 (4294967295), .int .u32 (4227858432), .int .u32 (4278190080), .int .u32 (4278190080), .int .u32 (4294967295)]),
  (5, [.int .u32 (3573751839), .int .u32 (3531603968), .int .u32 (2332033024), .int .u32 (3405774848), .int .u32 (2315255808), .int .u32 (2852126720), .int .u32 (3388997632), .int .u32 (2432696320), .int .u32 (4181721088), .int .u32 (4177526784), .int .u32 (3361700864), .int .u32 (3355474944), .int .u32 (3365927936), .int .u32 (3573759935), .int .u32 (335544320), .int .u32 (3019898880), .int .u32 (3036676096), .int .u32 (3556769793), .int .u32 (0)]),
  (6, [.bool true, .bool false, .bool false, .bool false, .bool false, .bool false, .bool false, .bool true, .bool false, .bool false, .bool true, .bool true]),
  (7, [.int .i64 (6), .int .i64 (6), .int .i64 (7), .int .i64 (7), .int .i64 (10), .int .i64 (10), .int .i64 (11), .int .i64 (11), .int .i64 (47), .int .i64 (12)]),
  (8, [.int .u8 (0), .int .u8 (1), .int .u8 (56), .int .u8 (2), .int .u8 (57), .int .u8 (49), .int .u8 (28), .int .u8 (3), .int .u8 (61), .int .u8 (58), .int .u8 (42), .int .u8 (50), .int .u8 (38), .int .u8 (29), .int .u8 (17), .int .u8 (4), .int .u8 (62), .int .u8 (47), .int .u8 (59), .int .u8 (36), .int .u8 (45), .int .u8 (43), .int .u8 (51), .int .u8 (22), .int .u8 (53), .int .u8 (39), .int .u8 (33), .int .u8 (30), .int .u8 (24), .int .u8 (18), .int .u8 (12), .int .u8 (5), .int .u8 (63), .int .u8 (55), .int .u8 (48), .int .u8 (27), .int .u8 (60), .int .u8 (41), .int .u8 (37), .int .u8 (16), .int .u8 (46), .int .u8 (35), .int .u8 (44), .int .u8 (21), .int .u8 (52), .int .u8 (32), .int .u8 (23), .int .u8 (11), .int .u8 (54), .int .u8 (26), .int .u8 (40), .int .u8 (15), .int .u8 (34), .int .u8 (20), .int .u8 (31), .int .u8 (10), .int .u8 (25), .int .u8 (14), .int .u8 (19), .int .u8 (9), .int .u8 (13), .int .u8 (8), .int .u8 (7), .int .u8 (6)])
]
noncomputable def laidWorld (os : Os) : World :=
  { World.holding Tryz.prog os ⟨#[], #[], []⟩ with heap := laidHeap (World.holding Tryz.prog os ⟨#[], #[], []⟩).heap tables }
abbrev wargs : Array Value := #[.agg #[.int .i8 0, .int .i64 0, .int .i64 0, .int .u64 0]]
theorem laid_met (os : Os) : laidMet Tryz.prog Rows.bothNilRow.laid ((laidWorld os).forCall (fun _ _ => 0) ⟨#[], wargs, []⟩).memory :=
  laidMet_of_run' 8 (by kernel_rfl) (by kernel_rfl)
theorem reads (os : Os) {H : Type} (enc : TypeId × Value → H) : ∃ places, DataW.whole enc Tryz.prog ((laidWorld os).forCall (fun _ _ => 0) ⟨#[], wargs, []⟩).memory Tryz.f3.params.toList Rows.bothNilSpec.vars false wargs.toList 8 = some ([.agg [.lit (.int .i8 0), .lit (.int .i64 0), .lit (.int .i64 0), .lit (.int .u64 0)]], [], places) :=
  ⟨[], by kernel_rfl⟩

set_option maxRecDepth 100000 in
theorem lifted (os : Os) (started : os.Started) (H : Type) (enc : TypeId × Value → H) (F : Stop.Interp) :
    ReturnsInHanded {} Tryz.checked os 3 .any ((OpenSpec.ofChange Rows.bothNilSpec).preRow enc Tryz.prog Tryz.f3 Rows.bothNilRow.domain false Rows.bothNilRow.laid) (((OpenSpec.ofChange Rows.bothNilSpec).at F).post enc Tryz.prog Tryz.f3 false true false false) := by
  obtain ⟨places, hx⟩ := reads os enc
  refine returnsInHanded_of_row (C := Tryz.checked) (s := OpenSpec.ofChange Rows.bothNilSpec) own started (by kernel_rfl) Tryz.func3
    (witness_row_at (enc := enc) (C := Tryz.checked) false (laidWorld os) wargs rfl (by kernel_rfl) (by kernel_rfl) (by kernel_rfl)
      (OpenSpec.preRow_of_cond 8 hx (by kernel_rfl) (fun k hk => by cases hk) (by kernel_rfl) (laid_met os))) ?_
  intro W base args ds gs before hval hW _ _ _ hL _ _
  exact contract H enc W base args ds gs before hval hW hL

theorem inst : Tryz.f3.isInstance Tryz.prog Rows.bothNilRow.origin Rows.bothNilRow.targs := of_decide_eq_true (by kernel_rfl)

theorem said : Rows.BothNilSaid :=
  OpenClaim.holds_of_cond 3 Tryz.f3 rfl rfl rfl rfl rfl rfl rfl ⟨rfl, rfl, rfl, rfl, rfl⟩ rfl rfl rfl rfl rfl (by kernel_rfl) Tryz.func3 joined
    inst (by unfold Func.isWrapper; first | (rw [if_pos (by decide +kernel)]; kernel_rfl) | (rw [if_neg (by decide +kernel)]; exact ⟨rfl, rfl⟩))
    (fun os started H enc _ F => by rw [OpenClaim.pre_eq_preRow]; exact lifted os started H enc F)

/-- No parameter wants a stand-in; the program's own looks: what the card asks. -/
theorem plain (f : FuncId) (fn : Func) (hf : Tryz.pinned.checked.prog.funcNamed "tenement/tenementlaw31.BothNil" = some f) (hfn : Tryz.pinned.checked.prog.funcs[f]? = some fn) :
    true = Tryz.pinned.checked.prog.looks [] ∧ ∀ (j : Nat) t, fn.params[j]? = some t → Tryz.pinned.checked.prog.wantsStandIn t = false := by
  obtain rfl : f = 3 := Option.some.inj ((show Tryz.prog.funcNamed "tenement/tenementlaw31.BothNil" = some 3 by kernel_rfl).symm.trans hf) |>.symm
  obtain rfl : fn = Tryz.f3 := (Option.some.inj (Tryz.func3.symm.trans hfn)).symm
  refine ⟨by kernel_rfl, fun j t ht => ?_⟩
  rw [Tryz.params3] at ht
  have := Array.mem_of_getElem? ht
  simp only [List.mem_toArray, List.mem_cons, List.not_mem_nil, or_false] at this
  subst this
  exact (show Tryz.prog.wantsStandIn 25 = false by kernel_rfl)

/-- ████ THE CARD ████ -/
theorem card : Rows.BothNilCardSaid :=
  Claim7.holds_tied_plain_at .later [] _ _ _ _ said (fun _ h => by cases h) (by kernel_rfl) (fun _ h => by cases h) row_tie rfl ⟨rfl, rfl⟩ (by kernel_rfl) rfl plain goesBy
#print axioms card
end Go.Proofs.YtdpcebflmhhbgaaGreatDoor.BothNil
