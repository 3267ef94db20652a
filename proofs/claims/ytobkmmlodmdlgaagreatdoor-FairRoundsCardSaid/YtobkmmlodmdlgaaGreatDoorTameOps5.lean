/- One operation: builtins and calls. -/
import Derived.Test.YtobkmmlodmdlgaaGreatDoorTameOps4
set_option linter.all false
namespace Go.Tame
open Go

section
variable {T : Tab} {P : Program} {base : Nat} {ρ : Ren} {h h' : Heap} {w : World} {nx nx' : Nat} {sz : Nat} {t : Env} {a : Act} {x : ORes}
variable (ok : TabOk T P) (r : Rep T base ρ h.get w)
include ok r

theorem lenB_ok {ty tt : TypeId} {v : AV} {cv : Value} {n : Nat} (hv : VRel ρ v cv) (hh : lenB T h ty v = some n) : (Builtin.len_ #[ty] tt #[cv]).run P w = .ok (.int .i64 (n : Int)) w := by
  unfold lenB at hh
  split at hh
  · cases hh
  · rename_i ti ht
    obtain ⟨i, d, z, hti⟩ := ok.types ty ti ht
    have hu := hti.und
    split at hh
    · rename_i el hd
      rw [tdOf_slice (hti.td.symm.trans hd)] at hu
      obtain ⟨b, c, rfl⟩ := lenA_ok hv hh
      simp [Builtin.len_, run_underlying hu, goInt]
    · rename_i k el hd
      rw [tdOf_arr (hti.td.symm.trans hd)] at hu
      injection hh with hh; subst hh
      simp [Builtin.len_, run_underlying hu, goInt]
    · rename_i el hd
      rw [tdOf_ptr (hti.td.symm.trans hd)] at hu
      split at hh
      · rename_i tj htj
        obtain ⟨j, dj, zj, hj⟩ := ok.types el tj htj
        have huj := hj.und
        split at hh
        · rename_i k el' hdj
          rw [tdOf_arr (hj.td.symm.trans hdj)] at huj
          injection hh with hh; subst hh
          simp [Builtin.len_, run_underlying hu, run_underlying huj, goInt]
        · cases hh
      · cases hh
    · rename_i kt et hd
      rw [tdOf_map (hti.td.symm.trans hd)] at hu
      split at hh
      · injection hh with hh; subst hh
        simp only [VRel] at hv; subst hv
        simp [Builtin.len_, run_underlying hu, goInt]
      · rename_i m
        split at hh
        · rename_i es cl hm
          injection hh with hh; subst hh
          simp only [VRel] at hv
          obtain ⟨p, hp, rfl⟩ := hv
          obtain ⟨p', ob, hp', _, hw, l, rfl, hl⟩ := r.own m _ hm
          rw [hp] at hp'; injection hp' with hp'; subst hp'
          have hget : (getObj p.block).run P w = .ok (.map l.toArray cl) w := by simp [getObj, Sem.run, hw]
          simp [Builtin.len_, run_underlying hu, goInt, hget, hl.length]
        · cases hh
      · cases hh
    · cases hh

theorem capB_ok {ty tt : TypeId} {v : AV} {cv : Value} {n : Nat} (hv : VRel ρ v cv) (hh : capB T ty v = some n) : (Builtin.cap_ #[ty] tt #[cv]).run P w = .ok (.int .i64 (n : Int)) w := by
  unfold capB at hh
  split at hh
  · rename_i ti ht
    obtain ⟨i, d, z, hti⟩ := ok.types ty ti ht
    have hu := hti.und
    split at hh
    · rename_i el m off len c hd
      rw [tdOf_slice (hti.td.symm.trans hd)] at hu
      injection hh with hh; subst hh
      obtain ⟨p, hp, rfl⟩ := hv.of_closed
      simp [Builtin.cap_, run_underlying hu, goInt]
    · rename_i el hd
      rw [tdOf_slice (hti.td.symm.trans hd)] at hu
      injection hh with hh; subst hh
      simp only [VRel] at hv; subst hv
      simp [Builtin.cap_, run_underlying hu, goInt]
    · cases hh
  · cases hh

/-- what a builtin comes to -/
def BOk (T : Tab) (base : Nat) (ρ : Ren) (h : Heap) (nx : Nat) (w : World) (x : ORes) (res : Result Value) : Prop :=
  ∃ v h' nx', x = .val v h' nx' ∧ (Fresh ρ nx nx' → ∃ ρ' cv w', res = .ok cv w' ∧ VRel ρ' v cv ∧ Rep T base ρ' h'.get w' ∧ Ext ρ h.get nx w ρ' h'.get nx' w')

theorem BOk.pure {v : AV} {cv : Value} {res : Result Value} (hv : VRel ρ v cv) (he : res = .ok cv w) : BOk T base ρ h nx w (.val v h nx) res :=
  ⟨v, h, nx, rfl, fun _ => ⟨ρ, cv, w, he, hv, r, Ext.refl _ _ _ _⟩⟩

theorem maxA_ok {tys : Array TypeId} {tt : TypeId} {l : List AV} {cl : List Value} {v : AV} (hl : VRels ρ l cl) (hh : maxA l = some v) : ∃ cv, (Builtin.max_ tys tt cl.toArray).run P w = .ok cv w ∧ VRel ρ v cv := by
  unfold maxA at hh
  split at hh
  · rename_i k m k' n
    injection hh with hh; subst hh
    simp only [VRels, VRel] at hl
    obtain ⟨_, _, rfl, rfl, _, _, rfl, rfl, rfl⟩ := hl
    exact ⟨_, by simp [Builtin.max_, Builtin.max2], rfl⟩
  · cases hh

theorem minA_ok {tys : Array TypeId} {tt : TypeId} {l : List AV} {cl : List Value} {v : AV} (hl : VRels ρ l cl) (hh : minA l = some v) : ∃ cv, (Builtin.min_ tys tt cl.toArray).run P w = .ok cv w ∧ VRel ρ v cv := by
  unfold minA at hh
  split at hh
  · rename_i k m k' n
    injection hh with hh; subst hh
    simp only [VRels, VRel] at hl
    obtain ⟨_, _, rfl, rfl, _, _, rfl, rfl, rfl⟩ := hl
    exact ⟨_, by simp [Builtin.min_, Builtin.min2], rfl⟩
  · cases hh

omit ok r in
theorem appRun_zeros {st xt ty e : TypeId} {kk k' : IntKind} {te : TI} {ie : TypeInfo} {de : TypeDesc} {ze : Value} {k n : Nat} (hus : P.underlying st = some (.slice e)) (hux : P.underlying xt = some (.int kk)) (hie : TIOk P e te ie de ze)
    (hpos : 0 < te.size) (hn : 0 < n) (hb1 : (k + n) * te.bytes ≤ 140737488355328) (hb2 : k + n ≤ 1000000) : AppRun P st xt ty e te.size k n ze w (.int k' (n : Int)) (Tame.rep ze.cells.toList n) := by
  have hwrap : IntKind.i64.wrap (n : Int) = n := by
    simp [IntKind.wrap, IntKind.bits, IntKind.signed]; omega
  have hz : ∀ w' : World, (zeroValue e).run P w' = .ok ze w' := fun w' => hie.run_zeroValue w'
  have hcells : (Builtin.zeroCells ze.cells n) = (Tame.rep ze.cells.toList n).toArray := by rw [rep_toArray]; rfl
  have hne : ¬ (n * te.size = 0) := by
    intro h0
    rcases Nat.mul_eq_zero.1 h0 with h1 | h1 <;> omega
  have hneg : ¬ ((n : Int) < 0) := by omega
  have hbb : ¬ (281474976710656 < (n : Int) * (te.bytes : Int)) := by
    have : n * te.bytes ≤ (k + n) * te.bytes := Nat.mul_le_mul_right _ (by omega)
    have h2 : n * te.bytes ≤ 140737488355328 := Nat.le_trans this hb1
    rw [← Int.natCast_mul]; omega
  refine ⟨fun b sCap hfit => ?_, fun b sCap olds hlt hold => ?_⟩
  · cases b <;> simp [Builtin.append_, run_underlying hus, run_underlying hux, Go.sizeOf, run_typeInfo _ hie.info, hie.size, hie.bytes, asInt, asIntOf, hwrap, hneg, hbb, hfit, hne, hz, hcells]
  · have hn' : ¬ (k + n ≤ sCap) := by omega
    have h63' : ¬ (9223372036854775807 < ((k : Int) + (n : Int))) := by omega
    have h48 : Builtin.nextslicecap (k + n) sCap * te.bytes ≤ 281474976710656 := growslice_fits (by omega) hb1
    have h48' : ¬ (281474976710656 < Builtin.nextslicecap (k + n) sCap * te.bytes) := by omega
    have hfo := hold w.drew rfl
    refine ⟨grownCap w (k + n) sCap e, ?_, ?_⟩
    · simp only [grownCap, Question.cut]; omega
    · simp [Builtin.append_, run_underlying hus, run_underlying hux, Go.sizeOf, run_typeInfo _ hie.info, hie.size, hie.bytes, asInt, asIntOf, hwrap, hneg, hbb, hn', hne, hz, hcells, h63', h48', Question.forced, hfo, newRow, grownCap]
      congr 2
      rw [← Array.append_assoc]; congr 1; simp only [List.append_toArray]

theorem appendB_ok {st xt tt : TypeId} {s y : AV} {cs cy : Value} (hs : VRel ρ s cs) (hy : VRel ρ y cy) (hh : appendB T h nx st xt s y = some x) : BOk T base ρ h nx w x ((Builtin.append_ #[st, xt] tt #[cs, cy]).run P w) := by
  unfold appendB at hh
  split at hh
  · rename_i ti tx ht htx
    split at hh
    · rename_i el f hd hdx
      split at hh
      · rename_i te n k hte hn hk
        split at hh
        · rename_i new hnew
          obtain ⟨hb, h2⟩ := ite_bool hh
          simp only [Bool.and_eq_true, blt_true, ble_true] at hb
          obtain ⟨⟨⟨b1, b2⟩, b3⟩, b4⟩ := hb
          split at h2
          · rename_i v h3 nx3 ha
            injection h2 with h2; subst h2
            exact ⟨v, h3, nx3, rfl, fun hf => appendA_ok ok r ht hd htx hdx hte b1 hs hy hn hk hnew b4 b2 b3 ha hf⟩
          · cases h2
        · cases hh
      · cases hh
    · rename_i el kk hd hdx
      split at hh
      · rename_i te n k hte hn hk
        obtain ⟨hb, h2⟩ := ite_bool hh
        simp only [Bool.and_eq_true, blt_true, ble_true, beq_true] at hb
        obtain ⟨⟨⟨⟨⟨b1, b2⟩, b3⟩, b4⟩, b5⟩, b6⟩ := hb
        split at h2
        · rename_i v h3 nx3 ha
          injection h2 with h2; subst h2
          obtain ⟨i, d, z, hi⟩ := ok.types st ti ht
          obtain ⟨i2, d2, z2, hi2⟩ := ok.types xt tx htx
          obtain ⟨ie, de, ze, hie⟩ := ok.types el te hte
          have hus : P.underlying st = some (.slice el) := by rw [hi.und, tdOf_slice (hi.td.symm.trans hd)]
          have hux : P.underlying xt = some (.int kk) := by rw [hi2.und, tdOf_int (hi2.td.symm.trans hdx)]
          obtain ⟨k', rfl⟩ : ∃ k', y = .int k' (n : Int) := by
            unfold natOf at hn
            split at hn
            · injection hn with hn; subst hn; exact ⟨_, rfl⟩
            · cases hn
          have hcy : cy = .int k' (n : Int) := by simpa only [VRel] using hy
          subst hcy
          refine ⟨v, h3, nx3, rfl, fun hf => appendA_gen r hte hie b1 hs hk (VRels.rep (hie.cells.none_le (ρ := ρ)) n) (by rw [rep_length]; rw [b5]) ?_ b6 ha hf⟩
          exact appRun_zeros hus hux hie b1 b2 b3 b4
        · cases h2
      · cases hh
    · cases hh
  · cases hh

theorem copyB_ok {dt st tt : TypeId} {d s : AV} {cd cs : Value} (hd : VRel ρ d cd) (hs : VRel ρ s cs) (hh : copyB T h nx dt d s = some x) : BOk T base ρ h nx w x ((Builtin.copy_ #[dt, st] tt #[cd, cs]).run P w) := by
  unfold copyB at hh
  split at hh
  · rename_i ti ht
    obtain ⟨i, dd, z, hti⟩ := ok.types dt ti ht
    have hu := hti.und
    split at hh
    · rename_i el hdl
      rw [tdOf_slice (hti.td.symm.trans hdl)] at hu
      split at hh
      · rename_i te n k hte hn hk
        obtain ⟨ie, de, ze, hie⟩ := ok.types el te hte
        obtain ⟨b1, c1, rfl⟩ := lenA_ok hd hn
        obtain ⟨b2, c2, rfl⟩ := lenA_ok hs hk
        split at hh
        · rename_i new hnew
          obtain ⟨news, hnews, hnlen, hrun⟩ := elemsOf_ok (P := P) r hs hnew
          split at hh
          · rename_i m off len cap opn
            obtain ⟨h3, hst, rfl⟩ := retH_some hh
            simp only [lenA] at hn; injection hn with hn; subst hn
            obtain ⟨p, c, hp, hc⟩ := hd.of_slice
            injection hc with hc1 hc2 hc3; subst hc1
            obtain ⟨w', hrun2, hr', hx'⟩ := storeCellsA_ok (P := P) r hp hnews hst nx
            refine ⟨_, _, _, rfl, fun _ => ⟨ρ, .int .i64 (Nat.min k len : Nat), w', ?_, rfl, hr', hx'⟩⟩
            simp [Builtin.copy_, run_underlying hu, run_lenOf, hie.run_sizeOf, hrun w rfl, hrun2, goInt]
          · injection hh with hh; subst hh
            simp only [lenA] at hn; injection hn with hn; subst hn
            simp only [VRel] at hd
            injection hd with hd1 hd2 hd3; subst hd1
            have h0 : Nat.min k 0 = 0 := Nat.min_zero k
            refine BOk.pure ok r (cv := .int .i64 0) rfl ?_
            rw [h0] at hrun
            simp [Builtin.copy_, run_underlying hu, run_lenOf, hie.run_sizeOf, h0, hrun w rfl, goInt]
          · cases hh
        · cases hh
      · cases hh
    · cases hh
  · cases hh

theorem deleteB_ok (e : ERel ρ sz t a.tmps) {mt kt' tt : TypeId} {m k : AV} {cm ck : Value} (hm0 : VRel ρ m cm) (hk : VRel ρ k ck) (hh : deleteB T h nx mt m k = some x) : BOk T base ρ h nx w x ((Builtin.delete_ #[mt, kt'] tt #[cm, ck]).run P w) := by
  unfold deleteB at hh
  split at hh
  · rename_i ti m ht
    obtain ⟨i, d, zz, hti⟩ := ok.types mt ti ht
    have hu := hti.und
    simp only [VRel] at hm0
    obtain ⟨p, hp, rfl⟩ := hm0
    split at hh
    · rename_i kt et es cl hd hm
      rw [tdOf_map (hti.td.symm.trans hd)] at hu
      obtain ⟨hkok, h2⟩ := ite_bool hh
      have hck : ∀ b, (Instr.checkKey b 10000 kt ck).run P w = .ok () w := fun b => checkKey_ok ok hk hkok b
      obtain ⟨p', ob, hp', _, hw, l, rfl, hl⟩ := r.own m _ hm
      rw [hp] at hp'; injection hp' with hp'; subst hp'
      have hget : (getObj p.block).run P w = .ok (.map l.toArray cl) w := by simp [getObj, Sem.run, hw]
      split at h2
      · rename_i j hpos
        obtain ⟨h3, hup, rfl⟩ := retH_some h2
        have hf := findKey_ok ok r hk hkok hl hpos
        obtain ⟨y, hy, _⟩ := posA_eq hpos
        obtain ⟨en, hen, _⟩ := hl.get hy
        obtain ⟨w', hrun, hr', hx'⟩ := turnMap ok r e (nx := nx) hm hp hup (hl.drop j)
        refine ⟨_, _, _, rfl, fun _ => ⟨ρ, .tuple #[], w', ?_, undefRel, hr', hx'⟩⟩
        simp [Builtin.delete_, run_underlying hu, hget, hck, hf, found, hen, hrun]
      · rename_i hpos
        obtain ⟨h3, hup, rfl⟩ := retH_some h2
        have hf := findKey_ok ok r hk hkok hl hpos
        obtain ⟨w', hrun, hr', hx'⟩ := turnMap ok r e (nx := nx) hm hp hup hl
        refine ⟨_, _, _, rfl, fun _ => ⟨ρ, .tuple #[], w', ?_, undefRel, hr', hx'⟩⟩
        simp [Builtin.delete_, run_underlying hu, hget, hck, hf, found, hrun]
      · cases h2
    · cases hh
  · cases hh

theorem clearB_ok (e : ERel ρ sz t a.tmps) {ct tt : TypeId} {v : AV} {cv : Value} (hv : VRel ρ v cv) (hh : clearB T h nx ct v = some x) : BOk T base ρ h nx w x ((Builtin.clear_ #[ct] tt #[cv]).run P w) := by
  unfold clearB at hh
  split at hh
  · rename_i ti m off len cap opn ht
    obtain ⟨i, d, zz, hti⟩ := ok.types ct ti ht
    have hu := hti.und
    obtain ⟨p, c, hp, rfl⟩ := hv.of_slice
    split at hh
    · rename_i el hd
      rw [tdOf_slice (hti.td.symm.trans hd)] at hu
      split at hh
      · rename_i te hte
        obtain ⟨ie, de, ze, hie⟩ := ok.types el te hte
        cases hz : Nat.beq len 0 with
        | true =>
          rw [hz] at hh; simp only [cond_true] at hh; injection hh with hh; subst hh
          rw [beq_true] at hz; subst hz
          exact BOk.pure ok r undefRel (by simp [Builtin.clear_, run_underlying hu, undef])
        | false =>
          rw [hz] at hh; simp only [cond_false] at hh
          have hz' : len ≠ 0 := fun e => by rw [e] at hz; simp at hz
          obtain ⟨h3, hst, rfl⟩ := retH_some hh
          have hzr := VRels.rep (hie.cells.none_le (ρ := ρ)) len
          obtain ⟨w', hrun2, hr', hx'⟩ := storeCellsA_ok (P := P) r hp hzr hst nx
          refine ⟨_, _, _, rfl, fun _ => ⟨ρ, .tuple #[], w', ?_, undefRel, hr', hx'⟩⟩
          have hzc : (Builtin.zeroCells ze.cells len).toList = Tame.rep ze.cells.toList len := by
            have := rep_toArray ze.cells len
            rw [show Builtin.zeroCells ze.cells len = (Array.range (len * ze.cells.size)).map (fun i => ze.cells[i % ze.cells.size]!) from rfl, ← this]
          obtain ⟨n, rfl⟩ : ∃ n, len = n + 1 := ⟨len - 1, by omega⟩
          simp [Builtin.clear_, run_underlying hu, hie.run_zeroValue, hzc, hrun2]
      · cases hh
    · cases hh
  · rename_i ti ht
    obtain ⟨i, d, zz, hti⟩ := ok.types ct ti ht
    injection hh with hh; subst hh
    simp only [VRel] at hv; subst hv
    exact BOk.pure ok r undefRel (by simp [Builtin.clear_, run_underlying hti.und, undef])
  · rename_i ti m ht
    obtain ⟨i, d, zz, hti⟩ := ok.types ct ti ht
    have hu := hti.und
    simp only [VRel] at hv
    obtain ⟨p, hp, rfl⟩ := hv
    split at hh
    · rename_i kt et es cl hd hm
      rw [tdOf_map (hti.td.symm.trans hd)] at hu
      obtain ⟨h3, hup, rfl⟩ := retH_some hh
      obtain ⟨p', ob, hp', _, hw, l, rfl, hl⟩ := r.own m _ hm
      rw [hp] at hp'; injection hp' with hp'; subst hp'
      have hget : (getObj p.block).run P w = .ok (.map l.toArray cl) w := by simp [getObj, Sem.run, hw]
      obtain ⟨w', hrun, hr', hx'⟩ := turnMap ok r e (nx := nx) hm hp hup (l' := []) rfl
      refine ⟨_, _, _, rfl, fun _ => ⟨ρ, .tuple #[], w', ?_, undefRel, hr', hx'⟩⟩
      simp [Builtin.clear_, run_underlying hu, hget, hrun]
    · cases hh
  · cases hh

end
end Go.Tame
