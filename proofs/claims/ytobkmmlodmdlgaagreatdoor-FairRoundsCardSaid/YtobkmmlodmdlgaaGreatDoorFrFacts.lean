/- The closed facts of 'tenementlaw30.FairRounds': each a computation of its own. -/
import Derived.Test.YtobkmmlodmdlgaaGreatDoorRows
import Derived.ProofKit
import Derived.JoinedOf
import GoSem.ClaimGoes
import Derived.Test.YtobkmmlodmdlgaaGreatDoorFrCloY
import Derived.Test.YtobkmmlodmdlgaaGreatDoorFrCloZ
import Derived.Test.YtobkmmlodmdlgaaGreatDoorFrFactsA
import Derived.Test.YtobkmmlodmdlgaaGreatDoorFrFactsB
import Derived.Test.YtobkmmlodmdlgaaGreatDoorFrFactsC
set_option linter.all false
namespace Go.Proofs.YtobkmmlodmdlgaaGreatDoor.FairRounds
theorem and2 {a b : Bool} (h : a = true) (k : b = true) : (a && b) = true := by rw [h, k]; rfl
set_option maxRecDepth 100000

theorem joined : joinedFacts Tryz.prog 3 Tryz.f3 (OpenSpec.ofChange Rows.fairRoundsSpec).bare Rows.fairRoundsRow = true :=
  (and2 (and2 (and2 (and2 (and2 (and2 (and2 (and2 (and2 (and2 (and2 (and2 (and2 (and2 (and2 (and2 (and2 (and2 (and2 (and2 (and2 (and2 (and2 (and2 (and2 (and2 (and2 (and2 (and2 (and2 (and2 j0 j1) j2) j3) j4) j5) j6) j7) j8) j9) j10) j11) j12) j13) j14) j15) j16) j17) j18) j19) j20) j21) j22) j23) j24) j25) j26) j27) j28) j29) j30) j31)

/-- no function of the program starts a goroutine -/
theorem noGo : Tryz.prog.funcs.any Func.goes = false := by kernel_rfl
theorem goes_of {P : Program} (h : P.funcs.any Func.goes = false) (f : FuncId) : P.goes f = false := by
  have key : ∀ g : FuncId, (P.funcs[g]?).any Func.goes = false := fun g => by
    cases hg : P.funcs[g]? with
    | none => rfl
    | some fn =>
      rw [Array.any_eq_false] at h
      obtain ⟨hlt, he⟩ := Array.getElem?_eq_some_iff.1 hg
      have h2 := h g hlt
      rw [he] at h2
      simpa using h2
  unfold Program.goes
  rw [h, Bool.and_false, Bool.or_false]
  first
    | (rw [Array.any_eq_false]; intro i hi; rw [key i]; decide)
    | (rw [List.any_eq_false]; intro i hi; rw [key i]; decide)
theorem goesBy : false = Rows.fairRoundsRow.goesBy Tryz.pinned.checked.prog := by
  show false = Tryz.prog.goesAt Rows.fairRoundsRow.start Rows.fairRoundsRow.func
  have hs : Rows.fairRoundsRow.start = .entering := rfl
  unfold Program.goesAt Program.goesFrom
  rw [hs]
  cases Tryz.prog.funcNamed Rows.fairRoundsRow.func with
  | none => rfl
  | some f => simp [goes_of noGo f]
end Go.Proofs.YtobkmmlodmdlgaaGreatDoor.FairRounds
