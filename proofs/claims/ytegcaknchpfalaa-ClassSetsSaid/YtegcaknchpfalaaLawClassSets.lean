/- The law ClassSets of the seat, in its first form: of every input it returns true, and its arguments read as they did. Conditions: none beyond the statement's own. -/
import Derived.Test.YtegcaknchpfalaaRows
import Derived.JoinedCond
import Derived.Test.YtegcaknchpfalaaPb
namespace Go.Proofs.Ytegcaknchpfalaa.classSetsLaw
open Go.ChangeShapes Go.WideShapes Go.ChangeAt Go.RowKit Go.Ev
set_option linter.unusedVariables false
theorem own : ownKnob Try.prog.godebug = none := by kernel_rfl
theorem laidOut : laidOutB Try.prog = true := by kernel_rfl
def Pure : Prop := ∀ (x0 : (Nat → Int)) (x1 : (Nat → Int)) (x2 : (Nat → Int)), (∀ j0, j0 < 4 → (IntKind.u64.min ≤ (x0 j0) ∧ (x0 j0) ≤ IntKind.u64.max)) → (∀ j0, j0 < 4 → (IntKind.u64.min ≤ (x1 j0) ∧ (x1 j0) ≤ IntKind.u64.max)) → (∀ j0, j0 < 4 → (IntKind.u64.min ≤ (x2 j0) ∧ (x2 j0) ≤ IntKind.u64.max)) → ∃ k, F8 k x0 x1 x2 = some true
theorem pure_of (P : Pure) (xs : List (List D)) (h : TyArgs Try.prog 20 [24, 24, 24] xs) : FunJ Try.prog 8 (pvsOf Try.prog [24, 24, 24] xs) [] (.v 0 (.d (.bool true))) [] := by
  obtain ⟨_, _, rfl, h0, h⟩ := h
  obtain ⟨_, _, rfl, h1, h⟩ := h
  obtain ⟨_, _, rfl, h2, h⟩ := h
  cases (h : _ = [])
  obtain ⟨x0, rfl, w0⟩ := (TyD.arr (n := 4) (E := (EI .u64)) (W := fun y => (IntKind.u64.min ≤ y ∧ y ≤ IntKind.u64.max)) (0 : Int) Try.underlying24 (TyD.int Try.underlying22)) 20 h0
  obtain ⟨x1, rfl, w1⟩ := (TyD.arr (n := 4) (E := (EI .u64)) (W := fun y => (IntKind.u64.min ≤ y ∧ y ≤ IntKind.u64.max)) (0 : Int) Try.underlying24 (TyD.int Try.underlying22)) 20 h1
  obtain ⟨x2, rfl, w2⟩ := (TyD.arr (n := 4) (E := (EI .u64)) (W := fun y => (IntKind.u64.min ≤ y ∧ y ≤ IntKind.u64.max)) (0 : Int) Try.underlying24 (TyD.int Try.underlying22)) 20 h2
  obtain ⟨k, hk⟩ := P x0 x1 x2 w0 w1 w2
  have e : pvsOf Try.prog [24, 24, 24] [(arrC 4 (EI .u64)) x0, (arrC 4 (EI .u64)) x1, (arrC 4 (EI .u64)) x2] = [.agg ((arrC 4 (EI .u64)) x0), .agg ((arrC 4 (EI .u64)) x1), .agg ((arrC 4 (EI .u64)) x2)] := by simp only [pvsOf, pvOf, Try.underlying24]
  rw [e]
  exact F8_ok k x0 x1 x2 true hk
set_option maxRecDepth 100000 in
theorem lifted (P : Pure) (os : Os) (started : os.Started) (H : Type) (enc : TypeId × Value → H) :
    ReturnsInHanded {} Try.checked os 8 .any (Rows.classSetsSpec.pre6 enc Try.prog Try.f8 Rows.classSetsRow.domain false) (Rows.classSetsSpec.post enc Try.prog Try.f8 false true false false) := by
  refine returnsInHanded_of_change_sized (C := Try.checked) own started (by kernel_rfl) Try.func8
    (ChangeSpec.witness6 (enc := enc) (C := Try.checked) false ⟨#[], #[.agg #[.int .u64 0, .int .u64 0, .int .u64 0, .int .u64 0], .agg #[.int .u64 0, .int .u64 0, .int .u64 0, .int .u64 0], .agg #[.int .u64 0, .int .u64 0, .int .u64 0, .int .u64 0]], []⟩ 8 (by kernel_rfl) (by kernel_rfl) (by kernel_rfl) (by kernel_rfl)) ?_
  intro W base args ds gs before hval hW _ _ _
  exact law_contract_all 20 4 rfl laidOut (by kernel_rfl) (by kernel_rfl) rfl Try.underlying4
    (fun ds h => by match ds, h with | [d0, d1, d2], _ => rfl) (by rw [Try.params8]; exact pure_of P) hval hW
theorem over (P : Pure) : Rows.classSetsRow.holds Try.pinned (OpenSpec.ofChange Rows.classSetsSpec) :=
  OpenClaim.holds_of_wide 8 Try.f8 rfl rfl rfl rfl rfl rfl rfl ⟨rfl, rfl, rfl, rfl, rfl⟩ rfl rfl rfl rfl rfl (by kernel_rfl) Try.func8 (by kernel_rfl)
    (of_decide_eq_true (by kernel_rfl)) (by unfold Func.isWrapper; first | (rw [if_pos (by decide +kernel)]; kernel_rfl) | (rw [if_neg (by decide +kernel)]; exact ⟨rfl, rfl⟩))
    (fun os started H enc _ => lifted P os started H enc)
theorem proved : Rows.ClassSetsSaid := over classSetsA
#print axioms proved
end Go.Proofs.Ytegcaknchpfalaa.classSetsLaw
