/- The law ClassBack of the seat, in its first form: of every input it returns true, and its arguments read as they did. Conditions: none beyond the statement's own. -/
import Derived.Test.YtegcaknchpfalaaRows
import Derived.JoinedCond
import Derived.Test.YtegcaknchpfalaaPb
namespace Go.Proofs.Ytegcaknchpfalaa.classBackLaw
open Go.ChangeShapes Go.WideShapes Go.ChangeAt Go.RowKit Go.Ev
set_option linter.unusedVariables false
theorem own : ownKnob Try.prog.godebug = none := by kernel_rfl
theorem laidOut : laidOutB Try.prog = true := by kernel_rfl
def Pure : Prop := ∀ (x0 : (Nat → Int)), (∀ j0, j0 < 4 → (IntKind.u64.min ≤ (x0 j0) ∧ (x0 j0) ≤ IntKind.u64.max)) → ∃ k, F9 k x0 = some true
theorem pure_of (P : Pure) (xs : List (List D)) (h : TyArgs Try.prog 20 [24] xs) : FunJ Try.prog 9 (pvsOf Try.prog [24] xs) [] (.v 0 (.d (.bool true))) [] := by
  obtain ⟨_, _, rfl, h0, h⟩ := h
  cases (h : _ = [])
  obtain ⟨x0, rfl, w0⟩ := (TyD.arr (n := 4) (E := (EI .u64)) (W := fun y => (IntKind.u64.min ≤ y ∧ y ≤ IntKind.u64.max)) (0 : Int) Try.underlying24 (TyD.int Try.underlying22)) 20 h0
  obtain ⟨k, hk⟩ := P x0 w0
  have e : pvsOf Try.prog [24] [(arrC 4 (EI .u64)) x0] = [.agg ((arrC 4 (EI .u64)) x0)] := by simp only [pvsOf, pvOf, Try.underlying24]
  rw [e]
  exact F9_ok k x0 true hk
set_option maxRecDepth 100000 in
theorem lifted (P : Pure) (os : Os) (started : os.Started) (H : Type) (enc : TypeId × Value → H) :
    ReturnsInHanded {} Try.checked os 9 .any (Rows.classBackSpec.pre6 enc Try.prog Try.f9 Rows.classBackRow.domain false) (Rows.classBackSpec.post enc Try.prog Try.f9 false true false false) := by
  refine returnsInHanded_of_change_sized (C := Try.checked) own started (by kernel_rfl) Try.func9
    (ChangeSpec.witness6 (enc := enc) (C := Try.checked) false ⟨#[], #[.agg #[.int .u64 0, .int .u64 0, .int .u64 0, .int .u64 0]], []⟩ 8 (by kernel_rfl) (by kernel_rfl) (by kernel_rfl) (by kernel_rfl)) ?_
  intro W base args ds gs before hval hW _ _ _
  exact law_contract_all 20 4 rfl laidOut (by kernel_rfl) (by kernel_rfl) rfl Try.underlying4
    (fun ds h => by match ds, h with | [d0], _ => rfl) (by rw [Try.params9]; exact pure_of P) hval hW
theorem over (P : Pure) : Rows.classBackRow.holds Try.pinned (OpenSpec.ofChange Rows.classBackSpec) :=
  OpenClaim.holds_of_wide 9 Try.f9 rfl rfl rfl rfl rfl rfl rfl ⟨rfl, rfl, rfl, rfl, rfl⟩ rfl rfl rfl rfl rfl (by kernel_rfl) Try.func9 (by kernel_rfl)
    (of_decide_eq_true (by kernel_rfl)) (by unfold Func.isWrapper; first | (rw [if_pos (by decide +kernel)]; kernel_rfl) | (rw [if_neg (by decide +kernel)]; exact ⟨rfl, rfl⟩))
    (fun os started H enc _ => lifted P os started H enc)
theorem proved : Rows.ClassBackSaid := over classBackA
#print axioms proved
end Go.Proofs.Ytegcaknchpfalaa.classBackLaw
