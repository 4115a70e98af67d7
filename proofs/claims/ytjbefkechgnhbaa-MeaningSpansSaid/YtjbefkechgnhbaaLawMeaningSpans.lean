/- The law MeaningSpans of the seat, in its first form: of every input it returns true, and its arguments read as they did. Conditions: none beyond the statement's own. -/
import Derived.Test.YtjbefkechgnhbaaRows
import Derived.JoinedCond
import Derived.Test.YtjbefkechgnhbaaPb
namespace Go.Proofs.Ytjbefkechgnhbaa.meaningSpansLaw
open Go.ChangeShapes Go.WideShapes Go.ChangeAt Go.RowKit Go.Ev
set_option linter.unusedVariables false
theorem own : ownKnob Try.prog.godebug = none := by kernel_rfl
theorem laidOut : laidOutB Try.prog = true := by kernel_rfl
def Pure : Prop := ∀ (x0 : S23) (x1 : Bool) (x2 : (List Int)), W23 x0 → True → (∀ y ∈ x2, (IntKind.u8.min ≤ y ∧ y ≤ IntKind.u8.max)) → ∃ k, F3 k x0 x1 x2 = some true
theorem pure_of (P : Pure) (xs : List (List D)) (h : TyArgs Try.prog 20 [24, 4, 25] xs) : FunJ Try.prog 3 (pvsOf Try.prog [24, 4, 25] xs) [] (.v 0 (.d (.bool true))) [] := by
  obtain ⟨_, _, rfl, h0, h⟩ := h
  obtain ⟨_, _, rfl, h1, h⟩ := h
  obtain ⟨_, _, rfl, h2, h⟩ := h
  cases (h : _ = [])
  obtain ⟨x0, rfl, w0⟩ := T24 20 h0
  obtain ⟨x1, rfl, w1⟩ := (TyD.bool Try.underlying4) 20 h1
  obtain ⟨x2, rfl, w2⟩ := (TyD.slice (s := 1) (E := (EI .u8)) (W := fun y => (IntKind.u8.min ≤ y ∧ y ≤ IntKind.u8.max)) Try.underlying25 (by kernel_rfl) (TyD.int Try.underlying5)) 20 h2
  obtain ⟨k, hk⟩ := P x0 x1 x2 w0 w1 w2
  have e : pvsOf Try.prog [24, 4, 25] [E23 x0, EB x1, (EL 1 (EI .u8)) x2] = [.agg (E23 x0), pv1 (EB x1), pv1 ((EL 1 (EI .u8)) x2)] := by simp only [pvsOf, pvOf, Try.underlying24, Try.underlying4, Try.underlying25]
  rw [e]
  exact F3_ok k x0 x1 x2 true hk
set_option maxRecDepth 100000 in
theorem lifted (P : Pure) (os : Os) (started : os.Started) (H : Type) (enc : TypeId × Value → H) :
    ReturnsInHanded {} Try.checked os 3 .any (Rows.meaningSpansSpec.pre6 enc Try.prog Try.f3 Rows.meaningSpansRow.domain false) (Rows.meaningSpansSpec.post enc Try.prog Try.f3 false true false false) := by
  refine returnsInHanded_of_change_sized (C := Try.checked) own started (by kernel_rfl) Try.func3
    (ChangeSpec.witness6 (enc := enc) (C := Try.checked) false ⟨#[], #[.agg #[.slice none 0 0], .bool false, .slice none 0 0], []⟩ 8 (by kernel_rfl) (by kernel_rfl) (by kernel_rfl) (by kernel_rfl)) ?_
  intro W base args ds gs before hval hW _ _ _
  exact law_contract_all 20 4 rfl laidOut (by kernel_rfl) (by kernel_rfl) rfl Try.underlying4
    (fun ds h => by match ds, h with | [d0, d1, d2], _ => rfl) (by rw [Try.params3]; exact pure_of P) hval hW
theorem over (P : Pure) : Rows.meaningSpansRow.holds Try.pinned (OpenSpec.ofChange Rows.meaningSpansSpec) :=
  OpenClaim.holds_of_wide 3 Try.f3 rfl rfl rfl rfl rfl rfl rfl ⟨rfl, rfl, rfl, rfl, rfl⟩ rfl rfl rfl rfl rfl (by kernel_rfl) Try.func3 (by kernel_rfl)
    (of_decide_eq_true (by kernel_rfl)) (by unfold Func.isWrapper; first | (rw [if_pos (by decide +kernel)]; kernel_rfl) | (rw [if_neg (by decide +kernel)]; exact ⟨rfl, rfl⟩))
    (fun os started H enc _ => lifted P os started H enc)
theorem proved : Rows.MeaningSpansSaid := over meaningSpansA
#print axioms proved
end Go.Proofs.Ytjbefkechgnhbaa.meaningSpansLaw
