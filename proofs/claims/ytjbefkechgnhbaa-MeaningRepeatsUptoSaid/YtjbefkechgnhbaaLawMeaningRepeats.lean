/- The law MeaningRepeats of the seat, in its second form: where what it reads is of bulk at most 1048576 it returns true, and its arguments read as they did. Conditions: none beyond the statement's own. -/
import Derived.Test.YtjbefkechgnhbaaRows
import Derived.JoinedCond
import Derived.Test.YtjbefkechgnhbaaPb
namespace Go.Proofs.Ytjbefkechgnhbaa.meaningRepeatsLaw
open Go.ChangeShapes Go.WideShapes Go.ChangeAt Go.RowKit Go.Ev
set_option linter.unusedVariables false
theorem own : ownKnob Try.prog.godebug = none := by kernel_rfl
theorem laidOut : laidOutB Try.prog = true := by kernel_rfl
mutual
theorem le1 {H : Type} : ∀ d : DataW H, dw d ≤ Rows.uptoBulk d
  | .lit (.string b) => Nat.le_refl _
  | .lit (.bool _) => Nat.le_refl _
  | .lit (.int _ _) => Nat.le_refl _
  | .lit (.float _ _) => Nat.le_refl _
  | .lit .nil => Nat.le_refl _
  | .nil => Nat.le_refl _
  | .ptr d => by simp only [dw, Rows.uptoBulk]; have := le1 d; omega
  | .slice es sp => by simp only [dw, Rows.uptoBulk]; have := leL es; have := leL sp; omega
  | .agg ps => by simp only [dw, Rows.uptoBulk]; have := leL ps; omega
  | .iface _ d => by simp only [dw, Rows.uptoBulk]; omega
  | .map es => by simp only [dw, Rows.uptoBulk]; omega
  | .held _ => Nat.le_refl _
theorem leL {H : Type} : ∀ ds : List (DataW H), dwL ds ≤ Rows.uptoBulkAll ds
  | [] => Nat.le_refl _
  | d :: ds => by simp only [dwL, Rows.uptoBulkAll]; have := le1 d; have := leL ds; omega
end
def Pure : Prop := ∀ (x0 : S23) (x1 : Int) (x2 : Int) (x3 : (List Int)), W23 x0 → (IntKind.u8.min ≤ x1 ∧ x1 ≤ IntKind.u8.max) → (IntKind.u8.min ≤ x2 ∧ x2 ≤ IntKind.u8.max) → (∀ y ∈ x3, (IntKind.u8.min ≤ y ∧ y ≤ IntKind.u8.max)) → bkX [E23 x0, (EI .u8) x1, (EI .u8) x2, (EL 1 (EI .u8)) x3] ≤ 1048576 → ∃ k, F4 k x0 x1 x2 x3 = some true
theorem pure_of (P : Pure) (xs : List (List D)) (h : TyArgs Try.prog 20 [24, 5, 5, 25] xs) (hb : bkX xs ≤ 1048576) : FunJ Try.prog 4 (pvsOf Try.prog [24, 5, 5, 25] xs) [] (.v 0 (.d (.bool true))) [] := by
  obtain ⟨_, _, rfl, h0, h⟩ := h
  obtain ⟨_, _, rfl, h1, h⟩ := h
  obtain ⟨_, _, rfl, h2, h⟩ := h
  obtain ⟨_, _, rfl, h3, h⟩ := h
  cases (h : _ = [])
  obtain ⟨x0, rfl, w0⟩ := T24 20 h0
  obtain ⟨x1, rfl, w1⟩ := (TyD.int Try.underlying5) 20 h1
  obtain ⟨x2, rfl, w2⟩ := (TyD.int Try.underlying5) 20 h2
  obtain ⟨x3, rfl, w3⟩ := (TyD.slice (s := 1) (E := (EI .u8)) (W := fun y => (IntKind.u8.min ≤ y ∧ y ≤ IntKind.u8.max)) Try.underlying25 (by kernel_rfl) (TyD.int Try.underlying5)) 20 h3
  obtain ⟨k, hk⟩ := P x0 x1 x2 x3 w0 w1 w2 w3 hb
  have e : pvsOf Try.prog [24, 5, 5, 25] [E23 x0, (EI .u8) x1, (EI .u8) x2, (EL 1 (EI .u8)) x3] = [.agg (E23 x0), pv1 ((EI .u8) x1), pv1 ((EI .u8) x2), pv1 ((EL 1 (EI .u8)) x3)] := by simp only [pvsOf, pvOf, Try.underlying24, Try.underlying5, Try.underlying25]
  rw [e]
  exact F4_ok k x0 x1 x2 x3 true hk
set_option maxRecDepth 100000 in
theorem lifted (P : Pure) (os : Os) (started : os.Started) (H : Type) (enc : TypeId × Value → H) (F : Stop.Interp) :
    ReturnsInHanded {} Try.checked os 4 .any ((Rows.OpenSpec.upto Rows.meaningRepeatsSpec).pre6 enc Try.prog Try.f4 Rows.meaningRepeatsUptoRow.domain false) (((Rows.OpenSpec.upto Rows.meaningRepeatsSpec).at F).post enc Try.prog Try.f4 false true false false) := by
  refine returnsInHanded_of_cond (C := Try.checked) (s := Rows.OpenSpec.upto Rows.meaningRepeatsSpec) (k := Rows.uptoSmall) rfl own started (by kernel_rfl) Try.func4
    (OpenSpec.witness (enc := enc) (C := Try.checked) (s := Rows.OpenSpec.upto Rows.meaningRepeatsSpec) (k := Rows.uptoSmall) rfl false ⟨#[], #[.agg #[.slice none 0 0], .int .u8 0, .int .u8 0, .slice none 0 0], []⟩ 8 (by kernel_rfl) (by kernel_rfl) (by kernel_rfl)
      (x := ([.agg [.nil], .lit (.int .u8 0), .lit (.int .u8 0), .nil], [], [])) (by kernel_rfl) rfl (by kernel_rfl)) ?_
  intro W base args ds gs before hval hW _ hk _
  exact law_contract 20 4 rfl laidOut (by kernel_rfl) (by kernel_rfl) rfl Try.underlying4
    (fun ds h => by match ds, h with | [d0, d1, d2, d3], _ => rfl) (by rw [Try.params4]; exact pure_of P) hval hW (Nat.le_trans (leL _) (of_decide_eq_true hk))
theorem over (P : Pure) : Rows.MeaningRepeatsUptoSaid :=
  OpenClaim.holds_of_cond 4 Try.f4 rfl rfl rfl rfl rfl rfl rfl ⟨rfl, rfl, rfl, rfl, rfl⟩ rfl rfl rfl rfl rfl (by kernel_rfl) Try.func4 (by kernel_rfl)
    (of_decide_eq_true (by kernel_rfl)) (by unfold Func.isWrapper; first | (rw [if_pos (by decide +kernel)]; kernel_rfl) | (rw [if_neg (by decide +kernel)]; exact ⟨rfl, rfl⟩))
    (fun os started H enc _ F => lifted P os started H enc F)
theorem proved : Rows.MeaningRepeatsUptoSaid := over meaningRepeats
#print axioms proved
end Go.Proofs.Ytjbefkechgnhbaa.meaningRepeatsLaw
