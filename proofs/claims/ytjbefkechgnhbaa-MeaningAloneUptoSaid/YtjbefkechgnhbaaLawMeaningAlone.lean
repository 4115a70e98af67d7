/- The law MeaningAlone of the seat, in its second form: where what it reads is of bulk at most 1048576 it returns true, and its arguments read as they did. Conditions: none beyond the statement's own. -/
import Derived.Test.YtjbefkechgnhbaaRows
import Derived.JoinedCond
import Derived.Test.YtjbefkechgnhbaaPb
namespace Go.Proofs.Ytjbefkechgnhbaa.meaningAloneLaw
open Go.ChangeShapes Go.WideShapes Go.ChangeAt Go.RowKit Go.Ev
set_option linter.unusedVariables false
theorem own : ownKnob Try.prog.godebug = none := by kernel_rfl
theorem laidOut : laidOutB Try.prog = true := by kernel_rfl
mutual
theorem le1 {H : Type} : ∀ d : DataW H, dw d ≤ Rows.uptoBulk d
  | .lit (.string b) => Nat.le_refl _
  | .lit (.bool _) => Nat.le_refl _
  | .lit (.int _ _) => Nat.le_refl _
  | .lit (.float _ _) => Nat.le_refl _
  | .lit .nil => Nat.le_refl _
  | .nil => Nat.le_refl _
  | .ptr d => by simp only [dw, Rows.uptoBulk]; have := le1 d; omega
  | .slice es sp => by simp only [dw, Rows.uptoBulk]; have := leL es; have := leL sp; omega
  | .agg ps => by simp only [dw, Rows.uptoBulk]; have := leL ps; omega
  | .iface _ d => by simp only [dw, Rows.uptoBulk]; omega
  | .map es => by simp only [dw, Rows.uptoBulk]; omega
  | .held _ => Nat.le_refl _
theorem leL {H : Type} : ∀ ds : List (DataW H), dwL ds ≤ Rows.uptoBulkAll ds
  | [] => Nat.le_refl _
  | d :: ds => by simp only [dwL, Rows.uptoBulkAll]; have := le1 d; have := leL ds; omega
end
def Pure : Prop := ∀ (x0 : S23) (x1 : Bool) (x2 : (List Int)) (x3 : Int) (x4 : Int), W23 x0 → True → (∀ y ∈ x2, (IntKind.u8.min ≤ y ∧ y ≤ IntKind.u8.max)) → (IntKind.i64.min ≤ x3 ∧ x3 ≤ IntKind.i64.max) → (IntKind.i64.min ≤ x4 ∧ x4 ≤ IntKind.i64.max) → bkX [E23 x0, EB x1, (EL 1 (EI .u8)) x2, (EI .i64) x3, (EI .i64) x4] ≤ 1048576 → ∃ k, F7 k x0 x1 x2 x3 x4 = some true
theorem pure_of (P : Pure) (xs : List (List D)) (h : TyArgs Try.prog 20 [24, 4, 25, 3, 3] xs) (hb : bkX xs ≤ 1048576) : FunJ Try.prog 7 (pvsOf Try.prog [24, 4, 25, 3, 3] xs) [] (.v 0 (.d (.bool true))) [] := by
  obtain ⟨_, _, rfl, h0, h⟩ := h
  obtain ⟨_, _, rfl, h1, h⟩ := h
  obtain ⟨_, _, rfl, h2, h⟩ := h
  obtain ⟨_, _, rfl, h3, h⟩ := h
  obtain ⟨_, _, rfl, h4, h⟩ := h
  cases (h : _ = [])
  obtain ⟨x0, rfl, w0⟩ := T24 20 h0
  obtain ⟨x1, rfl, w1⟩ := (TyD.bool Try.underlying4) 20 h1
  obtain ⟨x2, rfl, w2⟩ := (TyD.slice (s := 1) (E := (EI .u8)) (W := fun y => (IntKind.u8.min ≤ y ∧ y ≤ IntKind.u8.max)) Try.underlying25 (by kernel_rfl) (TyD.int Try.underlying5)) 20 h2
  obtain ⟨x3, rfl, w3⟩ := (TyD.int Try.underlying3) 20 h3
  obtain ⟨x4, rfl, w4⟩ := (TyD.int Try.underlying3) 20 h4
  obtain ⟨k, hk⟩ := P x0 x1 x2 x3 x4 w0 w1 w2 w3 w4 hb
  have e : pvsOf Try.prog [24, 4, 25, 3, 3] [E23 x0, EB x1, (EL 1 (EI .u8)) x2, (EI .i64) x3, (EI .i64) x4] = [.agg (E23 x0), pv1 (EB x1), pv1 ((EL 1 (EI .u8)) x2), pv1 ((EI .i64) x3), pv1 ((EI .i64) x4)] := by simp only [pvsOf, pvOf, Try.underlying24, Try.underlying4, Try.underlying25, Try.underlying3]
  rw [e]
  exact F7_ok k x0 x1 x2 x3 x4 true hk
set_option maxRecDepth 100000 in
theorem lifted (P : Pure) (os : Os) (started : os.Started) (H : Type) (enc : TypeId × Value → H) (F : Stop.Interp) :
    ReturnsInHanded {} Try.checked os 7 .any ((Rows.OpenSpec.upto Rows.meaningAloneSpec).pre6 enc Try.prog Try.f7 Rows.meaningAloneUptoRow.domain false) (((Rows.OpenSpec.upto Rows.meaningAloneSpec).at F).post enc Try.prog Try.f7 false true false false) := by
  refine returnsInHanded_of_cond (C := Try.checked) (s := Rows.OpenSpec.upto Rows.meaningAloneSpec) (k := Rows.uptoSmall) rfl own started (by kernel_rfl) Try.func7
    (OpenSpec.witness (enc := enc) (C := Try.checked) (s := Rows.OpenSpec.upto Rows.meaningAloneSpec) (k := Rows.uptoSmall) rfl false ⟨#[], #[.agg #[.slice none 0 0], .bool false, .slice none 0 0, .int .i64 0, .int .i64 0], []⟩ 8 (by kernel_rfl) (by kernel_rfl) (by kernel_rfl)
      (x := ([.agg [.nil], .lit (.bool false), .nil, .lit (.int .i64 0), .lit (.int .i64 0)], [], [])) (by kernel_rfl) rfl (by kernel_rfl)) ?_
  intro W base args ds gs before hval hW _ hk _
  exact law_contract 20 4 rfl laidOut (by kernel_rfl) (by kernel_rfl) rfl Try.underlying4
    (fun ds h => by match ds, h with | [d0, d1, d2, d3, d4], _ => rfl) (by rw [Try.params7]; exact pure_of P) hval hW (Nat.le_trans (leL _) (of_decide_eq_true hk))
theorem over (P : Pure) : Rows.MeaningAloneUptoSaid :=
  OpenClaim.holds_of_cond 7 Try.f7 rfl rfl rfl rfl rfl rfl rfl ⟨rfl, rfl, rfl, rfl, rfl⟩ rfl rfl rfl rfl rfl (by kernel_rfl) Try.func7 (by kernel_rfl)
    (of_decide_eq_true (by kernel_rfl)) (by unfold Func.isWrapper; first | (rw [if_pos (by decide +kernel)]; kernel_rfl) | (rw [if_neg (by decide +kernel)]; exact ⟨rfl, rfl⟩))
    (fun os started H enc _ F => lifted P os started H enc F)
theorem proved : Rows.MeaningAloneUptoSaid := over meaningAlone
#print axioms proved
end Go.Proofs.Ytjbefkechgnhbaa.meaningAloneLaw
