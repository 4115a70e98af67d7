/- The law BucketFew of the seat, in its second form: where what it reads is of bulk at most 1048576 it returns true, and its arguments read as they did. Conditions: none beyond the statement's own. -/
import Derived.Test.YtegkdmfgjjcjiaaRows
import Derived.JoinedCond
import Derived.Test.YtegkdmfgjjcjiaaPb
namespace Go.Proofs.Ytegkdmfgjjcjiaa.bucketFewLaw
open Go.ChangeShapes Go.WideShapes Go.ChangeAt Go.RowKit Go.Ev
set_option linter.unusedVariables false
theorem own : ownKnob Try.prog.godebug = none := by kernel_rfl
theorem laidOut : laidOutB Try.prog = true := by kernel_rfl
mutual
theorem le1 {H : Type} : ∀ d : DataW H, dw d ≤ Rows.uptoBulk d
  | .lit (.string b) => Nat.le_refl _
  | .lit (.bool _) => Nat.le_refl _
  | .lit (.int _ _) => Nat.le_refl _
  | .lit (.float _ _) => Nat.le_refl _
  | .lit .nil => Nat.le_refl _
  | .nil => Nat.le_refl _
  | .ptr d => by simp only [dw, Rows.uptoBulk]; have := le1 d; omega
  | .slice es sp => by simp only [dw, Rows.uptoBulk]; have := leL es; have := leL sp; omega
  | .agg ps => by simp only [dw, Rows.uptoBulk]; have := leL ps; omega
  | .iface _ d => by simp only [dw, Rows.uptoBulk]; omega
  | .map es => by simp only [dw, Rows.uptoBulk]; omega
  | .held _ => Nat.le_refl _
theorem leL {H : Type} : ∀ ds : List (DataW H), dwL ds ≤ Rows.uptoBulkAll ds
  | [] => Nat.le_refl _
  | d :: ds => by simp only [dwL, Rows.uptoBulkAll]; have := le1 d; have := leL ds; omega
end
def Pure : Prop := ∀ (x0 : (List (List S54))) (x1 : (List Int)), (∀ y ∈ x0, (∀ y' ∈ y, W54 y')) → (∀ y ∈ x1, (IntKind.u8.min ≤ y ∧ y ≤ IntKind.u8.max)) → bkX [(EL 1 (EL 2 E54)) x0, (EL 1 (EI .u8)) x1] ≤ 1048576 → ∃ k, F5 k x0 x1 = some true
theorem pure_of (P : Pure) (xs : List (List D)) (h : TyArgs Try.prog 20 [22, 34] xs) (hb : bkX xs ≤ 1048576) : FunJ Try.prog 5 (pvsOf Try.prog [22, 34] xs) [] (.v 0 (.d (.bool true))) [] := by
  obtain ⟨_, _, rfl, h0, h⟩ := h
  obtain ⟨_, _, rfl, h1, h⟩ := h
  cases (h : _ = [])
  obtain ⟨x0, rfl, w0⟩ := (TyD.slice (s := 1) (E := (EL 2 E54)) (W := fun y => (∀ y' ∈ y, W54 y')) Try.underlying22 (by kernel_rfl) (TyD.slice (s := 2) (E := E54) (W := fun y => W54 y) Try.underlying38 (by kernel_rfl) T55)) 20 h0
  obtain ⟨x1, rfl, w1⟩ := (TyD.slice (s := 1) (E := (EI .u8)) (W := fun y => (IntKind.u8.min ≤ y ∧ y ≤ IntKind.u8.max)) Try.underlying34 (by kernel_rfl) (TyD.int Try.underlying5)) 20 h1
  obtain ⟨k, hk⟩ := P x0 x1 w0 w1 hb
  have e : pvsOf Try.prog [22, 34] [(EL 1 (EL 2 E54)) x0, (EL 1 (EI .u8)) x1] = [pv1 ((EL 1 (EL 2 E54)) x0), pv1 ((EL 1 (EI .u8)) x1)] := by simp only [pvsOf, pvOf, Try.underlying22, Try.underlying34]
  rw [e]
  exact F5_ok k x0 x1 true hk
set_option maxRecDepth 100000 in
theorem lifted (P : Pure) (os : Os) (started : os.Started) (H : Type) (enc : TypeId × Value → H) (F : Stop.Interp) :
    ReturnsInHanded {} Try.checked os 5 .any ((Rows.OpenSpec.upto Rows.bucketFewSpec).pre6 enc Try.prog Try.f5 Rows.bucketFewUptoRow.domain false) (((Rows.OpenSpec.upto Rows.bucketFewSpec).at F).post enc Try.prog Try.f5 false true false false) := by
  refine returnsInHanded_of_cond (C := Try.checked) (s := Rows.OpenSpec.upto Rows.bucketFewSpec) (k := Rows.uptoSmall) rfl own started (by kernel_rfl) Try.func5
    (OpenSpec.witness (enc := enc) (C := Try.checked) (s := Rows.OpenSpec.upto Rows.bucketFewSpec) (k := Rows.uptoSmall) rfl false ⟨#[], #[.slice none 0 0, .slice none 0 0], []⟩ 8 (by kernel_rfl) (by kernel_rfl) (by kernel_rfl)
      (x := ([.nil, .nil], [], [])) (by kernel_rfl) rfl (by kernel_rfl)) ?_
  intro W base args ds gs before hval hW _ hk _
  exact law_contract 20 4 rfl laidOut (by kernel_rfl) (by kernel_rfl) rfl Try.underlying4
    (fun ds h => by match ds, h with | [d0, d1], _ => rfl) (by rw [Try.params5]; exact pure_of P) hval hW (Nat.le_trans (leL _) (of_decide_eq_true hk))
theorem over (P : Pure) : Rows.BucketFewUptoSaid :=
  OpenClaim.holds_of_cond 5 Try.f5 rfl rfl rfl rfl rfl rfl rfl ⟨rfl, rfl, rfl, rfl, rfl⟩ rfl rfl rfl rfl rfl (by kernel_rfl) Try.func5 (by kernel_rfl)
    (of_decide_eq_true (by kernel_rfl)) (by unfold Func.isWrapper; first | (rw [if_pos (by decide +kernel)]; kernel_rfl) | (rw [if_neg (by decide +kernel)]; exact ⟨rfl, rfl⟩))
    (fun os started H enc _ F => lifted P os started H enc F)
theorem proved : Rows.BucketFewUptoSaid := over bucketFew
#print axioms proved
end Go.Proofs.Ytegkdmfgjjcjiaa.bucketFewLaw
