/- The law ClassBack of the seat, in its second form: where what it reads is of bulk at most 1048576 it returns true, and its arguments read as they did. Conditions: none beyond the statement's own. -/
import Derived.Test.YtegcaknchpfalaaRows
import Derived.JoinedCond
import Derived.Test.YtegcaknchpfalaaPb
namespace Go.Proofs.Ytegcaknchpfalaa.classBackLaw
open Go.ChangeShapes Go.WideShapes Go.ChangeAt Go.RowKit Go.Ev
set_option linter.unusedVariables false
theorem own : ownKnob Try.prog.godebug = none := by kernel_rfl
theorem laidOut : laidOutB Try.prog = true := by kernel_rfl
mutual
theorem le1 {H : Type} : ∀ d : DataW H, dw d ≤ Rows.uptoBulk d
  | .lit (.string b) => Nat.le_refl _
  | .lit (.bool _) => Nat.le_refl _
  | .lit (.int _ _) => Nat.le_refl _
  | .lit (.float _ _) => Nat.le_refl _
  | .lit .nil => Nat.le_refl _
  | .nil => Nat.le_refl _
  | .ptr d => by simp only [dw, Rows.uptoBulk]; have := le1 d; omega
  | .slice es sp => by simp only [dw, Rows.uptoBulk]; have := leL es; have := leL sp; omega
  | .agg ps => by simp only [dw, Rows.uptoBulk]; have := leL ps; omega
  | .iface _ d => by simp only [dw, Rows.uptoBulk]; omega
  | .map es => by simp only [dw, Rows.uptoBulk]; omega
  | .held _ => Nat.le_refl _
theorem leL {H : Type} : ∀ ds : List (DataW H), dwL ds ≤ Rows.uptoBulkAll ds
  | [] => Nat.le_refl _
  | d :: ds => by simp only [dwL, Rows.uptoBulkAll]; have := le1 d; have := leL ds; omega
end
def Pure : Prop := ∀ (x0 : (Nat → Int)), (∀ j0, j0 < 4 → (IntKind.u64.min ≤ (x0 j0) ∧ (x0 j0) ≤ IntKind.u64.max)) → bkX [(arrC 4 (EI .u64)) x0] ≤ 1048576 → ∃ k, F9 k x0 = some true
theorem pure_of (P : Pure) (xs : List (List D)) (h : TyArgs Try.prog 20 [24] xs) (hb : bkX xs ≤ 1048576) : FunJ Try.prog 9 (pvsOf Try.prog [24] xs) [] (.v 0 (.d (.bool true))) [] := by
  obtain ⟨_, _, rfl, h0, h⟩ := h
  cases (h : _ = [])
  obtain ⟨x0, rfl, w0⟩ := (TyD.arr (n := 4) (E := (EI .u64)) (W := fun y => (IntKind.u64.min ≤ y ∧ y ≤ IntKind.u64.max)) (0 : Int) Try.underlying24 (TyD.int Try.underlying22)) 20 h0
  obtain ⟨k, hk⟩ := P x0 w0 hb
  have e : pvsOf Try.prog [24] [(arrC 4 (EI .u64)) x0] = [.agg ((arrC 4 (EI .u64)) x0)] := by simp only [pvsOf, pvOf, Try.underlying24]
  rw [e]
  exact F9_ok k x0 true hk
set_option maxRecDepth 100000 in
theorem lifted (P : Pure) (os : Os) (started : os.Started) (H : Type) (enc : TypeId × Value → H) (F : Stop.Interp) :
    ReturnsInHanded {} Try.checked os 9 .any ((Rows.OpenSpec.upto Rows.classBackSpec).pre6 enc Try.prog Try.f9 Rows.classBackUptoRow.domain false) (((Rows.OpenSpec.upto Rows.classBackSpec).at F).post enc Try.prog Try.f9 false true false false) := by
  refine returnsInHanded_of_cond (C := Try.checked) (s := Rows.OpenSpec.upto Rows.classBackSpec) (k := Rows.uptoSmall) rfl own started (by kernel_rfl) Try.func9
    (OpenSpec.witness (enc := enc) (C := Try.checked) (s := Rows.OpenSpec.upto Rows.classBackSpec) (k := Rows.uptoSmall) rfl false ⟨#[], #[.agg #[.int .u64 0, .int .u64 0, .int .u64 0, .int .u64 0]], []⟩ 8 (by kernel_rfl) (by kernel_rfl) (by kernel_rfl)
      (x := ([.agg [.lit (.int .u64 0), .lit (.int .u64 0), .lit (.int .u64 0), .lit (.int .u64 0)]], [], [])) (by kernel_rfl) rfl (by kernel_rfl)) ?_
  intro W base args ds gs before hval hW _ hk _
  exact law_contract 20 4 rfl laidOut (by kernel_rfl) (by kernel_rfl) rfl Try.underlying4
    (fun ds h => by match ds, h with | [d0], _ => rfl) (by rw [Try.params9]; exact pure_of P) hval hW (Nat.le_trans (leL _) (of_decide_eq_true hk))
theorem over (P : Pure) : Rows.ClassBackUptoSaid :=
  OpenClaim.holds_of_cond 9 Try.f9 rfl rfl rfl rfl rfl rfl rfl ⟨rfl, rfl, rfl, rfl, rfl⟩ rfl rfl rfl rfl rfl (by kernel_rfl) Try.func9 (by kernel_rfl)
    (of_decide_eq_true (by kernel_rfl)) (by unfold Func.isWrapper; first | (rw [if_pos (by decide +kernel)]; kernel_rfl) | (rw [if_neg (by decide +kernel)]; exact ⟨rfl, rfl⟩))
    (fun os started H enc _ F => lifted P os started H enc F)
theorem proved : Rows.ClassBackUptoSaid := over classBack
#print axioms proved
end Go.Proofs.Ytegcaknchpfalaa.classBackLaw
