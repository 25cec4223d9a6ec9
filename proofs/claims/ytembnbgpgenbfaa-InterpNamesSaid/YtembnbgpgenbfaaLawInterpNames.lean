/-
  The law InterpNames: whatever the input, the law's function ends and answers true, and each argument reads as before.
  Conditions: none beyond the given row's own.
-/
import Derived.Test.YtembnbgpgenbfaaCNInterpNames
import Derived.Test.YtembnbgpgenbfaaVl
import Derived.Test.YtembnbgpgenbfaaRows
set_option linter.unusedVariables false
set_option linter.unusedSimpArgs false
namespace Go.Proofs.Ytembnbgpgenbfaa.V
open Go Go.RowKit Go.ChangeShapes Go.WideShapes Go.ChangeAt

theorem interpNames_flat : flatPs Try.prog Try.f6.params.toList = some [] := by kernel_rfl
theorem interpNames_all : ∀ xs : List AV, okArgs [] xs → CNInterpNames.N_law15_InterpNames xs [] fun a => a = .b true := by
  intro xs h
  match xs, h with
  | [], _ => exact (rfl : AV.b true = AV.b true)

theorem interpNames_own : ownKnob Try.prog.godebug = none := by kernel_rfl
theorem interpNames_func : Try.prog.funcs[6]? = some Try.f6 := by kernel_rfl
theorem interpNames_bool : Try.prog.underlying 4 = some .bool := by kernel_rfl
theorem interpNames_laid : laidOutB Try.prog = true := by kernel_rfl

theorem interpNames_lifted (os : Os) (started : os.Started) (H : Type) (enc : TypeId × Value → H) :
    ReturnsInHanded {} Try.checked os 6 .any (Rows.interpNamesSpec.pre6 enc Try.prog Try.f6 Rows.interpNamesRow.domain false) (Rows.interpNamesSpec.post enc Try.prog Try.f6 false true false false) :=
  flat_lifted (C := Try.checked) (tb := 4) interpNames_own started (by kernel_rfl) interpNames_func
    (ChangeSpec.witness6 (enc := enc) (C := Try.checked) false ⟨#[], #[], []⟩ 8 (by kernel_rfl) (by kernel_rfl) (by kernel_rfl) (by kernel_rfl))
    interpNames_laid interpNames_flat rfl (by kernel_rfl) interpNames_bool
    (fun W vs ds ps h => by
      have hl := trodAll_len h
      match ds, hl with
      | [], _ => rfl)
    CNInterpNames.ok_law15_InterpNames interpNames_all

theorem interpNames_holds : Rows.InterpNamesSaid :=
  OpenClaim.holds_of_wide 6 Try.f6 rfl rfl rfl rfl rfl rfl rfl ⟨rfl, rfl, rfl, rfl, rfl⟩ rfl rfl rfl rfl rfl (by kernel_rfl) interpNames_func (by kernel_rfl)
    (of_decide_eq_true (by kernel_rfl)) (by unfold Func.isWrapper; first | (rw [if_pos (by decide +kernel)]; kernel_rfl) | (rw [if_neg (by decide +kernel)]; exact ⟨rfl, rfl⟩))
    (fun os started H enc _ => interpNames_lifted os started H enc)
#print axioms interpNames_holds

end Go.Proofs.Ytembnbgpgenbfaa.V
