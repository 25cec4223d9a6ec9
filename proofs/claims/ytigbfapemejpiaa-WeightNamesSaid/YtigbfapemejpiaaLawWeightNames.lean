/-
  The law WeightNames: whatever the input, the law's function ends and answers true, and each argument reads as before.
  Conditions: none beyond the given row's own.
-/
import Derived.Test.YtigbfapemejpiaaCNWeightNames
import Derived.Test.YtigbfapemejpiaaVl
import Derived.Test.YtigbfapemejpiaaRows
set_option linter.unusedVariables false
set_option linter.unusedSimpArgs false
namespace Go.Proofs.Ytigbfapemejpiaa.V
open Go Go.RowKit Go.ChangeShapes Go.WideShapes Go.ChangeAt

theorem weightNames_flat : flatPs Try.prog Try.f7.params.toList = some [] := by kernel_rfl
theorem weightNames_all : ∀ xs : List AV, okArgs [] xs → CNWeightNames.N_law22_WeightNames xs [] fun a => a = .b true := by
  intro xs h
  match xs, h with
  | [], _ => exact (rfl : AV.b true = AV.b true)

theorem weightNames_own : ownKnob Try.prog.godebug = none := by kernel_rfl
theorem weightNames_func : Try.prog.funcs[7]? = some Try.f7 := by kernel_rfl
theorem weightNames_bool : Try.prog.underlying 4 = some .bool := by kernel_rfl
theorem weightNames_laid : laidOutB Try.prog = true := by kernel_rfl

theorem weightNames_lifted (os : Os) (started : os.Started) (H : Type) (enc : TypeId × Value → H) :
    ReturnsInHanded {} Try.checked os 7 .any (Rows.weightNamesSpec.pre6 enc Try.prog Try.f7 Rows.weightNamesRow.domain false) (Rows.weightNamesSpec.post enc Try.prog Try.f7 false true false false) :=
  flat_lifted (C := Try.checked) (tb := 4) weightNames_own started (by kernel_rfl) weightNames_func
    (ChangeSpec.witness6 (enc := enc) (C := Try.checked) false ⟨#[], #[], []⟩ 8 (by kernel_rfl) (by kernel_rfl) (by kernel_rfl) (by kernel_rfl))
    weightNames_laid weightNames_flat rfl (by kernel_rfl) weightNames_bool
    (fun W vs ds ps h => by
      have hl := trodAll_len h
      match ds, hl with
      | [], _ => rfl)
    CNWeightNames.ok_law22_WeightNames weightNames_all

theorem weightNames_holds : Rows.WeightNamesSaid :=
  OpenClaim.holds_of_wide 7 Try.f7 rfl rfl rfl rfl rfl rfl rfl ⟨rfl, rfl, rfl, rfl, rfl⟩ rfl rfl rfl rfl rfl (by kernel_rfl) weightNames_func (by kernel_rfl)
    (of_decide_eq_true (by kernel_rfl)) (by unfold Func.isWrapper; first | (rw [if_pos (by decide +kernel)]; kernel_rfl) | (rw [if_neg (by decide +kernel)]; exact ⟨rfl, rfl⟩))
    (fun os started H enc _ => weightNames_lifted os started H enc)
#print axioms weightNames_holds

end Go.Proofs.Ytigbfapemejpiaa.V
