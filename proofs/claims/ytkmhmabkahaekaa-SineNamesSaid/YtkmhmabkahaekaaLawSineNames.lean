/-
  The law SineNames: whatever the input, the law's function ends and answers true, and each argument reads as before.
  Conditions: none beyond the given row's own.
-/
import Derived.Test.YtkmhmabkahaekaaCNames
import Derived.Test.YtkmhmabkahaekaaVl
import Derived.Test.YtkmhmabkahaekaaRows
set_option linter.unusedVariables false
set_option linter.unusedSimpArgs false
namespace Go.Proofs.Ytkmhmabkahaekaa.V
open Go Go.RowKit Go.ChangeShapes Go.WideShapes Go.ChangeAt

theorem sineNames_flat : flatPs Try.prog Try.f8.params.toList = some [] := by kernel_rfl
theorem sineNames_all : ∀ xs : List AV, okArgs [] xs → CNames.N_law05_SineNames xs [] fun a => a = .b true := by
  intro xs h
  match xs, h with
  | [], _ => exact (rfl : AV.b true = AV.b true)

theorem sineNames_own : ownKnob Try.prog.godebug = none := by kernel_rfl
theorem sineNames_func : Try.prog.funcs[8]? = some Try.f8 := by kernel_rfl
theorem sineNames_bool : Try.prog.underlying 4 = some .bool := by kernel_rfl
theorem sineNames_laid : laidOutB Try.prog = true := by kernel_rfl

theorem sineNames_lifted (os : Os) (started : os.Started) (H : Type) (enc : TypeId × Value → H) :
    ReturnsInHanded {} Try.checked os 8 .any (Rows.sineNamesSpec.pre6 enc Try.prog Try.f8 Rows.sineNamesRow.domain false) (Rows.sineNamesSpec.post enc Try.prog Try.f8 false true false false) :=
  flat_lifted (C := Try.checked) (tb := 4) sineNames_own started (by kernel_rfl) sineNames_func
    (ChangeSpec.witness6 (enc := enc) (C := Try.checked) false ⟨#[], #[], []⟩ 8 (by kernel_rfl) (by kernel_rfl) (by kernel_rfl) (by kernel_rfl))
    sineNames_laid sineNames_flat rfl (by kernel_rfl) sineNames_bool
    (fun W vs ds ps h => by
      have hl := trodAll_len h
      match ds, hl with
      | [], _ => rfl)
    CNames.ok_law05_SineNames sineNames_all

theorem sineNames_holds : Rows.SineNamesSaid :=
  OpenClaim.holds_of_wide 8 Try.f8 rfl rfl rfl rfl rfl rfl rfl ⟨rfl, rfl, rfl, rfl, rfl⟩ rfl rfl rfl rfl rfl (by kernel_rfl) sineNames_func (by kernel_rfl)
    (of_decide_eq_true (by kernel_rfl)) (by unfold Func.isWrapper; first | (rw [if_pos (by decide +kernel)]; kernel_rfl) | (rw [if_neg (by decide +kernel)]; exact ⟨rfl, rfl⟩))
    (fun os started H enc _ => sineNames_lifted os started H enc)
#print axioms sineNames_holds

end Go.Proofs.Ytkmhmabkahaekaa.V
