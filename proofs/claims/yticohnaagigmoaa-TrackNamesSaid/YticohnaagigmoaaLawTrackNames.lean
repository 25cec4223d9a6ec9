/-
  The law TrackNames: whatever the input, the law's function ends and answers true, and each argument reads as before.
  Conditions: none beyond the given row's own.
-/
import Derived.Test.YticohnaagigmoaaCNames
import Derived.Test.YticohnaagigmoaaVl
import Derived.Test.YticohnaagigmoaaRows
set_option linter.unusedVariables false
set_option linter.unusedSimpArgs false
namespace Go.Proofs.Yticohnaagigmoaa.V
open Go Go.RowKit Go.ChangeShapes Go.WideShapes Go.ChangeAt

theorem trackNames_flat : flatPs Try.prog Try.f6.params.toList = some [] := by kernel_rfl
theorem trackNames_all : ∀ xs : List AV, okArgs [] xs → CNames.N_law06_TrackNames xs [] fun a => a = .b true := by
  intro xs h
  match xs, h with
  | [], _ => exact (rfl : AV.b true = AV.b true)

theorem trackNames_own : ownKnob Try.prog.godebug = none := by kernel_rfl
theorem trackNames_func : Try.prog.funcs[6]? = some Try.f6 := by kernel_rfl
theorem trackNames_bool : Try.prog.underlying 4 = some .bool := by kernel_rfl
theorem trackNames_laid : laidOutB Try.prog = true := by kernel_rfl

theorem trackNames_lifted (os : Os) (started : os.Started) (H : Type) (enc : TypeId × Value → H) :
    ReturnsInHanded {} Try.checked os 6 .any (Rows.trackNamesSpec.pre6 enc Try.prog Try.f6 Rows.trackNamesRow.domain false) (Rows.trackNamesSpec.post enc Try.prog Try.f6 false true false false) :=
  flat_lifted (C := Try.checked) (tb := 4) trackNames_own started (by kernel_rfl) trackNames_func
    (ChangeSpec.witness6 (enc := enc) (C := Try.checked) false ⟨#[], #[], []⟩ 8 (by kernel_rfl) (by kernel_rfl) (by kernel_rfl) (by kernel_rfl))
    trackNames_laid trackNames_flat rfl (by kernel_rfl) trackNames_bool
    (fun W vs ds ps h => by
      have hl := trodAll_len h
      match ds, hl with
      | [], _ => rfl)
    CNames.ok_law06_TrackNames trackNames_all

theorem trackNames_holds : Rows.TrackNamesSaid :=
  OpenClaim.holds_of_wide 6 Try.f6 rfl rfl rfl rfl rfl rfl rfl ⟨rfl, rfl, rfl, rfl, rfl⟩ rfl rfl rfl rfl rfl (by kernel_rfl) trackNames_func (by kernel_rfl)
    (of_decide_eq_true (by kernel_rfl)) (by unfold Func.isWrapper; first | (rw [if_pos (by decide +kernel)]; kernel_rfl) | (rw [if_neg (by decide +kernel)]; exact ⟨rfl, rfl⟩))
    (fun os started H enc _ => trackNames_lifted os started H enc)
#print axioms trackNames_holds

end Go.Proofs.Yticohnaagigmoaa.V
