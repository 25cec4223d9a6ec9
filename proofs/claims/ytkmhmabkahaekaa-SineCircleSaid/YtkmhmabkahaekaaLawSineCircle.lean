/-
  The law SineCircle: whatever the input, the law's function ends and answers true, and each argument reads as before.
  Conditions: none beyond the given row's own.
-/
import Derived.Test.YtkmhmabkahaekaaSi5
import Derived.Test.YtkmhmabkahaekaaVl
import Derived.Test.YtkmhmabkahaekaaRows
set_option linter.unusedVariables false
set_option linter.unusedSimpArgs false
namespace Go.Proofs.Ytkmhmabkahaekaa.V
open Go Go.RowKit Go.ChangeShapes Go.WideShapes Go.ChangeAt

theorem sineCircle_flat : flatPs Try.prog Try.f5.params.toList = some [(false, [.i .i64]), (false, [.i .i64])] := by kernel_rfl
theorem sineCircle_all : ∀ xs : List AV, okArgs [(false, [.i .i64]), (false, [.i .i64])] xs → S_law05_SineCircle xs [] fun a => a = .b true := by
  intro xs h
  match xs, h with
  | [.i _ a, .i _ b], h =>
    obtain ⟨⟨rfl, h1⟩, ⟨rfl, h2⟩, _⟩ := h
    refine ⟨?_, rfl⟩
    repeat' (first | exact range_i64 ‹_› | exact trivial | apply And.intro)

theorem sineCircle_own : ownKnob Try.prog.godebug = none := by kernel_rfl
theorem sineCircle_func : Try.prog.funcs[5]? = some Try.f5 := by kernel_rfl
theorem sineCircle_bool : Try.prog.underlying 4 = some .bool := by kernel_rfl
theorem sineCircle_laid : laidOutB Try.prog = true := by kernel_rfl

theorem sineCircle_lifted (os : Os) (started : os.Started) (H : Type) (enc : TypeId × Value → H) :
    ReturnsInHanded {} Try.checked os 5 .any (Rows.sineCircleSpec.pre6 enc Try.prog Try.f5 Rows.sineCircleRow.domain false) (Rows.sineCircleSpec.post enc Try.prog Try.f5 false true false false) :=
  flat_lifted (C := Try.checked) (tb := 4) sineCircle_own started (by kernel_rfl) sineCircle_func
    (ChangeSpec.witness6 (enc := enc) (C := Try.checked) false ⟨#[], #[.int .i64 0, .int .i64 0], []⟩ 8 (by kernel_rfl) (by kernel_rfl) (by kernel_rfl) (by kernel_rfl))
    sineCircle_laid sineCircle_flat rfl (by kernel_rfl) sineCircle_bool
    (fun W vs ds ps h => by
      have hl := trodAll_len h
      match ds, hl with
      | [d0, d1], _ => rfl)
    ok_law05_SineCircle sineCircle_all

theorem sineCircle_holds : Rows.SineCircleSaid :=
  OpenClaim.holds_of_wide 5 Try.f5 rfl rfl rfl rfl rfl rfl rfl ⟨rfl, rfl, rfl, rfl, rfl⟩ rfl rfl rfl rfl rfl (by kernel_rfl) sineCircle_func (by kernel_rfl)
    (of_decide_eq_true (by kernel_rfl)) (by unfold Func.isWrapper; first | (rw [if_pos (by decide +kernel)]; kernel_rfl) | (rw [if_neg (by decide +kernel)]; exact ⟨rfl, rfl⟩))
    (fun os started H enc _ => sineCircle_lifted os started H enc)
#print axioms sineCircle_holds

end Go.Proofs.Ytkmhmabkahaekaa.V
