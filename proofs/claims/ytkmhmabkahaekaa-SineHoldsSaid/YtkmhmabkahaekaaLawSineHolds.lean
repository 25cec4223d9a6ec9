/-
  The law SineHolds: whatever the input, the law's function ends and answers true, and each argument reads as before.
  Conditions: none beyond the given row's own.
-/
import Derived.Test.YtkmhmabkahaekaaSh1
import Derived.Test.YtkmhmabkahaekaaVl
import Derived.Test.YtkmhmabkahaekaaRows
set_option linter.unusedVariables false
set_option linter.unusedSimpArgs false
namespace Go.Proofs.Ytkmhmabkahaekaa.V
open Go Go.RowKit Go.ChangeShapes Go.WideShapes Go.ChangeAt

theorem sineHolds_flat : flatPs Try.prog Try.f9.params.toList = some [(true, [.i .i64, .i .i64]), (true, [.i .i64, .i .i64]), (true, [.i .i64, .i .i64]), (true, [.i .i64, .i .i64])] := by kernel_rfl
theorem sineHolds_all : ∀ xs : List AV, okArgs [(true, [.i .i64, .i .i64]), (true, [.i .i64, .i .i64]), (true, [.i .i64, .i .i64]), (true, [.i .i64, .i .i64])] xs → S_law05_SineHolds xs [] fun a => a = .b true := by
  intro xs h
  match xs, h with
  | [.agg [.i _ a, .i _ b], .agg [.i _ c, .i _ d], .agg [.i _ n, .i _ e], .agg [.i _ p, .i _ q]], h =>
    obtain ⟨⟨⟨rfl, h1⟩, ⟨rfl, h2⟩, _⟩, ⟨⟨rfl, h3⟩, ⟨rfl, h4⟩, _⟩, ⟨⟨rfl, h5⟩, ⟨rfl, h6⟩, _⟩, ⟨⟨rfl, h7⟩, ⟨rfl, h8⟩, _⟩, _⟩ := h
    refine ⟨?_, rfl⟩
    repeat' (first | exact range_i64 ‹_› | exact trivial | apply And.intro)

theorem sineHolds_own : ownKnob Try.prog.godebug = none := by kernel_rfl
theorem sineHolds_func : Try.prog.funcs[9]? = some Try.f9 := by kernel_rfl
theorem sineHolds_bool : Try.prog.underlying 4 = some .bool := by kernel_rfl
theorem sineHolds_laid : laidOutB Try.prog = true := by kernel_rfl

theorem sineHolds_lifted (os : Os) (started : os.Started) (H : Type) (enc : TypeId × Value → H) :
    ReturnsInHanded {} Try.checked os 9 .any (Rows.sineHoldsSpec.pre6 enc Try.prog Try.f9 Rows.sineHoldsRow.domain false) (Rows.sineHoldsSpec.post enc Try.prog Try.f9 false true false false) :=
  flat_lifted (C := Try.checked) (tb := 4) sineHolds_own started (by kernel_rfl) sineHolds_func
    (ChangeSpec.witness6 (enc := enc) (C := Try.checked) false ⟨#[], #[.agg #[.int .i64 0, .int .i64 0], .agg #[.int .i64 0, .int .i64 0], .agg #[.int .i64 0, .int .i64 0], .agg #[.int .i64 0, .int .i64 0]], []⟩ 8 (by kernel_rfl) (by kernel_rfl) (by kernel_rfl) (by kernel_rfl))
    sineHolds_laid sineHolds_flat rfl (by kernel_rfl) sineHolds_bool
    (fun W vs ds ps h => by
      have hl := trodAll_len h
      match ds, hl with
      | [d0, d1, d2, d3], _ => rfl)
    ok_law05_SineHolds sineHolds_all

theorem sineHolds_holds : Rows.SineHoldsSaid :=
  OpenClaim.holds_of_wide 9 Try.f9 rfl rfl rfl rfl rfl rfl rfl ⟨rfl, rfl, rfl, rfl, rfl⟩ rfl rfl rfl rfl rfl (by kernel_rfl) sineHolds_func (by kernel_rfl)
    (of_decide_eq_true (by kernel_rfl)) (by unfold Func.isWrapper; first | (rw [if_pos (by decide +kernel)]; kernel_rfl) | (rw [if_neg (by decide +kernel)]; exact ⟨rfl, rfl⟩))
    (fun os started H enc _ => sineHolds_lifted os started H enc)
#print axioms sineHolds_holds

end Go.Proofs.Ytkmhmabkahaekaa.V
