/-
  The law DelaySplits: whatever the input, the law's function ends and answers true, and each argument reads as before.
  Conditions: none beyond the given row's own.
-/
import Derived.Test.YtkmhmabkahaekaaSplit
import Derived.Test.YtkmhmabkahaekaaVl
import Derived.Test.YtkmhmabkahaekaaRows
set_option linter.unusedVariables false
set_option linter.unusedSimpArgs false
namespace Go.Proofs.Ytkmhmabkahaekaa.V
open Go Go.RowKit Go.ChangeShapes Go.WideShapes Go.ChangeAt

theorem delaySplits_flat : flatPs Try.prog Try.f3.params.toList = some [(true, [.i .i64, .i .i64]), (true, [.i .i64, .i .i64, .i .i64])] := by kernel_rfl
theorem delaySplits_all : ∀ xs : List AV, okArgs [(true, [.i .i64, .i .i64]), (true, [.i .i64, .i .i64, .i .i64])] xs → S_law09_DelaySplits xs [] fun a => a = .b true := by
  intro xs h
  match xs, h with
  | [.agg [.i _ lo, .i _ hi], .agg [.i _ w, .i _ l, .i _ r]], h =>
    obtain ⟨⟨⟨rfl, h1⟩, ⟨rfl, h2⟩, _⟩, ⟨⟨rfl, h3⟩, ⟨rfl, h4⟩, ⟨rfl, h5⟩, _⟩, _⟩ := h
    exact ⟨⟨⟨range_i64 h1, range_i64 h2⟩, range_i64 h3, range_i64 h4, range_i64 h5⟩, rfl⟩

theorem delaySplits_own : ownKnob Try.prog.godebug = none := by kernel_rfl
theorem delaySplits_func : Try.prog.funcs[3]? = some Try.f3 := by kernel_rfl
theorem delaySplits_bool : Try.prog.underlying 4 = some .bool := by kernel_rfl
theorem delaySplits_laid : laidOutB Try.prog = true := by kernel_rfl

theorem delaySplits_lifted (os : Os) (started : os.Started) (H : Type) (enc : TypeId × Value → H) :
    ReturnsInHanded {} Try.checked os 3 .any (Rows.delaySplitsSpec.pre6 enc Try.prog Try.f3 Rows.delaySplitsRow.domain false) (Rows.delaySplitsSpec.post enc Try.prog Try.f3 false true false false) :=
  flat_lifted (C := Try.checked) (tb := 4) delaySplits_own started (by kernel_rfl) delaySplits_func
    (ChangeSpec.witness6 (enc := enc) (C := Try.checked) false ⟨#[], #[.agg #[.int .i64 0, .int .i64 0], .agg #[.int .i64 0, .int .i64 0, .int .i64 0]], []⟩ 8 (by kernel_rfl) (by kernel_rfl) (by kernel_rfl) (by kernel_rfl))
    delaySplits_laid delaySplits_flat rfl (by kernel_rfl) delaySplits_bool
    (fun W vs ds ps h => by
      have hl := trodAll_len h
      match ds, hl with
      | [d0, d1], _ => rfl)
    ok_law09_DelaySplits delaySplits_all

theorem delaySplits_holds : Rows.DelaySplitsSaid :=
  OpenClaim.holds_of_wide 3 Try.f3 rfl rfl rfl rfl rfl rfl rfl ⟨rfl, rfl, rfl, rfl, rfl⟩ rfl rfl rfl rfl rfl (by kernel_rfl) delaySplits_func (by kernel_rfl)
    (of_decide_eq_true (by kernel_rfl)) (by unfold Func.isWrapper; first | (rw [if_pos (by decide +kernel)]; kernel_rfl) | (rw [if_neg (by decide +kernel)]; exact ⟨rfl, rfl⟩))
    (fun os started H enc _ => delaySplits_lifted os started H enc)
#print axioms delaySplits_holds

end Go.Proofs.Ytkmhmabkahaekaa.V
