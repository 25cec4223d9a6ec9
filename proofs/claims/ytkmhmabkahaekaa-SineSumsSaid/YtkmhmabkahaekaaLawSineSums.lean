/-
  The law SineSums: whatever the input, the law's function ends and answers true, and each argument reads as before.
  Conditions: none beyond the given row's own.
-/
import Derived.Test.YtkmhmabkahaekaaSi6
import Derived.Test.YtkmhmabkahaekaaVl
import Derived.Test.YtkmhmabkahaekaaRows
set_option linter.unusedVariables false
set_option linter.unusedSimpArgs false
namespace Go.Proofs.Ytkmhmabkahaekaa.V
open Go Go.RowKit Go.ChangeShapes Go.WideShapes Go.ChangeAt

theorem sineSums_flat : flatPs Try.prog Try.f6.params.toList = some [(false, [.i .i64]), (false, [.i .i64]), (false, [.i .i64])] := by kernel_rfl
theorem sineSums_all : ∀ xs : List AV, okArgs [(false, [.i .i64]), (false, [.i .i64]), (false, [.i .i64])] xs → S_law05_SineSums xs [] fun a => a = .b true := by
  intro xs h
  match xs, h with
  | [.i _ a, .i _ b, .i _ c], h =>
    obtain ⟨⟨rfl, h1⟩, ⟨rfl, h2⟩, ⟨rfl, h3⟩, _⟩ := h
    refine ⟨?_, rfl⟩
    repeat' (first | exact range_i64 ‹_› | exact trivial | apply And.intro)

theorem sineSums_own : ownKnob Try.prog.godebug = none := by kernel_rfl
theorem sineSums_func : Try.prog.funcs[6]? = some Try.f6 := by kernel_rfl
theorem sineSums_bool : Try.prog.underlying 4 = some .bool := by kernel_rfl
theorem sineSums_laid : laidOutB Try.prog = true := by kernel_rfl

theorem sineSums_lifted (os : Os) (started : os.Started) (H : Type) (enc : TypeId × Value → H) :
    ReturnsInHanded {} Try.checked os 6 .any (Rows.sineSumsSpec.pre6 enc Try.prog Try.f6 Rows.sineSumsRow.domain false) (Rows.sineSumsSpec.post enc Try.prog Try.f6 false true false false) :=
  flat_lifted (C := Try.checked) (tb := 4) sineSums_own started (by kernel_rfl) sineSums_func
    (ChangeSpec.witness6 (enc := enc) (C := Try.checked) false ⟨#[], #[.int .i64 0, .int .i64 0, .int .i64 0], []⟩ 8 (by kernel_rfl) (by kernel_rfl) (by kernel_rfl) (by kernel_rfl))
    sineSums_laid sineSums_flat rfl (by kernel_rfl) sineSums_bool
    (fun W vs ds ps h => by
      have hl := trodAll_len h
      match ds, hl with
      | [d0, d1, d2], _ => rfl)
    ok_law05_SineSums sineSums_all

theorem sineSums_holds : Rows.SineSumsSaid :=
  OpenClaim.holds_of_wide 6 Try.f6 rfl rfl rfl rfl rfl rfl rfl ⟨rfl, rfl, rfl, rfl, rfl⟩ rfl rfl rfl rfl rfl (by kernel_rfl) sineSums_func (by kernel_rfl)
    (of_decide_eq_true (by kernel_rfl)) (by unfold Func.isWrapper; first | (rw [if_pos (by decide +kernel)]; kernel_rfl) | (rw [if_neg (by decide +kernel)]; exact ⟨rfl, rfl⟩))
    (fun os started H enc _ => sineSums_lifted os started H enc)
#print axioms sineSums_holds

end Go.Proofs.Ytkmhmabkahaekaa.V
