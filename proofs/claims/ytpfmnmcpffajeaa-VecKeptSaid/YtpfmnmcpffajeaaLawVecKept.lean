/-
  The law VecKept: whatever the input, the law's function ends and answers true, and each argument reads as before.
  Conditions: none beyond the given row's own.
-/
import Derived.Test.YtpfmnmcpffajeaaVk3
import Derived.Test.YtpfmnmcpffajeaaVl
import Derived.Test.YtpfmnmcpffajeaaRows
set_option linter.unusedVariables false
set_option linter.unusedSimpArgs false
namespace Go.Proofs.Ytpfmnmcpffajeaa.V
open Go Go.RowKit Go.ChangeShapes Go.WideShapes Go.ChangeAt

theorem okK_i64 {a : AV} (h : okK (.i .i64) a) : ∃ n, a = .i .i64 n ∧ I64 n := by
  cases a <;> first | exact h.elim | skip
  obtain ⟨rfl, h⟩ := h
  exact ⟨_, rfl, range_i64 h⟩
theorem okKs_cons {k : SK} {ks : List SK} {zs : List AV} (h : okKs (k :: ks) zs) : ∃ a r, zs = a :: r ∧ okK k a ∧ okKs ks r := by
  cases zs with
  | nil => exact h.elim
  | cons a r => exact ⟨a, r, rfl, h.1, h.2⟩
theorem okKs_nil {zs : List AV} (h : okKs [] zs) : zs = [] := by
  cases zs with
  | nil => rfl
  | cons a r => exact h.elim
theorem okKs_2 {r : List SK} {zs : List AV} (h : okKs (.i .i64 :: .i .i64 :: r) zs) : ∃ n d t, zs = .i .i64 n :: .i .i64 d :: t ∧ (I64 n ∧ I64 d) ∧ okKs r t := by
  obtain ⟨a, s, rfl, h1, h2⟩ := okKs_cons h
  obtain ⟨b, t, rfl, h3, h4⟩ := okKs_cons h2
  obtain ⟨n, rfl, hn⟩ := okK_i64 h1
  obtain ⟨d, rfl, hd⟩ := okK_i64 h3
  exact ⟨n, d, t, rfl, ⟨hn, hd⟩, h4⟩
theorem okArg_agg {ks : List SK} {x : AV} (h : okArg (true, ks) x) : ∃ zs, x = .agg zs ∧ okKs ks zs := by
  cases x <;> first | exact h.elim | exact ⟨_, rfl, h⟩
theorem okArg_6 {x : AV} (h : okArg (true, [.i .i64, .i .i64, .i .i64, .i .i64, .i .i64, .i .i64]) x) : ∃ a b c d e f, x = .agg [.i .i64 a, .i .i64 b, .i .i64 c, .i .i64 d, .i .i64 e, .i .i64 f] ∧ (I64 a ∧ I64 b) ∧ (I64 c ∧ I64 d) ∧ I64 e ∧ I64 f := by
  obtain ⟨zs, rfl, h⟩ := okArg_agg h
  obtain ⟨a, b, r, rfl, h1, h⟩ := okKs_2 h
  obtain ⟨c, d, s, rfl, h2, h⟩ := okKs_2 h
  obtain ⟨e, f, t, rfl, h3, h⟩ := okKs_2 h
  have := okKs_nil h
  subst this
  exact ⟨a, b, c, d, e, f, rfl, h1, h2, h3⟩
theorem okArg_2 {x : AV} (h : okArg (true, [.i .i64, .i .i64]) x) : ∃ a b, x = .agg [.i .i64 a, .i .i64 b] ∧ I64 a ∧ I64 b := by
  obtain ⟨zs, rfl, h⟩ := okArg_agg h
  obtain ⟨a, b, r, rfl, h1, h⟩ := okKs_2 h
  have := okKs_nil h
  subst this
  exact ⟨a, b, rfl, h1⟩
theorem okArg_i64 {x : AV} (h : okArg (false, [.i .i64]) x) : ∃ a, x = .i .i64 a ∧ I64 a := by
  have h : okK (.i .i64) x := by cases x <;> exact h
  exact okK_i64 h
theorem okArgs_cons {k : Bool × List SK} {ks : List (Bool × List SK)} {zs : List AV} (h : okArgs (k :: ks) zs) : ∃ a r, zs = a :: r ∧ okArg k a ∧ okArgs ks r := by
  cases zs with
  | nil => exact h.elim
  | cons a r => exact ⟨a, r, rfl, h.1, h.2⟩
theorem okArgs_nil {zs : List AV} (h : okArgs [] zs) : zs = [] := by
  cases zs with
  | nil => rfl
  | cons a r => exact h.elim

theorem vecKept_flat : flatPs Try.prog Try.f5.params.toList = some [(true, [.i .i64, .i .i64, .i .i64, .i .i64, .i .i64, .i .i64]), (true, [.i .i64, .i .i64, .i .i64, .i .i64, .i .i64, .i .i64]), (false, [.i .i64]), (true, [.i .i64, .i .i64])] := by kernel_rfl
theorem vecKept_all : ∀ xs : List AV, okArgs [(true, [.i .i64, .i .i64, .i .i64, .i .i64, .i .i64, .i .i64]), (true, [.i .i64, .i .i64, .i .i64, .i .i64, .i .i64, .i .i64]), (false, [.i .i64]), (true, [.i .i64, .i .i64])] xs → S_law02_VecKept xs [] fun a => a = .b true := by
  intro xs h
  obtain ⟨x0, r, rfl, hx0, h⟩ := okArgs_cons h
  obtain ⟨x1, r, rfl, hx1, h⟩ := okArgs_cons h
  obtain ⟨x2, r, rfl, hx2, h⟩ := okArgs_cons h
  obtain ⟨x3, r, rfl, hx3, h⟩ := okArgs_cons h
  have := okArgs_nil h
  subst this
  obtain ⟨_, _, _, _, _, _, rfl, h0⟩ := okArg_6 hx0
  obtain ⟨_, _, _, _, _, _, rfl, h1⟩ := okArg_6 hx1
  obtain ⟨_, rfl, h2⟩ := okArg_i64 hx2
  obtain ⟨_, _, rfl, h3⟩ := okArg_2 hx3
  exact ⟨⟨h0, h1, h2, h3⟩, rfl⟩

theorem vecKept_own : ownKnob Try.prog.godebug = none := by kernel_rfl
theorem vecKept_func : Try.prog.funcs[5]? = some Try.f5 := by kernel_rfl
theorem vecKept_bool : Try.prog.underlying 4 = some .bool := by kernel_rfl
theorem vecKept_laid : laidOutB Try.prog = true := by kernel_rfl

theorem vecKept_lifted (os : Os) (started : os.Started) (H : Type) (enc : TypeId × Value → H) :
    ReturnsInHanded {} Try.checked os 5 .any (Rows.vecKeptSpec.pre6 enc Try.prog Try.f5 Rows.vecKeptRow.domain false) (Rows.vecKeptSpec.post enc Try.prog Try.f5 false true false false) :=
  flat_lifted (C := Try.checked) (tb := 4) vecKept_own started (by kernel_rfl) vecKept_func
    (ChangeSpec.witness6 (enc := enc) (C := Try.checked) false ⟨#[], #[.agg #[.int .i64 0, .int .i64 0, .int .i64 0, .int .i64 0, .int .i64 0, .int .i64 0], .agg #[.int .i64 0, .int .i64 0, .int .i64 0, .int .i64 0, .int .i64 0, .int .i64 0], .int .i64 0, .agg #[.int .i64 0, .int .i64 0]], []⟩ 8 (by kernel_rfl) (by kernel_rfl) (by kernel_rfl) (by kernel_rfl))
    vecKept_laid vecKept_flat rfl (by kernel_rfl) vecKept_bool
    (fun W vs ds ps h => by
      have hl := trodAll_len h
      match ds, hl with
      | [d0, d1, d2, d3], _ => rfl)
    ok_law02_VecKept vecKept_all

theorem vecKept_holds : Rows.VecKeptSaid :=
  OpenClaim.holds_of_wide 5 Try.f5 rfl rfl rfl rfl rfl rfl rfl ⟨rfl, rfl, rfl, rfl, rfl⟩ rfl rfl rfl rfl rfl (by kernel_rfl) vecKept_func (by kernel_rfl)
    (of_decide_eq_true (by kernel_rfl)) (by unfold Func.isWrapper; first | (rw [if_pos (by decide +kernel)]; kernel_rfl) | (rw [if_neg (by decide +kernel)]; exact ⟨rfl, rfl⟩))
    (fun os started H enc _ => vecKept_lifted os started H enc)
#print axioms vecKept_holds

end Go.Proofs.Ytpfmnmcpffajeaa.V
