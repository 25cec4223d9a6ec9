/-
  Contracts, printed by a program of this session (wip/tool/sym.py) from the unit text vk2: what each function comes to, and its proof.
-/
import Derived.Test.YtpfmnmcpffajeaaVk1
import Derived.Test.YtpfmnmcpffajeaaProg
set_option linter.unusedVariables false
set_option linter.unusedSimpArgs false
set_option maxRecDepth 100000
namespace Go.Proofs.Ytpfmnmcpffajeaa.V
open Go Go.RowKit
open Go.IntKind (u64 i64 u8 i32 u32)


theorem rat_pyth {x y H : Int} (h : H ≠ 0) (e : x * x + y * y = H * H) : rat x H * rat x H + rat y H * rat y H = 1 := by
  have h1 : (H : Rat) ≠ 0 := by exact_mod_cast h
  have e1 : (x : Rat) * x + y * y = H * H := by exact_mod_cast e
  unfold rat; grind
theorem rat_one_sub {N D : Int} (h : D ≠ 0) : rat 1 1 - rat N D = rat (D - N) D := by
  have h1 : (D : Rat) ≠ 0 := by exact_mod_cast h
  unfold rat; rw [Rat.intCast_sub]; grind
theorem rat_one_add {N D : Int} (h : D ≠ 0) : rat 1 1 + rat N D = rat (D + N) D := by
  have h1 : (D : Rat) ≠ 0 := by exact_mod_cast h
  unfold rat; rw [Rat.intCast_add]; grind
theorem rat_div_same {x H D : Int} (h : D ≠ 0) (k : H ≠ 0) : rat x D / rat H D = rat x H := by
  have h1 : (D : Rat) ≠ 0 := by exact_mod_cast h
  have h2 : (H : Rat) ≠ 0 := by exact_mod_cast k
  unfold rat; grind
theorem rat_twice (n d : Int) (h : d ≠ 0) : rat n d + rat n d = rat (2 * n * d) (d * d) := by
  have h1 : (d : Rat) ≠ 0 := by exact_mod_cast h
  unfold rat; rw [Rat.intCast_mul, Rat.intCast_mul, Rat.intCast_mul]; grind
theorem sq_nonneg' (n : Int) : 0 ≤ n * n := by
  rcases Int.le_total 0 n with h | h
  · exact Int.mul_nonneg h h
  · exact Int.mul_nonneg_of_nonpos_of_nonpos h h
theorem rat_n0 {N D H K : Int} (hD : D ≠ 0) (hH : H ≠ 0) (hK : K ≠ 0) (e : rat N K = rat H D) : N ≠ 0 := by
  rintro rfl
  have h1 : (D : Rat) ≠ 0 := by exact_mod_cast hD
  have h2 : (H : Rat) ≠ 0 := by exact_mod_cast hH
  have h3 : (K : Rat) ≠ 0 := by exact_mod_cast hK
  unfold rat at e
  apply h2
  have : ((0 : Int) : Rat) = 0 := rfl
  rw [this] at e
  grind
theorem turn_sm {n d : Int} (h : okS n d) (h1 : -20 ≤ n) (h2 : n ≤ 20) :
    (turnF n d).e = 0 ∧ (turnF n d).one = 1 ∧ okF (turnF n d).cn (turnF n d).cd ∧ okF (turnF n d).sn (turnF n d).sd ∧
    rat (turnF n d).cn (turnF n d).cd * rat (turnF n d).cn (turnF n d).cd + rat (turnF n d).sn (turnF n d).sd * rat (turnF n d).sn (turnF n d).sd = 1 := by
  obtain ⟨o, _, _, d2⟩ := h
  have d1 := o.1.1
  have o1 : okF 1 1 := by decide +kernel
  have nn := sq_nonneg' n
  have n4 := natAbs_mul_le (a := n) (b := n) (A := 20) (B := 20) (by omega) (by omega)
  obtain ⟨p1, p2⟩ := pos_mul_le (b := d) (d := d) (B := 20) (D := 20) (by omega) d2 (by omega) d2
  have nd := natAbs_mul_le (a := 2 * n) (b := d) (A := 40) (B := 20) (by omega) (by omega)
  have hq : mulF n d n d = ofRat (rat (n * n) (d * d)) := by unfold mulF; rw [if_pos ⟨o, o⟩, rat_mul2 (by omega) (by omega)]
  have htw : addF n d n d = ofRat (rat (2 * n * d) (d * d)) := by unfold addF; rw [if_pos ⟨o, o⟩, rat_twice n d (by omega)]
  have py : (d * d - n * n) * (d * d - n * n) + (2 * n * d) * (2 * n * d) = (d * d + n * n) * (d * d + n * n) := by grind
  generalize n * n = N at *
  generalize 2 * n * d = W at *
  generalize d * d = D at *
  have qe := (ofRat_bound (N := N) (D := D) p1 (by omega) (by omega)).1
  have te := (ofRat_bound (N := W) (D := D) p1 (by omega) (by omega)).1
  have le := (ofRat_bound (N := D - N) (D := D) p1 (by omega) (by omega)).1
  have he := (ofRat_bound (N := D + N) (D := D) p1 (by omega) (by omega)).1
  have ce := (ofRat_bound (N := D - N) (D := D + N) (by omega) (by omega) (by omega)).1
  have se := (ofRat_bound (N := W) (D := D + N) (by omega) (by omega) (by omega)).1
  obtain ⟨qr, qo⟩ := ofRat_ok qe
  obtain ⟨tr, to⟩ := ofRat_ok te
  obtain ⟨lr, lo⟩ := ofRat_ok le
  obtain ⟨hr, ho⟩ := ofRat_ok he
  obtain ⟨cr, co⟩ := ofRat_ok ce
  obtain ⟨sr, so⟩ := ofRat_ok se
  have hlo : subF 1 1 (ofRat (rat N D)).n (ofRat (rat N D)).d = ofRat (rat (D - N) D) := by unfold subF; rw [if_pos ⟨o1, qo⟩, qr, rat_one_sub (by omega)]
  have hhi : addF 1 1 (ofRat (rat N D)).n (ofRat (rat N D)).d = ofRat (rat (D + N) D) := by unfold addF; rw [if_pos ⟨o1, qo⟩, qr, rat_one_add (by omega)]
  have hn0 : (ofRat (rat (D + N) D)).n ≠ 0 := rat_n0 (by omega) (by omega) (by have := ho.1.1; omega) hr
  have hc : divF (ofRat (rat (D - N) D)).n (ofRat (rat (D - N) D)).d (ofRat (rat (D + N) D)).n (ofRat (rat (D + N) D)).d = ofRat (rat (D - N) (D + N)) := by
    unfold divF; rw [if_pos ⟨lo, ho⟩, if_neg hn0, lr, hr, rat_div_same (by omega) (by omega)]
  have hs : divF (ofRat (rat W D)).n (ofRat (rat W D)).d (ofRat (rat (D + N) D)).n (ofRat (rat (D + N) D)).d = ofRat (rat W (D + N)) := by
    unfold divF; rw [if_pos ⟨to, ho⟩, if_neg hn0, tr, hr, rat_div_same (by omega) (by omega)]
  have hT : turnF n d = ⟨(ofRat (rat (D - N) (D + N))).n, (ofRat (rat (D - N) (D + N))).d, (ofRat (rat W (D + N))).n, (ofRat (rat W (D + N))).d, 1, 0⟩ := by
    unfold turnF
    rw [if_pos o, hq, hlo, hhi, htw, hc, hs, if_neg (by simp [qe]), if_neg (by simp [le, he]), if_neg (by simp [ce, te]), if_neg (by simp [se])]
  rw [hT]
  refine ⟨rfl, rfl, co, so, ?_⟩
  simp only
  rw [cr, sr]
  exact rat_pyth (by omega) py
theorem turn_rot {x : Int} {T : TRn} (hx : x = 0 ∨ x = 1 ∨ x = 2) (h1 : T.one = 1) (oc : okF T.cn T.cd) (os : okF T.sn T.sd) (py : rat T.cn T.cd * rat T.cn T.cd + rat T.sn T.sd * rat T.sn T.sd = 1) :
    okM (tN x 0 0 T) (tD x 0 0 T) (tN x 0 1 T) (tD x 0 1 T) (tN x 0 2 T) (tD x 0 2 T) (tN x 1 0 T) (tD x 1 0 T) (tN x 1 1 T) (tD x 1 1 T) (tN x 1 2 T) (tD x 1 2 T) (tN x 2 0 T) (tD x 2 0 T) (tN x 2 1 T) (tD x 2 1 T) (tN x 2 2 T) (tD x 2 2 T) ∧ Rot (rat (tN x 0 0 T) (tD x 0 0 T)) (rat (tN x 0 1 T) (tD x 0 1 T)) (rat (tN x 0 2 T) (tD x 0 2 T)) (rat (tN x 1 0 T) (tD x 1 0 T)) (rat (tN x 1 1 T) (tD x 1 1 T)) (rat (tN x 1 2 T) (tD x 1 2 T)) (rat (tN x 2 0 T) (tD x 2 0 T)) (rat (tN x 2 1 T) (tD x 2 1 T)) (rat (tN x 2 2 T) (tD x 2 2 T)) := by
  have w : i64.wrap (-T.sn) = -T.sn := by
    obtain ⟨⟨h1, h2, h3, h4⟩, _⟩ := os
    rw [wrap_i64 (by omega) (by omega)]
  have o1 : okF 1 1 := by decide +kernel
  have o0 : okF 0 1 := by decide +kernel
  have on := okF_neg os
  have r1 : rat 1 1 = 1 := by kernel_rfl
  have r0 : rat 0 1 = 0 := by kernel_rfl
  rcases hx with rfl | rfl | rfl <;> simp [tN, tD, w, h1, rat_neg, r1, r0] <;> refine ⟨?_, ?_⟩
  · unfold okM okV; simp [o1, o0, oc, os, on]
  · constructor <;> grind
  · unfold okM okV; simp [o1, o0, oc, os, on]
  · constructor <;> grind
  · unfold okM okV; simp [o1, o0, oc, os, on]
  · constructor <;> grind
theorem rat_inj {a b c d : Int} (h : okF a b) (k : okF c d) (e : rat a b = rat c d) : a = c ∧ b = d := by
  have := ofRat_rat h
  rw [e, ofRat_rat k] at this
  injection this with h1 h2 _
  exact ⟨h1.symm, h2.symm⟩
theorem okF_I64 {a b : Int} (h : okF a b) : I64 a ∧ I64 b := by
  obtain ⟨⟨h1, h2, h3, h4⟩, _⟩ := h
  unfold I64; omega
theorem okV_I64 {a b c d e f : Int} (h : okV a b c d e f) : (I64 a ∧ I64 b) ∧ (I64 c ∧ I64 d) ∧ I64 e ∧ I64 f := ⟨okF_I64 h.1, okF_I64 h.2.1, okF_I64 h.2.2⟩

theorem applyF_range (m00n m00d m01n m01d m02n m02d m10n m10d m11n m11d m12n m12d m20n m20d m21n m21d m22n m22d a b c d e f : Int) : VRange (applyF m00n m00d m01n m01d m02n m02d m10n m10d m11n m11d m12n m12d m20n m20d m21n m21d m22n m22d a b c d e f) := by
  unfold applyF; split
  · exact each3_range (dotF_range ..) (dotF_range ..) (dotF_range ..)
  · exact badV_range
theorem kept_all {m00n m00d m01n m01d m02n m02d m10n m10d m11n m11d m12n m12d m20n m20d m21n m21d m22n m22d a b c d e f p q r s t u : Int} (hM : okM m00n m00d m01n m01d m02n m02d m10n m10d m11n m11d m12n m12d m20n m20d m21n m21d m22n m22d) (R : Rot (rat m00n m00d) (rat m01n m01d) (rat m02n m02d) (rat m10n m10d) (rat m11n m11d) (rat m12n m12d) (rat m20n m20d) (rat m21n m21d) (rat m22n m22d)) (hv : okV a b c d e f) (hw : okV p q r s t u)
    (eA : (applyF m00n m00d m01n m01d m02n m02d m10n m10d m11n m11d m12n m12d m20n m20d m21n m21d m22n m22d a b c d e f).er = 0) (eB : (applyF m00n m00d m01n m01d m02n m02d m10n m10d m11n m11d m12n m12d m20n m20d m21n m21d m22n m22d p q r s t u).er = 0) (eX : (dotV a b c d e f p q r s t u).e = 0) (eY : (dotV (applyF m00n m00d m01n m01d m02n m02d m10n m10d m11n m11d m12n m12d m20n m20d m21n m21d m22n m22d a b c d e f).a (applyF m00n m00d m01n m01d m02n m02d m10n m10d m11n m11d m12n m12d m20n m20d m21n m21d m22n m22d a b c d e f).b (applyF m00n m00d m01n m01d m02n m02d m10n m10d m11n m11d m12n m12d m20n m20d m21n m21d m22n m22d a b c d e f).c (applyF m00n m00d m01n m01d m02n m02d m10n m10d m11n m11d m12n m12d m20n m20d m21n m21d m22n m22d a b c d e f).d (applyF m00n m00d m01n m01d m02n m02d m10n m10d m11n m11d m12n m12d m20n m20d m21n m21d m22n m22d a b c d e f).e (applyF m00n m00d m01n m01d m02n m02d m10n m10d m11n m11d m12n m12d m20n m20d m21n m21d m22n m22d a b c d e f).f (applyF m00n m00d m01n m01d m02n m02d m10n m10d m11n m11d m12n m12d m20n m20d m21n m21d m22n m22d p q r s t u).a (applyF m00n m00d m01n m01d m02n m02d m10n m10d m11n m11d m12n m12d m20n m20d m21n m21d m22n m22d p q r s t u).b (applyF m00n m00d m01n m01d m02n m02d m10n m10d m11n m11d m12n m12d m20n m20d m21n m21d m22n m22d p q r s t u).c (applyF m00n m00d m01n m01d m02n m02d m10n m10d m11n m11d m12n m12d m20n m20d m21n m21d m22n m22d p q r s t u).d (applyF m00n m00d m01n m01d m02n m02d m10n m10d m11n m11d m12n m12d m20n m20d m21n m21d m22n m22d p q r s t u).e (applyF m00n m00d m01n m01d m02n m02d m10n m10d m11n m11d m12n m12d m20n m20d m21n m21d m22n m22d p q r s t u).f).e = 0) (eU : (applyF m00n m00d m10n m10d m20n m20d m01n m01d m11n m11d m21n m21d m02n m02d m12n m12d m22n m22d (applyF m00n m00d m01n m01d m02n m02d m10n m10d m11n m11d m12n m12d m20n m20d m21n m21d m22n m22d a b c d e f).a (applyF m00n m00d m01n m01d m02n m02d m10n m10d m11n m11d m12n m12d m20n m20d m21n m21d m22n m22d a b c d e f).b (applyF m00n m00d m01n m01d m02n m02d m10n m10d m11n m11d m12n m12d m20n m20d m21n m21d m22n m22d a b c d e f).c (applyF m00n m00d m01n m01d m02n m02d m10n m10d m11n m11d m12n m12d m20n m20d m21n m21d m22n m22d a b c d e f).d (applyF m00n m00d m01n m01d m02n m02d m10n m10d m11n m11d m12n m12d m20n m20d m21n m21d m22n m22d a b c d e f).e (applyF m00n m00d m01n m01d m02n m02d m10n m10d m11n m11d m12n m12d m20n m20d m21n m21d m22n m22d a b c d e f).f).er = 0) :
    dotV a b c d e f p q r s t u = dotV (applyF m00n m00d m01n m01d m02n m02d m10n m10d m11n m11d m12n m12d m20n m20d m21n m21d m22n m22d a b c d e f).a (applyF m00n m00d m01n m01d m02n m02d m10n m10d m11n m11d m12n m12d m20n m20d m21n m21d m22n m22d a b c d e f).b (applyF m00n m00d m01n m01d m02n m02d m10n m10d m11n m11d m12n m12d m20n m20d m21n m21d m22n m22d a b c d e f).c (applyF m00n m00d m01n m01d m02n m02d m10n m10d m11n m11d m12n m12d m20n m20d m21n m21d m22n m22d a b c d e f).d (applyF m00n m00d m01n m01d m02n m02d m10n m10d m11n m11d m12n m12d m20n m20d m21n m21d m22n m22d a b c d e f).e (applyF m00n m00d m01n m01d m02n m02d m10n m10d m11n m11d m12n m12d m20n m20d m21n m21d m22n m22d a b c d e f).f (applyF m00n m00d m01n m01d m02n m02d m10n m10d m11n m11d m12n m12d m20n m20d m21n m21d m22n m22d p q r s t u).a (applyF m00n m00d m01n m01d m02n m02d m10n m10d m11n m11d m12n m12d m20n m20d m21n m21d m22n m22d p q r s t u).b (applyF m00n m00d m01n m01d m02n m02d m10n m10d m11n m11d m12n m12d m20n m20d m21n m21d m22n m22d p q r s t u).c (applyF m00n m00d m01n m01d m02n m02d m10n m10d m11n m11d m12n m12d m20n m20d m21n m21d m22n m22d p q r s t u).d (applyF m00n m00d m01n m01d m02n m02d m10n m10d m11n m11d m12n m12d m20n m20d m21n m21d m22n m22d p q r s t u).e (applyF m00n m00d m01n m01d m02n m02d m10n m10d m11n m11d m12n m12d m20n m20d m21n m21d m22n m22d p q r s t u).f ∧ ((applyF m00n m00d m10n m10d m20n m20d m01n m01d m11n m11d m21n m21d m02n m02d m12n m12d m22n m22d (applyF m00n m00d m01n m01d m02n m02d m10n m10d m11n m11d m12n m12d m20n m20d m21n m21d m22n m22d a b c d e f).a (applyF m00n m00d m01n m01d m02n m02d m10n m10d m11n m11d m12n m12d m20n m20d m21n m21d m22n m22d a b c d e f).b (applyF m00n m00d m01n m01d m02n m02d m10n m10d m11n m11d m12n m12d m20n m20d m21n m21d m22n m22d a b c d e f).c (applyF m00n m00d m01n m01d m02n m02d m10n m10d m11n m11d m12n m12d m20n m20d m21n m21d m22n m22d a b c d e f).d (applyF m00n m00d m01n m01d m02n m02d m10n m10d m11n m11d m12n m12d m20n m20d m21n m21d m22n m22d a b c d e f).e (applyF m00n m00d m01n m01d m02n m02d m10n m10d m11n m11d m12n m12d m20n m20d m21n m21d m22n m22d a b c d e f).f).a = a ∧ (applyF m00n m00d m10n m10d m20n m20d m01n m01d m11n m11d m21n m21d m02n m02d m12n m12d m22n m22d (applyF m00n m00d m01n m01d m02n m02d m10n m10d m11n m11d m12n m12d m20n m20d m21n m21d m22n m22d a b c d e f).a (applyF m00n m00d m01n m01d m02n m02d m10n m10d m11n m11d m12n m12d m20n m20d m21n m21d m22n m22d a b c d e f).b (applyF m00n m00d m01n m01d m02n m02d m10n m10d m11n m11d m12n m12d m20n m20d m21n m21d m22n m22d a b c d e f).c (applyF m00n m00d m01n m01d m02n m02d m10n m10d m11n m11d m12n m12d m20n m20d m21n m21d m22n m22d a b c d e f).d (applyF m00n m00d m01n m01d m02n m02d m10n m10d m11n m11d m12n m12d m20n m20d m21n m21d m22n m22d a b c d e f).e (applyF m00n m00d m01n m01d m02n m02d m10n m10d m11n m11d m12n m12d m20n m20d m21n m21d m22n m22d a b c d e f).f).b = b) ∧ ((applyF m00n m00d m10n m10d m20n m20d m01n m01d m11n m11d m21n m21d m02n m02d m12n m12d m22n m22d (applyF m00n m00d m01n m01d m02n m02d m10n m10d m11n m11d m12n m12d m20n m20d m21n m21d m22n m22d a b c d e f).a (applyF m00n m00d m01n m01d m02n m02d m10n m10d m11n m11d m12n m12d m20n m20d m21n m21d m22n m22d a b c d e f).b (applyF m00n m00d m01n m01d m02n m02d m10n m10d m11n m11d m12n m12d m20n m20d m21n m21d m22n m22d a b c d e f).c (applyF m00n m00d m01n m01d m02n m02d m10n m10d m11n m11d m12n m12d m20n m20d m21n m21d m22n m22d a b c d e f).d (applyF m00n m00d m01n m01d m02n m02d m10n m10d m11n m11d m12n m12d m20n m20d m21n m21d m22n m22d a b c d e f).e (applyF m00n m00d m01n m01d m02n m02d m10n m10d m11n m11d m12n m12d m20n m20d m21n m21d m22n m22d a b c d e f).f).c = c ∧ (applyF m00n m00d m10n m10d m20n m20d m01n m01d m11n m11d m21n m21d m02n m02d m12n m12d m22n m22d (applyF m00n m00d m01n m01d m02n m02d m10n m10d m11n m11d m12n m12d m20n m20d m21n m21d m22n m22d a b c d e f).a (applyF m00n m00d m01n m01d m02n m02d m10n m10d m11n m11d m12n m12d m20n m20d m21n m21d m22n m22d a b c d e f).b (applyF m00n m00d m01n m01d m02n m02d m10n m10d m11n m11d m12n m12d m20n m20d m21n m21d m22n m22d a b c d e f).c (applyF m00n m00d m01n m01d m02n m02d m10n m10d m11n m11d m12n m12d m20n m20d m21n m21d m22n m22d a b c d e f).d (applyF m00n m00d m01n m01d m02n m02d m10n m10d m11n m11d m12n m12d m20n m20d m21n m21d m22n m22d a b c d e f).e (applyF m00n m00d m01n m01d m02n m02d m10n m10d m11n m11d m12n m12d m20n m20d m21n m21d m22n m22d a b c d e f).f).d = d) ∧ (applyF m00n m00d m10n m10d m20n m20d m01n m01d m11n m11d m21n m21d m02n m02d m12n m12d m22n m22d (applyF m00n m00d m01n m01d m02n m02d m10n m10d m11n m11d m12n m12d m20n m20d m21n m21d m22n m22d a b c d e f).a (applyF m00n m00d m01n m01d m02n m02d m10n m10d m11n m11d m12n m12d m20n m20d m21n m21d m22n m22d a b c d e f).b (applyF m00n m00d m01n m01d m02n m02d m10n m10d m11n m11d m12n m12d m20n m20d m21n m21d m22n m22d a b c d e f).c (applyF m00n m00d m01n m01d m02n m02d m10n m10d m11n m11d m12n m12d m20n m20d m21n m21d m22n m22d a b c d e f).d (applyF m00n m00d m01n m01d m02n m02d m10n m10d m11n m11d m12n m12d m20n m20d m21n m21d m22n m22d a b c d e f).e (applyF m00n m00d m01n m01d m02n m02d m10n m10d m11n m11d m12n m12d m20n m20d m21n m21d m22n m22d a b c d e f).f).e = e ∧ (applyF m00n m00d m10n m10d m20n m20d m01n m01d m11n m11d m21n m21d m02n m02d m12n m12d m22n m22d (applyF m00n m00d m01n m01d m02n m02d m10n m10d m11n m11d m12n m12d m20n m20d m21n m21d m22n m22d a b c d e f).a (applyF m00n m00d m01n m01d m02n m02d m10n m10d m11n m11d m12n m12d m20n m20d m21n m21d m22n m22d a b c d e f).b (applyF m00n m00d m01n m01d m02n m02d m10n m10d m11n m11d m12n m12d m20n m20d m21n m21d m22n m22d a b c d e f).c (applyF m00n m00d m01n m01d m02n m02d m10n m10d m11n m11d m12n m12d m20n m20d m21n m21d m22n m22d a b c d e f).d (applyF m00n m00d m01n m01d m02n m02d m10n m10d m11n m11d m12n m12d m20n m20d m21n m21d m22n m22d a b c d e f).e (applyF m00n m00d m01n m01d m02n m02d m10n m10d m11n m11d m12n m12d m20n m20d m21n m21d m22n m22d a b c d e f).f).f = f := by
  obtain ⟨oA, a0, a1, a2⟩ := apply_val hM hv eA
  obtain ⟨oB, b0, b1, b2⟩ := apply_val hM hw eB
  obtain ⟨oU, u0, u1, u2⟩ := apply_val (flip_ok hM) oA eU
  rw [a0, a1, a2] at u0 u1 u2
  obtain ⟨z0, z1, z2⟩ := R.undo (rat a b) (rat c d) (rat e f)
  rw [z0] at u0
  rw [z1] at u1
  rw [z2] at u2
  have vX := val_dot hv hw
  have vY := val_dot oA oB
  rw [a0, a1, a2, b0, b1, b2, R.dot] at vY
  rw [dotV_ok hv hw] at eX ⊢
  rw [dotV_ok oA oB] at eY ⊢
  exact ⟨(vX.ok eX).1.trans (vY.ok eY).1.symm, rat_inj oU.1 hv.1 u0, rat_inj oU.2.1 hv.2.1 u1, rat_inj oU.2.2 hv.2.2 u2⟩

end Go.Proofs.Ytpfmnmcpffajeaa.V
