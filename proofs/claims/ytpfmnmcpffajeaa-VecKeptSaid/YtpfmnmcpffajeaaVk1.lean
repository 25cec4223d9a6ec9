/-
  Contracts, printed by a program of this session (wip/tool/sym.py) from the unit text vk1: what each function comes to, and its proof.
-/
import Derived.Test.YtpfmnmcpffajeaaVc4
import Derived.Test.YtpfmnmcpffajeaaProg
set_option linter.unusedVariables false
set_option linter.unusedSimpArgs false
set_option maxRecDepth 100000
namespace Go.Proofs.Ytpfmnmcpffajeaa.V
open Go Go.RowKit
open Go.IntKind (u64 i64 u8 i32 u32)


/-! ### A turn is a rotation -/
structure Rot (a b c d e f g h i : Rat) : Prop where
  r00 : a * a + b * b + c * c = 1
  r11 : d * d + e * e + f * f = 1
  r22 : g * g + h * h + i * i = 1
  r01 : a * d + b * e + c * f = 0
  r02 : a * g + b * h + c * i = 0
  r12 : d * g + e * h + f * i = 0
  c00 : a * a + d * d + g * g = 1
  c11 : b * b + e * e + h * h = 1
  c22 : c * c + f * f + i * i = 1
  c01 : a * b + d * e + g * h = 0
  c02 : a * c + d * f + g * i = 0
  c12 : b * c + e * f + h * i = 0
  dt : a * (e * i - f * h) + b * (f * g - d * i) + c * (d * h - e * g) = 1
theorem Rot.dot {a b c d e f g h i : Rat} (R : Rot a b c d e f g h i) (x y z p q r : Rat) :
    0 + (0 + a * x + b * y + c * z) * (0 + a * p + b * q + c * r) + (0 + d * x + e * y + f * z) * (0 + d * p + e * q + f * r) + (0 + g * x + h * y + i * z) * (0 + g * p + h * q + i * r) = 0 + x * p + y * q + z * r := by
  have : 0 + (0 + a * x + b * y + c * z) * (0 + a * p + b * q + c * r) + (0 + d * x + e * y + f * z) * (0 + d * p + e * q + f * r) + (0 + g * x + h * y + i * z) * (0 + g * p + h * q + i * r) = x * p * (a * a + d * d + g * g) + y * q * (b * b + e * e + h * h) + z * r * (c * c + f * f + i * i) + (x * q + y * p) * (a * b + d * e + g * h) + (x * r + z * p) * (a * c + d * f + g * i) + (y * r + z * q) * (b * c + e * f + h * i) := by grind
  rw [this, R.c00, R.c11, R.c22, R.c01, R.c02, R.c12]
  grind
theorem Rot.undo {a b c d e f g h i : Rat} (R : Rot a b c d e f g h i) (x y z : Rat) :
    0 + a * (0 + a * x + b * y + c * z) + d * (0 + d * x + e * y + f * z) + g * (0 + g * x + h * y + i * z) = x ∧
    0 + b * (0 + a * x + b * y + c * z) + e * (0 + d * x + e * y + f * z) + h * (0 + g * x + h * y + i * z) = y ∧
    0 + c * (0 + a * x + b * y + c * z) + f * (0 + d * x + e * y + f * z) + i * (0 + g * x + h * y + i * z) = z := by
  refine ⟨?_, ?_, ?_⟩
  · have : 0 + a * (0 + a * x + b * y + c * z) + d * (0 + d * x + e * y + f * z) + g * (0 + g * x + h * y + i * z) = x * (a * a + d * d + g * g) + y * (a * b + d * e + g * h) + z * (a * c + d * f + g * i) := by grind
    rw [this, R.c00, R.c01, R.c02]; grind
  · have : 0 + b * (0 + a * x + b * y + c * z) + e * (0 + d * x + e * y + f * z) + h * (0 + g * x + h * y + i * z) = x * (a * b + d * e + g * h) + y * (b * b + e * e + h * h) + z * (b * c + e * f + h * i) := by grind
    rw [this, R.c11, R.c01, R.c12]; grind
  · have : 0 + c * (0 + a * x + b * y + c * z) + f * (0 + d * x + e * y + f * z) + i * (0 + g * x + h * y + i * z) = x * (a * c + d * f + g * i) + y * (b * c + e * f + h * i) + z * (c * c + f * f + i * i) := by grind
    rw [this, R.c22, R.c02, R.c12]; grind
theorem ofRat_rat {a b : Int} (h : okF a b) : ofRat (rat a b) = ⟨a, b, 0⟩ := by
  obtain ⟨⟨h1, h2, h3, h4⟩, h5⟩ := h
  rw [ofRat_lowest (by omega) h5, if_pos (by unfold inR; omega)]
theorem Val.to {f : FR} {q q' : Rat} (h : Val f q) (e : q = q') : Val f q' := e ▸ h
theorem Val.one {f : FR} (h : Val f 1) (e : f.e = 0) : f = ⟨1, 1, 0⟩ := by rw [(h.ok e).1]; kernel_rfl
theorem Val.zero {f : FR} (h : Val f 0) (e : f.e = 0) : f = ⟨0, 1, 0⟩ := by rw [(h.ok e).1]; kernel_rfl
theorem Val.rat {f : FR} {a b : Int} (h : Val f (rat a b)) (k : okF a b) (e : f.e = 0) : f = ⟨a, b, 0⟩ := by rw [(h.ok e).1, ofRat_rat k]
theorem each3_e {x y z : FR} (h : (each3 x y z).er = 0) : (x.e = 0 ∧ y.e = 0 ∧ z.e = 0) ∧ each3 x y z = ⟨x.n, x.d, y.n, y.d, z.n, z.d, 0⟩ := by
  by_cases h1 : x.e = 0 <;> by_cases h2 : y.e = 0 <;> by_cases h3 : z.e = 0 <;> simp [each3, h1, h2, h3] at h ⊢
theorem each3_16 {x y z : FR} {p q r : Rat} (hx : Val x p) (hy : Val y q) (hz : Val z r) : (each3 x y z).er = 0 ∨ (each3 x y z).er = 16 := by
  rcases hx.e with h1 | h1 <;> rcases hy.e with h2 | h2 <;> rcases hz.e with h3 | h3 <;> simp [each3, h1, h2, h3]
theorem nine_e {x00 x01 x02 x10 x11 x12 x20 x21 x22 : FR} (h : (nine x00 x01 x02 x10 x11 x12 x20 x21 x22).e = 0) :
    x00.e = 0 ∧ x01.e = 0 ∧ x02.e = 0 ∧ x10.e = 0 ∧ x11.e = 0 ∧ x12.e = 0 ∧ x20.e = 0 ∧ x21.e = 0 ∧ x22.e = 0 := by
  unfold nine at h
  split at h; · exact absurd h (by assumption)
  split at h; · exact absurd h (by assumption)
  split at h; · exact absurd h (by assumption)
  split at h; · exact absurd h (by assumption)
  split at h; · exact absurd h (by assumption)
  split at h; · exact absurd h (by assumption)
  split at h; · exact absurd h (by assumption)
  split at h; · exact absurd h (by assumption)
  split at h; · exact absurd h (by assumption)
  simp_all
theorem nine_16 {x00 x01 x02 x10 x11 x12 x20 x21 x22 : FR} (h00 : x00.e = 0 ∨ x00.e = 16) (h01 : x01.e = 0 ∨ x01.e = 16) (h02 : x02.e = 0 ∨ x02.e = 16) (h10 : x10.e = 0 ∨ x10.e = 16) (h11 : x11.e = 0 ∨ x11.e = 16) (h12 : x12.e = 0 ∨ x12.e = 16) (h20 : x20.e = 0 ∨ x20.e = 16) (h21 : x21.e = 0 ∨ x21.e = 16) (h22 : x22.e = 0 ∨ x22.e = 16) :
    (nine x00 x01 x02 x10 x11 x12 x20 x21 x22).e = 0 ∨ (nine x00 x01 x02 x10 x11 x12 x20 x21 x22).e = 16 := by
  unfold nine
  split; · exact h00
  split; · exact h01
  split; · exact h02
  split; · exact h10
  split; · exact h11
  split; · exact h12
  split; · exact h20
  split; · exact h21
  split; · exact h22
  exact .inl rfl
theorem Val.dotTo {f : FR} {q q' : Rat} (h : Val f q) (e : q = q') : Val f q' := e ▸ h

theorem apply_val {m00n m00d m01n m01d m02n m02d m10n m10d m11n m11d m12n m12d m20n m20d m21n m21d m22n m22d a b c d e f : Int} (hM : okM m00n m00d m01n m01d m02n m02d m10n m10d m11n m11d m12n m12d m20n m20d m21n m21d m22n m22d) (hv : okV a b c d e f) (h : (applyF m00n m00d m01n m01d m02n m02d m10n m10d m11n m11d m12n m12d m20n m20d m21n m21d m22n m22d a b c d e f).er = 0) :
    okV (applyF m00n m00d m01n m01d m02n m02d m10n m10d m11n m11d m12n m12d m20n m20d m21n m21d m22n m22d a b c d e f).a (applyF m00n m00d m01n m01d m02n m02d m10n m10d m11n m11d m12n m12d m20n m20d m21n m21d m22n m22d a b c d e f).b (applyF m00n m00d m01n m01d m02n m02d m10n m10d m11n m11d m12n m12d m20n m20d m21n m21d m22n m22d a b c d e f).c (applyF m00n m00d m01n m01d m02n m02d m10n m10d m11n m11d m12n m12d m20n m20d m21n m21d m22n m22d a b c d e f).d (applyF m00n m00d m01n m01d m02n m02d m10n m10d m11n m11d m12n m12d m20n m20d m21n m21d m22n m22d a b c d e f).e (applyF m00n m00d m01n m01d m02n m02d m10n m10d m11n m11d m12n m12d m20n m20d m21n m21d m22n m22d a b c d e f).f ∧ rat (applyF m00n m00d m01n m01d m02n m02d m10n m10d m11n m11d m12n m12d m20n m20d m21n m21d m22n m22d a b c d e f).a (applyF m00n m00d m01n m01d m02n m02d m10n m10d m11n m11d m12n m12d m20n m20d m21n m21d m22n m22d a b c d e f).b = 0 + rat m00n m00d * rat a b + rat m01n m01d * rat c d + rat m02n m02d * rat e f ∧ rat (applyF m00n m00d m01n m01d m02n m02d m10n m10d m11n m11d m12n m12d m20n m20d m21n m21d m22n m22d a b c d e f).c (applyF m00n m00d m01n m01d m02n m02d m10n m10d m11n m11d m12n m12d m20n m20d m21n m21d m22n m22d a b c d e f).d = 0 + rat m10n m10d * rat a b + rat m11n m11d * rat c d + rat m12n m12d * rat e f ∧ rat (applyF m00n m00d m01n m01d m02n m02d m10n m10d m11n m11d m12n m12d m20n m20d m21n m21d m22n m22d a b c d e f).e (applyF m00n m00d m01n m01d m02n m02d m10n m10d m11n m11d m12n m12d m20n m20d m21n m21d m22n m22d a b c d e f).f = 0 + rat m20n m20d * rat a b + rat m21n m21d * rat c d + rat m22n m22d * rat e f := by
  have v0 := val_dot hM.1 hv
  have v1 := val_dot hM.2.1 hv
  have v2 := val_dot hM.2.2 hv
  have e : (applyF m00n m00d m01n m01d m02n m02d m10n m10d m11n m11d m12n m12d m20n m20d m21n m21d m22n m22d a b c d e f) = each3 (dotF m00n m00d m01n m01d m02n m02d a b c d e f) (dotF m10n m10d m11n m11d m12n m12d a b c d e f) (dotF m20n m20d m21n m21d m22n m22d a b c d e f) := by unfold applyF; rw [if_pos ⟨hM, hv⟩]
  rw [e] at h ⊢
  obtain ⟨⟨e0, e1, e2⟩, k⟩ := each3_e h
  rw [k]
  obtain ⟨_, q0, o0⟩ := v0.ok e0
  obtain ⟨_, q1, o1⟩ := v1.ok e1
  obtain ⟨_, q2, o2⟩ := v2.ok e2
  exact ⟨⟨o0, o1, o2⟩, q0, q1, q2⟩
theorem flip_ok {m00n m00d m01n m01d m02n m02d m10n m10d m11n m11d m12n m12d m20n m20d m21n m21d m22n m22d : Int} (hM : okM m00n m00d m01n m01d m02n m02d m10n m10d m11n m11d m12n m12d m20n m20d m21n m21d m22n m22d) : okM m00n m00d m10n m10d m20n m20d m01n m01d m11n m11d m21n m21d m02n m02d m12n m12d m22n m22d := by
  unfold okM okV at *
  exact ⟨⟨hM.1.1, hM.2.1.1, hM.2.2.1⟩, ⟨hM.1.2.1, hM.2.1.2.1, hM.2.2.2.1⟩, ⟨hM.1.2.2, hM.2.1.2.2, hM.2.2.2.2⟩⟩
theorem is_rot {m00n m00d m01n m01d m02n m02d m10n m10d m11n m11d m12n m12d m20n m20d m21n m21d m22n m22d : Int} (hM : okM m00n m00d m01n m01d m02n m02d m10n m10d m11n m11d m12n m12d m20n m20d m21n m21d m22n m22d) (R : Rot (rat m00n m00d) (rat m01n m01d) (rat m02n m02d) (rat m10n m10d) (rat m11n m11d) (rat m12n m12d) (rat m20n m20d) (rat m21n m21d) (rat m22n m22d)) : (isF m00n m00d m01n m01d m02n m02d m10n m10d m11n m11d m12n m12d m20n m20d m21n m21d m22n m22d).e = 16 ∨ ((isF m00n m00d m01n m01d m02n m02d m10n m10d m11n m11d m12n m12d m20n m20d m21n m21d m22n m22d).e = 0 ∧ (isF m00n m00d m01n m01d m02n m02d m10n m10d m11n m11d m12n m12d m20n m20d m21n m21d m22n m22d).v = true) := by
  obtain ⟨r00, r11, r22, r01, r02, r12, -, -, -, -, -, -, dt⟩ := R
  have hp : prodF m00n m00d m01n m01d m02n m02d m10n m10d m11n m11d m12n m12d m20n m20d m21n m21d m22n m22d m00n m00d m10n m10d m20n m20d m01n m01d m11n m11d m21n m21d m02n m02d m12n m12d m22n m22d = nine (dotF m00n m00d m01n m01d m02n m02d m00n m00d m01n m01d m02n m02d) (dotF m00n m00d m01n m01d m02n m02d m10n m10d m11n m11d m12n m12d) (dotF m00n m00d m01n m01d m02n m02d m20n m20d m21n m21d m22n m22d) (dotF m10n m10d m11n m11d m12n m12d m00n m00d m01n m01d m02n m02d) (dotF m10n m10d m11n m11d m12n m12d m10n m10d m11n m11d m12n m12d) (dotF m10n m10d m11n m11d m12n m12d m20n m20d m21n m21d m22n m22d) (dotF m20n m20d m21n m21d m22n m22d m00n m00d m01n m01d m02n m02d) (dotF m20n m20d m21n m21d m22n m22d m10n m10d m11n m11d m12n m12d) (dotF m20n m20d m21n m21d m22n m22d m20n m20d m21n m21d m22n m22d) := by unfold prodF; rw [if_pos ⟨hM, flip_ok hM⟩]
  have v00 : Val (dotF m00n m00d m01n m01d m02n m02d m00n m00d m01n m01d m02n m02d) 1 := (val_dot hM.1 hM.1).to (by grind)
  have v01 : Val (dotF m00n m00d m01n m01d m02n m02d m10n m10d m11n m11d m12n m12d) 0 := (val_dot hM.1 hM.2.1).to (by grind)
  have v02 : Val (dotF m00n m00d m01n m01d m02n m02d m20n m20d m21n m21d m22n m22d) 0 := (val_dot hM.1 hM.2.2).to (by grind)
  have v10 : Val (dotF m10n m10d m11n m11d m12n m12d m00n m00d m01n m01d m02n m02d) 0 := (val_dot hM.2.1 hM.1).to (by grind)
  have v11 : Val (dotF m10n m10d m11n m11d m12n m12d m10n m10d m11n m11d m12n m12d) 1 := (val_dot hM.2.1 hM.2.1).to (by grind)
  have v12 : Val (dotF m10n m10d m11n m11d m12n m12d m20n m20d m21n m21d m22n m22d) 0 := (val_dot hM.2.1 hM.2.2).to (by grind)
  have v20 : Val (dotF m20n m20d m21n m21d m22n m22d m00n m00d m01n m01d m02n m02d) 0 := (val_dot hM.2.2 hM.1).to (by grind)
  have v21 : Val (dotF m20n m20d m21n m21d m22n m22d m10n m10d m11n m11d m12n m12d) 0 := (val_dot hM.2.2 hM.2.1).to (by grind)
  have v22 : Val (dotF m20n m20d m21n m21d m22n m22d m20n m20d m21n m21d m22n m22d) 1 := (val_dot hM.2.2 hM.2.2).to (by grind)
  have hP := nine_16 v00.e v01.e v02.e v10.e v11.e v12.e v20.e v21.e v22.e
  have hU : (prodF m00n m00d m01n m01d m02n m02d m10n m10d m11n m11d m12n m12d m20n m20d m21n m21d m22n m22d m00n m00d m10n m10d m20n m20d m01n m01d m11n m11d m21n m21d m02n m02d m12n m12d m22n m22d).e = 0 → isUnit (prodF m00n m00d m01n m01d m02n m02d m10n m10d m11n m11d m12n m12d m20n m20d m21n m21d m22n m22d m00n m00d m10n m10d m20n m20d m01n m01d m11n m11d m21n m21d m02n m02d m12n m12d m22n m22d) = true := by
    intro h
    rw [hp] at h ⊢
    obtain ⟨e00, e01, e02, e10, e11, e12, e20, e21, e22⟩ := nine_e h
    rw [v00.one e00, v01.zero e01, v02.zero e02, v10.zero e10, v11.one e11, v12.zero e12, v20.zero e20, v21.zero e21, v22.one e22]
    decide +kernel
  have hd : detF m00n m00d m01n m01d m02n m02d m10n m10d m11n m11d m12n m12d m20n m20d m21n m21d m22n m22d = dotC m00n m00d m01n m01d m02n m02d (crossF m10n m10d m11n m11d m12n m12d m20n m20d m21n m21d m22n m22d) := by unfold detF; rw [if_pos hM]
  have hc : crossF m10n m10d m11n m11d m12n m12d m20n m20d m21n m21d m22n m22d = each3 (twoF m11n m11d m22n m22d (-m12n) m12d m21n m21d) (twoF m12n m12d m20n m20d (-m10n) m10d m22n m22d) (twoF m10n m10d m21n m21d (-m11n) m11d m20n m20d) := by unfold crossF; rw [if_pos ⟨hM.2.1, hM.2.2⟩]
  have k0 := val_two hM.2.1.2.1 hM.2.2.2.2 hM.2.1.2.2 hM.2.2.2.1
  have k1 := val_two hM.2.1.2.2 hM.2.2.1 hM.2.1.1 hM.2.2.2.2
  have k2 := val_two hM.2.1.1 hM.2.2.2.1 hM.2.1.2.1 hM.2.2.1
  have hD : (detF m00n m00d m01n m01d m02n m02d m10n m10d m11n m11d m12n m12d m20n m20d m21n m21d m22n m22d).e = 16 ∨ detF m00n m00d m01n m01d m02n m02d m10n m10d m11n m11d m12n m12d m20n m20d m21n m21d m22n m22d = ⟨1, 1, 0⟩ := by
    rw [hd, hc]
    rcases each3_16 k0 k1 k2 with h | h
    · obtain ⟨⟨e0, e1, e2⟩, k⟩ := each3_e h
      unfold dotC
      rw [if_neg (by rw [h]; simp), k]
      obtain ⟨_, q0, o0⟩ := k0.ok e0
      obtain ⟨_, q1, o1⟩ := k1.ok e1
      obtain ⟨_, q2, o2⟩ := k2.ok e2
      have v := val_dot hM.1 (show okV _ _ _ _ _ _ from ⟨o0, o1, o2⟩)
      rw [q0, q1, q2] at v
      have v1 : Val _ 1 := v.to (by grind)
      rcases v1.e with h0 | h0
      · exact .inr (v1.one h0)
      · exact .inl h0
    · left; unfold dotC; rw [if_pos (by rw [h]; decide)]; exact h
  unfold isF
  rw [if_pos hM]
  rw [← hp] at hP
  generalize prodF m00n m00d m01n m01d m02n m02d m10n m10d m11n m11d m12n m12d m20n m20d m21n m21d m22n m22d m00n m00d m10n m10d m20n m20d m01n m01d m11n m11d m21n m21d m02n m02d m12n m12d m22n m22d = P at *
  rcases hP with h | h
  · rw [if_neg (by simp [h])]
    rcases hD with h2 | h2
    · left; rw [if_pos (by rw [h2]; decide)]; exact h2
    · right; rw [h2, if_neg (by simp), if_pos (hU h)]; simp
  · left; rw [if_pos (by rw [h]; decide)]; exact h

end Go.Proofs.Ytpfmnmcpffajeaa.V
