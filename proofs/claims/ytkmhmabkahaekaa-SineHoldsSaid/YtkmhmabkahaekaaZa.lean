/-
  Rational points of the circle, their powers, and how near computed ones are.
-/
set_option linter.unusedVariables false
namespace Go.Proofs.Ytkmhmabkahaekaa.V
namespace Zz
theorem sq_nonneg (x : Rat) : 0 ≤ x * x := by
  rcases Rat.le_total (a := 0) (b := x) with h | h
  · exact Rat.mul_nonneg h h
  · have : x * x = (-x) * (-x) := by grind
    rw [this]; exact Rat.mul_nonneg (by grind) (by grind)
theorem le_of_sq {x r : Rat} (hr : 0 ≤ r) (h : x * x ≤ r * r) : x ≤ r := by
  apply Classical.byContradiction
  intro hn
  have h2 : 0 < x := by grind
  have h3 : 0 ≤ r * (x - r) := Rat.mul_nonneg hr (by grind)
  have h4 : 0 < x * (x - r) := Rat.mul_pos h2 (by grind)
  grind
theorem abs_of_sq {x r : Rat} (hr : 0 ≤ r) (h : x * x ≤ r * r) : -r ≤ x ∧ x ≤ r := by
  have a := le_of_sq hr h
  have b := le_of_sq (x := -x) hr (by grind)
  grind
theorem mul_self_le {a b : Rat} (ha : 0 ≤ a) (h : a ≤ b) : a * a ≤ b * b := by
  have h1 : 0 ≤ a * (b - a) := Rat.mul_nonneg ha (by grind)
  have h2 : 0 ≤ b * (b - a) := Rat.mul_nonneg (by grind) (by grind)
  grind
/-- The length of a sum. -/
theorem tri {x y u v a b : Rat} (ha : 0 ≤ a) (hb : 0 ≤ b) (h : x * x + y * y ≤ a * a) (k : u * u + v * v ≤ b * b) : (x + u) * (x + u) + (y + v) * (y + v) ≤ (a + b) * (a + b) := by
  have d : (x * u + y * v) * (x * u + y * v) ≤ (a * b) * (a * b) := by
    have e : (x * u + y * v) * (x * u + y * v) + (x * v - y * u) * (x * v - y * u) = (x * x + y * y) * (u * u + v * v) := by grind
    have n := sq_nonneg (x * v - y * u)
    have p1 : 0 ≤ (a * a - (x * x + y * y)) * (u * u + v * v) := Rat.mul_nonneg (by grind) (by have := sq_nonneg u; have := sq_nonneg v; grind)
    have p2 : 0 ≤ (a * a) * (b * b - (u * u + v * v)) := Rat.mul_nonneg (sq_nonneg a) (by grind)
    grind
  have := le_of_sq (Rat.mul_nonneg ha hb) d
  grind
/-- Powers of a point. -/
def pw (c s : Rat) : Nat → Rat × Rat
  | 0 => (1, 0)
  | j + 1 => ((pw c s j).1 * c - (pw c s j).2 * s, (pw c s j).2 * c + (pw c s j).1 * s)
theorem pw_unit {c s : Rat} (h : c * c + s * s = 1) : ∀ j, (pw c s j).1 * (pw c s j).1 + (pw c s j).2 * (pw c s j).2 = 1
  | 0 => by simp [pw]; grind
  | j + 1 => by
    have := pw_unit h j
    simp only [pw]; grind
theorem pw_add (c s : Rat) (j : Nat) : ∀ k, pw c s (j + k) = ((pw c s j).1 * (pw c s k).1 - (pw c s j).2 * (pw c s k).2, (pw c s j).2 * (pw c s k).1 + (pw c s j).1 * (pw c s k).2)
  | 0 => by
    simp only [Nat.add_zero, pw]
    ext <;> grind
  | k + 1 => by
    have := pw_add c s j k
    rw [Nat.add_succ]
    simp only [pw]
    rw [this]
    ext <;> simp only <;> grind
theorem pw_le {c s : Rat} (h : c * c + s * s = 1) (j : Nat) : (-1 ≤ (pw c s j).1 ∧ (pw c s j).1 ≤ 1) ∧ -1 ≤ (pw c s j).2 ∧ (pw c s j).2 ≤ 1 := by
  have u := pw_unit h j
  have a := abs_of_sq (x := (pw c s j).1) (r := 1) (by grind) (by have := sq_nonneg (pw c s j).2; grind)
  have b := abs_of_sq (x := (pw c s j).2) (r := 1) (by grind) (by have := sq_nonneg (pw c s j).1; grind)
  exact ⟨a, b⟩
/-- A computed power 'w' is within '2 j' of the power, at the scale 'S'. -/
def Err (c s S : Rat) (j : Nat) (wc ws : Rat) : Prop := (S * (pw c s j).1 - wc) * (S * (pw c s j).1 - wc) + (S * (pw c s j).2 - ws) * (S * (pw c s j).2 - ws) ≤ (2 * (j : Rat)) * (2 * (j : Rat))
theorem Err.zero (c s S : Rat) : Err c s S 0 S 0 := by
  unfold Err; simp only [pw]
  have : ((0 : Nat) : Rat) = 0 := rfl
  grind
theorem Err.rot {c s S : Rat} (h : c * c + s * s = 1) {j : Nat} {wc ws : Rat} (e : Err c s S j wc ws) :
    (S * (pw c s (j + 1)).1 - (wc * c - ws * s)) * (S * (pw c s (j + 1)).1 - (wc * c - ws * s)) + (S * (pw c s (j + 1)).2 - (ws * c + wc * s)) * (S * (pw c s (j + 1)).2 - (ws * c + wc * s)) ≤ (2 * (j : Rat)) * (2 * (j : Rat)) := by
  unfold Err at e
  simp only [pw]
  generalize (pw c s j).1 = x at *
  generalize (pw c s j).2 = y at *
  have : (S * (x * c - y * s) - (wc * c - ws * s)) * (S * (x * c - y * s) - (wc * c - ws * s)) + (S * (y * c + x * s) - (ws * c + wc * s)) * (S * (y * c + x * s) - (ws * c + wc * s)) = ((S * x - wc) * (S * x - wc) + (S * y - ws) * (S * y - ws)) * (c * c + s * s) := by grind
  rw [this, h]; grind
theorem Err.succ {c s S : Rat} (h : c * c + s * s = 1) {j : Nat} {wc ws vc vs : Rat} (e : Err c s S j wc ws) (h1 : vc ≤ wc * c - ws * s) (h2 : wc * c - ws * s ≤ vc + 1) (h3 : vs ≤ ws * c + wc * s) (h4 : ws * c + wc * s ≤ vs + 1) : Err c s S (j + 1) vc vs := by
  have r := e.rot h
  have j0 : (0 : Rat) ≤ (j : Rat) := by exact_mod_cast Nat.zero_le j
  have a1 : (wc * c - ws * s - vc) * (wc * c - ws * s - vc) ≤ 1 := by
    have := mul_self_le (a := wc * c - ws * s - vc) (b := 1) (by grind) (by grind); grind
  have a2 : (ws * c + wc * s - vs) * (ws * c + wc * s - vs) ≤ 1 := by
    have := mul_self_le (a := ws * c + wc * s - vs) (b := 1) (by grind) (by grind); grind
  have t := tri (a := 2 * (j : Rat)) (b := 2) (by grind) (by grind) r (u := wc * c - ws * s - vc) (v := ws * c + wc * s - vs) (by grind)
  unfold Err
  have ej : ((j + 1 : Nat) : Rat) = (j : Rat) + 1 := by push_cast; rfl
  rw [ej]
  generalize (pw c s (j + 1)).1 = x at *
  generalize (pw c s (j + 1)).2 = y at *
  have e1 : S * x - (wc * c - ws * s) + (wc * c - ws * s - vc) = S * x - vc := by grind
  have e2 : S * y - (ws * c + wc * s) + (ws * c + wc * s - vs) = S * y - vs := by grind
  rw [e1, e2] at t
  have e3 : 2 * ((j : Rat) + 1) = 2 * (j : Rat) + 2 := by grind
  rw [e3]; exact t
theorem Err.near {c s S : Rat} {j : Nat} {wc ws : Rat} (e : Err c s S j wc ws) : (-(2 * (j : Rat)) ≤ S * (pw c s j).1 - wc ∧ S * (pw c s j).1 - wc ≤ 2 * (j : Rat)) ∧ -(2 * (j : Rat)) ≤ S * (pw c s j).2 - ws ∧ S * (pw c s j).2 - ws ≤ 2 * (j : Rat) := by
  have j0 : (0 : Rat) ≤ (j : Rat) := by exact_mod_cast Nat.zero_le j
  unfold Err at e
  have a := abs_of_sq (x := S * (pw c s j).1 - wc) (r := 2 * (j : Rat)) (by grind) (by have := sq_nonneg (S * (pw c s j).2 - ws); grind)
  have b := abs_of_sq (x := S * (pw c s j).2 - ws) (r := 2 * (j : Rat)) (by grind) (by have := sq_nonneg (S * (pw c s j).1 - wc); grind)
  exact ⟨a, b⟩
/-- A product with what is nearly a quarter's turn. -/
theorem quarter {x y e f r : Rat} (hu : x * x + y * y = 1) (hr : 0 ≤ r) (he : -r ≤ e ∧ e ≤ r) (hf : -r ≤ f ∧ f ≤ r) : -(2 * r) ≤ x * e - y * f ∧ x * e - y * f ≤ 2 * r := by
  have hx := abs_of_sq (x := x) (r := 1) (by grind) (by have := sq_nonneg y; grind)
  have hy := abs_of_sq (x := y) (r := 1) (by grind) (by have := sq_nonneg x; grind)
  have key : ∀ {a b : Rat}, (-1 ≤ a ∧ a ≤ 1) → (-r ≤ b ∧ b ≤ r) → -r ≤ a * b ∧ a * b ≤ r := by
    intro a b ha hb
    have p1 : 0 ≤ (1 - a) * (r + b) := Rat.mul_nonneg (by grind) (by grind)
    have p2 : 0 ≤ (1 + a) * (r - b) := Rat.mul_nonneg (by grind) (by grind)
    have p3 : 0 ≤ (1 + a) * (r + b) := Rat.mul_nonneg (by grind) (by grind)
    have p4 : 0 ≤ (1 - a) * (r - b) := Rat.mul_nonneg (by grind) (by grind)
    grind
  have k1 := key hx he
  have k2 := key hy hf
  grind
/-- What lies in a box, multiplied, is at least the least product of corners. -/
theorem box_lo {a1 a2 c1 c2 x y m : Rat} (hx : a1 ≤ x ∧ x ≤ a2) (hy : c1 ≤ y ∧ y ≤ c2) (h1 : m ≤ a1 * c1) (h2 : m ≤ a1 * c2) (h3 : m ≤ a2 * c1) (h4 : m ≤ a2 * c2) : m ≤ x * y := by
  rcases Rat.le_total (a := 0) (b := y) with h | h
  · have p1 : 0 ≤ (x - a1) * y := Rat.mul_nonneg (by grind) h
    rcases Rat.le_total (a := 0) (b := a1) with k | k
    · have p2 : 0 ≤ a1 * (y - c1) := Rat.mul_nonneg k (by grind)
      grind
    · have p2 : 0 ≤ (-a1) * (c2 - y) := Rat.mul_nonneg (by grind) (by grind)
      grind
  · have p1 : 0 ≤ (a2 - x) * (-y) := Rat.mul_nonneg (by grind) (by grind)
    rcases Rat.le_total (a := 0) (b := a2) with k | k
    · have p2 : 0 ≤ a2 * (y - c1) := Rat.mul_nonneg k (by grind)
      grind
    · have p2 : 0 ≤ (-a2) * (c2 - y) := Rat.mul_nonneg (by grind) (by grind)
      grind
theorem box_hi {a1 a2 c1 c2 x y m : Rat} (hx : a1 ≤ x ∧ x ≤ a2) (hy : c1 ≤ y ∧ y ≤ c2) (h1 : a1 * c1 ≤ m) (h2 : a1 * c2 ≤ m) (h3 : a2 * c1 ≤ m) (h4 : a2 * c2 ≤ m) : x * y ≤ m := by
  have := box_lo (a1 := -a2) (a2 := -a1) (c1 := c1) (c2 := c2) (x := -x) (y := y) (m := -m) (by grind) hy (by grind) (by grind) (by grind) (by grind)
  grind
/-- The same where the numbers are near the box alone. -/
theorem box_near {a1 a2 c1 c2 x y m M t : Rat} (ht : 0 ≤ t) (hx : a1 - t ≤ x ∧ x ≤ a2 + t) (hy : c1 - t ≤ y ∧ y ≤ c2 + t) (ha : a1 ≤ a2) (hc : c1 ≤ c2) (hB : 0 ≤ M) (ba : -M ≤ a1 ∧ a2 ≤ M) (by' : -M ≤ y ∧ y ≤ M) (h1 : m ≤ a1 * c1) (h2 : m ≤ a1 * c2) (h3 : m ≤ a2 * c1) (h4 : m ≤ a2 * c2) : m - 2 * M * t ≤ x * y := by
  have clamp : ∀ {p q z : Rat}, p ≤ q → p - t ≤ z → z ≤ q + t → ∃ w, (p ≤ w ∧ w ≤ q) ∧ -t ≤ z - w ∧ z - w ≤ t := by
    intro p q z hpq h1 h2
    rcases Rat.le_total (a := z) (b := p) with h | h
    · exact ⟨p, by grind, by grind⟩
    · rcases Rat.le_total (a := z) (b := q) with k | k
      · exact ⟨z, by grind, by grind⟩
      · exact ⟨q, by grind, by grind⟩
  obtain ⟨x', hx', dx⟩ := clamp ha hx.1 hx.2
  obtain ⟨y', hy', dy⟩ := clamp hc hy.1 hy.2
  have b := box_lo hx' hy' h1 h2 h3 h4
  have key : ∀ {a b : Rat}, (-M ≤ a ∧ a ≤ M) → (-t ≤ b ∧ b ≤ t) → -(M * t) ≤ a * b ∧ a * b ≤ M * t := by
    intro a b ha hb
    have p1 : 0 ≤ (M - a) * (t + b) := Rat.mul_nonneg (by grind) (by grind)
    have p2 : 0 ≤ (M + a) * (t - b) := Rat.mul_nonneg (by grind) (by grind)
    have p3 : 0 ≤ (M + a) * (t + b) := Rat.mul_nonneg (by grind) (by grind)
    have p4 : 0 ≤ (M - a) * (t - b) := Rat.mul_nonneg (by grind) (by grind)
    grind
  have k1 := key (a := y) by' dx
  have k2 := key (a := x') (by grind) dy
  grind
end Zz
end Go.Proofs.Ytkmhmabkahaekaa.V
