/-
  Contracts, printed by a program of this session (wip/tool/sym.py) from the unit text si6: what each function comes to, and its proof.
-/
import Derived.Test.YtkmhmabkahaekaaSi5
import Derived.Test.YtkmhmabkahaekaaProg
import Derived.Test.YtkmhmabkahaekaaZb
import Derived.Test.YtkmhmabkahaekaaVo
set_option linter.unusedVariables false
set_option linter.unusedSimpArgs false
set_option maxRecDepth 100000
namespace Go.Proofs.Ytkmhmabkahaekaa.V
open Go Go.RowKit


open Zz
def NearP (p : Int × Int) (x t : Rat) : Prop := Near ((p.1 : Int) : Rat) ((p.2 : Int) : Rat) x t
theorem NearP.neg {p : Int × Int} {x t : Rat} (h : NearP p x t) : NearP (negP p) (-x) t := by
  unfold NearP Near negP at *
  simp only
  push_cast
  grind
theorem NearP.move {p : Int × Int} {x y t d : Rat} (h : NearP p x t) (h1 : -d ≤ y - x ∧ y - x ≤ d) : NearP p y (t + 1000000 * d) := by
  unfold NearP Near at *
  grind
theorem NearP.le {p : Int × Int} {x t t' : Rat} (h : NearP p x t) (h1 : t ≤ t') : NearP p x t' := by
  unfold NearP Near at *
  grind
theorem fund {j m : Int} (h0 : 0 ≤ j) (h : 2 * j ≤ m) (hm : 0 < m) : cosF j (4 * m) = octF (8 * j) (32 * m) false ∧ cosF (j - m) (4 * m) = octF (8 * j) (32 * m) true := by
  have mid := oct_mid (m := 4 * m) (by omega)
  rw [show 8 * (4 * m) = 32 * m by omega] at mid
  have es : cosF (j - m) (4 * m) = cosQ (m - j) (4 * m) := by
    rw [show j - m = -(m - j) by omega, cosF_neg (by omega), cosF_low (by omega) (by omega) (by omega)]
  rw [es, cosF_low h0 (by omega) (by omega)]
  unfold cosQ
  rw [if_neg (show ¬ 3 * (4 * m) < 8 * j by omega), if_neg (show ¬ 2 * (4 * m) < 8 * j by omega), if_neg (show ¬ 4 * m < 8 * j by omega), if_neg (show ¬ 3 * (4 * m) < 8 * (m - j) by omega), if_neg (show ¬ 2 * (4 * m) < 8 * (m - j) by omega), show 8 * (4 * m) = 32 * m by omega]
  refine ⟨rfl, ?_⟩
  by_cases E : 8 * j = 4 * m
  · rw [if_neg (by omega), show 8 * (m - j) = 4 * m by omega, E, mid]
  · rw [if_pos (by omega)]; congr 1; omega
/-- A power of the turn is near the enclosures of its cosine and sine. -/
def PW (n : Nat) (c s : Rat) (u : Nat) (t : Rat) : Prop := NearP (cosF (u : Int) (4 * (n : Int))) (pw c s u).1 t ∧ NearP (cosF ((u : Int) - (n : Int)) (4 * (n : Int))) (pw c s u).2 t
theorem pw_base {n : Nat} {c s : Rat} (h1 : 1 ≤ n) (T : Turns n c s) {j : Nat} (h : 2 * j ≤ n) : PW n c s j (1/500) := by
  obtain ⟨f1, f2⟩ := fund (j := (j : Int)) (m := (n : Int)) (by omega) (by omega) (by omega)
  unfold PW
  rw [f1, f2]
  by_cases z : j = 0
  · subst z
    have e : (8 : Int) * ((0 : Nat) : Int) = 0 := by simp
    rw [e, octF_f0, octF_t0]
    unfold NearP Near pw
    simp only
    constructor <;> constructor <;> push_cast <;> grind
  · have ea : Fin.angP (8 * (j : Int)).toNat (32 * (n : Int)).toNat = Fin.angP j (4 * n) := by
      have := angP_scale (c := 8) (a := (j : Int)) (b := 4 * (n : Int)) (by omega) (by omega) (by omega)
      rw [show (8 : Int) * (4 * (n : Int)) = 32 * (n : Int) by omega] at this
      rw [this, Int.toNat_natCast, show Int.toNat (4 * (n : Int)) = 4 * n by omega]
    rw [octF_f (by omega), octF_t (by omega), ea]
    constructor
    · have := T.co j (by omega) h
      unfold NearP
      simp only
      push_cast
      exact this
    · by_cases e3 : 3 * j = n
      · rw [if_pos (by omega)]
        have := T.si3 j (by omega) e3
        unfold NearP
        simp only
        push_cast
        exact this
      · rw [if_neg (by omega)]
        have := T.si j (by omega) h e3
        unfold NearP
        simp only
        push_cast
        exact this
theorem pw_reflect {n : Nat} {c s : Rat} (h1 : 1 ≤ n) (T : Turns n c s) {i j : Nat} (hij : i + j = n) {t : Rat} (h : PW n c s i t) : PW n c s j (t + 1000000 * (2 * (1/300000000))) := by
  have ui := pw_unit T.u i
  have ad := pw_add c s j i
  rw [show j + i = n by omega] at ad
  have q1 := T.q1
  have q2 := T.q2
  rw [ad] at q1 q2
  simp only at q1 q2
  obtain ⟨p1, p2⟩ := h
  unfold PW
  have c1 : cosF (j : Int) (4 * (n : Int)) = cosF ((i : Int) - (n : Int)) (4 * (n : Int)) := by
    rw [← cosF_neg (by omega), show -(j : Int) = (i : Int) - (n : Int) by omega]
  have c2 : cosF ((j : Int) - (n : Int)) (4 * (n : Int)) = cosF (i : Int) (4 * (n : Int)) := by
    rw [← cosF_neg (by omega), show -((j : Int) - (n : Int)) = (i : Int) by omega]
  rw [c1, c2]
  generalize (pw c s i).1 = xi at *
  generalize (pw c s i).2 = yi at *
  generalize (pw c s j).1 = xj at *
  generalize (pw c s j).2 = yj at *
  have k1 := quarter (x := xi) (y := -yi) (e := xj * xi - yj * yi) (f := yj * xi + xj * yi - 1) (r := 1/300000000) (by grind) (by grind) q1 q2
  have k2 := quarter (x := -yi) (y := -xi) (e := xj * xi - yj * yi) (f := yj * xi + xj * yi - 1) (r := 1/300000000) (by grind) (by grind) q1 q2
  have e1 : xi * (xj * xi - yj * yi) - -yi * (yj * xi + xj * yi - 1) = xj - yi := by grind
  have e2 : -yi * (xj * xi - yj * yi) - -xi * (yj * xi + xj * yi - 1) = yj - xi := by grind
  rw [e1] at k1
  rw [e2] at k2
  exact ⟨p2.move k1, p1.move k2⟩
/-- A quarter's turn more. -/
theorem pw_quarter {n : Nat} {c s : Rat} (T : Turns n c s) (u : Nat) : (-(2 * (1/300000000)) ≤ (pw c s (u + n)).1 - -(pw c s u).2 ∧ (pw c s (u + n)).1 - -(pw c s u).2 ≤ 2 * (1/300000000)) ∧ -(2 * (1/300000000)) ≤ (pw c s (u + n)).2 - (pw c s u).1 ∧ (pw c s (u + n)).2 - (pw c s u).1 ≤ 2 * (1/300000000) := by
  have uu := pw_unit T.u u
  have ad := pw_add c s u n
  have q1 := T.q1
  have q2 := T.q2
  rw [ad]
  simp only
  generalize (pw c s n).1 = xn at *
  generalize (pw c s n).2 = yn at *
  generalize (pw c s u).1 = xu at *
  generalize (pw c s u).2 = yu at *
  have k1 := quarter (x := xu) (y := yu) (e := xn) (f := yn - 1) (r := 1/300000000) uu (by grind) q1 q2
  have k2 := quarter (x := yu) (y := -xu) (e := xn) (f := yn - 1) (r := 1/300000000) (by grind) (by grind) q1 q2
  constructor <;> constructor <;> grind
theorem pw_shift {n : Nat} {c s : Rat} (h1 : 1 ≤ n) (T : Turns n c s) {u : Nat} {t : Rat} (h : PW n c s u t) : PW n c s (u + n) (t + 1000000 * (2 * (1/300000000))) := by
  obtain ⟨k1, k2⟩ := pw_quarter T u
  obtain ⟨p1, p2⟩ := h
  have c1 : cosF (((u + n : Nat) : Int)) (4 * (n : Int)) = negP (cosF ((u : Int) - (n : Int)) (4 * (n : Int))) := by
    rw [← cosF_half (by omega)]; congr 1; omega
  have c2 : cosF (((u + n : Nat) : Int) - (n : Int)) (4 * (n : Int)) = cosF (u : Int) (4 * (n : Int)) := by
    congr 1; omega
  unfold PW
  rw [c1, c2]
  exact ⟨p2.neg.move k1, p1.move k2⟩
theorem PW.le {n : Nat} {c s : Rat} {u : Nat} {t t' : Rat} (h : PW n c s u t) (ht : t ≤ t') : PW n c s u t' := ⟨h.1.le ht, h.2.le ht⟩
theorem pw_all {n : Nat} {c s : Rat} (h1 : 1 ≤ n) (T : Turns n c s) {u : Nat} (hu : u < 4 * n) : PW n c s u (3/100) := by
  have a1 : ∀ j : Nat, j ≤ n → PW n c s j (1/500 + 1/150) := by
    intro j hj
    by_cases h : 2 * j ≤ n
    · exact (pw_base h1 T h).le (by grind)
    · exact (pw_reflect h1 T (i := n - j) (j := j) (by omega) (pw_base h1 T (by omega))).le (by grind)
  have a2 : ∀ j : Nat, j ≤ 2 * n → PW n c s j (1/500 + 2/150) := by
    intro j hj
    by_cases h : j ≤ n
    · exact (a1 j h).le (by grind)
    · have := pw_shift h1 T (a1 (j - n) (by omega))
      rw [show j - n + n = j by omega] at this
      exact this.le (by grind)
  have a3 : ∀ j : Nat, j ≤ 3 * n → PW n c s j (1/500 + 3/150) := by
    intro j hj
    by_cases h : j ≤ 2 * n
    · exact (a2 j h).le (by grind)
    · have := pw_shift h1 T (a2 (j - n) (by omega))
      rw [show j - n + n = j by omega] at this
      exact this.le (by grind)
  by_cases h : u ≤ 3 * n
  · exact (a3 u h).le (by grind)
  · have := pw_shift h1 T (a3 (u - n) (by omega))
    rw [show u - n + n = u by omega] at this
    exact this.le (by grind)
theorem pw_turn {n : Nat} {c s : Rat} (T : Turns n c s) (u : Nat) : (-(8 * (1/300000000)) ≤ (pw c s (u + 4 * n)).1 - (pw c s u).1 ∧ (pw c s (u + 4 * n)).1 - (pw c s u).1 ≤ 8 * (1/300000000)) ∧ -(8 * (1/300000000)) ≤ (pw c s (u + 4 * n)).2 - (pw c s u).2 ∧ (pw c s (u + 4 * n)).2 - (pw c s u).2 ≤ 8 * (1/300000000) := by
  have k1 := pw_quarter T u
  have k2 := pw_quarter T (u + n)
  have k3 := pw_quarter T (u + n + n)
  have k4 := pw_quarter T (u + n + n + n)
  rw [show u + n + n + n + n = u + 4 * n by omega] at k4
  grind
/-- The numbers that a cosine and a sine stand for, at millionths. -/
structure True2 (n u : Int) (A B : Rat) : Prop where
  a : ((cosF u (4 * n)).1 : Rat) - 3/100 ≤ A ∧ A ≤ ((cosF u (4 * n)).2 : Rat) + 3/100
  b : ((cosF (u - n) (4 * n)).1 : Rat) - 3/100 ≤ B ∧ B ≤ ((cosF (u - n) (4 * n)).2 : Rat) + 3/100
  u : A * A + B * B = 1000000000000
theorem true_all {n : Int} (h1 : 1 ≤ n) (h2 : n ≤ 720) : ∃ A B : Int → Rat, (∀ u, True2 n u (A u) (B u)) ∧
    ∀ u v, (-27000 ≤ A u * A v - B u * B v - 1000000 * A (u + v) ∧ A u * A v - B u * B v - 1000000 * A (u + v) ≤ 27000) ∧ (-27000 ≤ B u * A v + A u * B v - 1000000 * B (u + v) ∧ B u * A v + A u * B v - 1000000 * B (u + v) ≤ 27000) := by
  obtain ⟨m, rfl⟩ := Int.eq_ofNat_of_zero_le (show 0 ≤ n by omega)
  obtain ⟨c, s, T⟩ := turns (n := m) (by omega) (by omega)
  refine ⟨fun u => 1000000 * (pw c s (u % (4 * (m : Int))).toNat).1, fun u => 1000000 * (pw c s (u % (4 * (m : Int))).toNat).2, fun u => ?_, fun u v => ?_⟩
  · have m0 := Int.emod_nonneg u (b := 4 * (m : Int)) (by omega)
    have m1 := Int.emod_lt_of_pos u (show 0 < 4 * (m : Int) by omega)
    have d := Int.mul_ediv_add_emod u (4 * (m : Int))
    obtain ⟨p1, p2⟩ := pw_all (by omega) T (u := (u % (4 * (m : Int))).toNat) (by omega)
    have uu := pw_unit T.u (u % (4 * (m : Int))).toNat
    have ec : cosF u (4 * (m : Int)) = cosF (((u % (4 * (m : Int))).toNat : Nat) : Int) (4 * (m : Int)) := by
      rw [show (((u % (4 * (m : Int))).toNat : Nat) : Int) = u + 4 * (m : Int) * -(u / (4 * (m : Int))) by rw [Int.mul_neg]; omega, cosF_shift]
    have es : cosF (u - (m : Int)) (4 * (m : Int)) = cosF ((((u % (4 * (m : Int))).toNat : Nat) : Int) - (m : Int)) (4 * (m : Int)) := by
      rw [show ((((u % (4 * (m : Int))).toNat : Nat) : Int) - (m : Int)) = (u - (m : Int)) + 4 * (m : Int) * -(u / (4 * (m : Int))) by rw [Int.mul_neg]; omega, cosF_shift]
    rw [← ec] at p1
    rw [← es] at p2
    unfold NearP Near at p1 p2
    exact ⟨by grind, by grind, by grind⟩
  · have u0 := Int.emod_nonneg u (b := 4 * (m : Int)) (by omega)
    have u1 := Int.emod_lt_of_pos u (show 0 < 4 * (m : Int) by omega)
    have v0 := Int.emod_nonneg v (b := 4 * (m : Int)) (by omega)
    have v1 := Int.emod_lt_of_pos v (show 0 < 4 * (m : Int) by omega)
    have ad := pw_add c s (u % (4 * (m : Int))).toNat (v % (4 * (m : Int))).toNat
    have key : (-(8 * (1/300000000)) ≤ (pw c s ((u % (4 * (m : Int))).toNat + (v % (4 * (m : Int))).toNat)).1 - (pw c s ((u + v) % (4 * (m : Int))).toNat).1 ∧ (pw c s ((u % (4 * (m : Int))).toNat + (v % (4 * (m : Int))).toNat)).1 - (pw c s ((u + v) % (4 * (m : Int))).toNat).1 ≤ 8 * (1/300000000)) ∧ -(8 * (1/300000000)) ≤ (pw c s ((u % (4 * (m : Int))).toNat + (v % (4 * (m : Int))).toNat)).2 - (pw c s ((u + v) % (4 * (m : Int))).toNat).2 ∧ (pw c s ((u % (4 * (m : Int))).toNat + (v % (4 * (m : Int))).toNat)).2 - (pw c s ((u + v) % (4 * (m : Int))).toNat).2 ≤ 8 * (1/300000000) := by
      by_cases h : u % (4 * (m : Int)) + v % (4 * (m : Int)) < 4 * (m : Int)
      · have e : (u + v) % (4 * (m : Int)) = u % (4 * (m : Int)) + v % (4 * (m : Int)) := by
          rw [Int.add_emod, Int.emod_eq_of_lt (by omega) h]
        rw [e, show (u % (4 * (m : Int)) + v % (4 * (m : Int))).toNat = (u % (4 * (m : Int))).toNat + (v % (4 * (m : Int))).toNat by omega]
        grind
      · have e : (u + v) % (4 * (m : Int)) = u % (4 * (m : Int)) + v % (4 * (m : Int)) - 4 * (m : Int) := by
          rw [Int.add_emod, ← Int.sub_emod_right, Int.emod_eq_of_lt (by omega) (by omega)]
        have := pw_turn T ((u + v) % (4 * (m : Int))).toNat
        rw [show ((u + v) % (4 * (m : Int))).toNat + 4 * m = (u % (4 * (m : Int))).toNat + (v % (4 * (m : Int))).toNat by omega] at this
        exact this
    rw [ad] at key
    simp only at key ⊢
    generalize (pw c s ((u + v) % (4 * (m : Int))).toNat).1 = xw at *
    generalize (pw c s ((u + v) % (4 * (m : Int))).toNat).2 = yw at *
    generalize (pw c s (u % (4 * (m : Int))).toNat).1 = xu at *
    generalize (pw c s (u % (4 * (m : Int))).toNat).2 = yu at *
    generalize (pw c s (v % (4 * (m : Int))).toNat).1 = xv at *
    generalize (pw c s (v % (4 * (m : Int))).toNat).2 = yv at *
    grind
theorem sMul_box {a b c d : Int} (ha : -1000000 ≤ a ∧ a ≤ b ∧ b ≤ 1000000) (hc : -1000000 ≤ c ∧ c ≤ d ∧ d ≤ 1000000) :
    ∃ l h, sMul a b c d = ⟨l, h, 0⟩ ∧ (-1000000 ≤ l ∧ l ≤ h ∧ h ≤ 1000000) ∧ (l * 1000000 ≤ a * c ∧ l * 1000000 ≤ a * d ∧ l * 1000000 ≤ b * c ∧ l * 1000000 ≤ b * d) ∧ a * c ≤ h * 1000000 ∧ a * d ≤ h * 1000000 ∧ b * c ≤ h * 1000000 ∧ b * d ≤ h * 1000000 := by
  have p1 := abs_mul (x := a) (y := c) (A := 1000000) (B := 1000000) ⟨by omega, by omega⟩ ⟨by omega, by omega⟩
  have p2 := abs_mul (x := a) (y := d) (A := 1000000) (B := 1000000) ⟨by omega, by omega⟩ ⟨by omega, by omega⟩
  have p3 := abs_mul (x := b) (y := c) (A := 1000000) (B := 1000000) ⟨by omega, by omega⟩ ⟨by omega, by omega⟩
  have p4 := abs_mul (x := b) (y := d) (A := 1000000) (B := 1000000) ⟨by omega, by omega⟩ ⟨by omega, by omega⟩
  have hm := mn4_mem (a * c) (a * d) (b * c) (b * d)
  have hx := mx4_mem (a * c) (a * d) (b * c) (b * d)
  refine ⟨mn4 (a * c) (a * d) (b * c) (b * d) / 1000000, -(-mx4 (a * c) (a * d) (b * c) (b * d) / 1000000), ?_, ?_⟩
  · unfold sMul mkS
    rw [if_pos (by unfold spanOk; omega), if_pos]
    unfold spanOk
    generalize mn4 (a * c) (a * d) (b * c) (b * d) = m at *
    generalize mx4 (a * c) (a * d) (b * c) (b * d) = x at *
    omega
  · generalize mn4 (a * c) (a * d) (b * c) (b * d) = m at *
    generalize mx4 (a * c) (a * d) (b * c) (b * d) = x at *
    generalize a * c = q1 at *
    generalize a * d = q2 at *
    generalize b * c = q3 at *
    generalize b * d = q4 at *
    omega
theorem int_le {a b : Int} (h : a ≤ b) : (a : Rat) ≤ (b : Rat) := by exact_mod_cast h
theorem le_int {a b : Int} (h : (a : Rat) < (b : Rat) + 1) : a ≤ b := by
  have : a < b + 1 := by exact_mod_cast h
  omega
theorem mul_near {a b c d l h : Int} {x y : Rat} (ha : -1000000 ≤ a ∧ a ≤ b ∧ b ≤ 1000000) (hc : c ≤ d) (hx : (a : Rat) - 3/100 ≤ x ∧ x ≤ (b : Rat) + 3/100) (hy : (c : Rat) - 3/100 ≤ y ∧ y ≤ (d : Rat) + 3/100) (hb : -1000000 ≤ y ∧ y ≤ 1000000)
    (hl : l * 1000000 ≤ a * c ∧ l * 1000000 ≤ a * d ∧ l * 1000000 ≤ b * c ∧ l * 1000000 ≤ b * d) (hh : a * c ≤ h * 1000000 ∧ a * d ≤ h * 1000000 ∧ b * c ≤ h * 1000000 ∧ b * d ≤ h * 1000000) :
    (l : Rat) * 1000000 - 60000 ≤ x * y ∧ x * y ≤ (h : Rat) * 1000000 + 60000 := by
  obtain ⟨l1, l2, l3, l4⟩ := hl
  obtain ⟨h1, h2, h3, h4⟩ := hh
  obtain ⟨a1, a2, a3⟩ := ha
  have l1 := int_le l1
  have l2 := int_le l2
  have l3 := int_le l3
  have l4 := int_le l4
  have h1 := int_le h1
  have h2 := int_le h2
  have h3 := int_le h3
  have h4 := int_le h4
  have a1 := int_le a1
  have a2 := int_le a2
  have a3 := int_le a3
  have hc := int_le hc
  push_cast at l1 l2 l3 l4 h1 h2 h3 h4 a1 a2 a3 hc
  have r1 := box_near (a1 := (a : Rat)) (a2 := (b : Rat)) (c1 := (c : Rat)) (c2 := (d : Rat)) (x := x) (y := y) (m := (l : Rat) * 1000000) (M := 1000000) (t := 3/100) (by grind) hx hy a2 hc (by grind) (by grind) hb l1 l2 l3 l4
  have r2 := box_near (a1 := -(b : Rat)) (a2 := -(a : Rat)) (c1 := (c : Rat)) (c2 := (d : Rat)) (x := -x) (y := y) (m := -((h : Rat) * 1000000)) (M := 1000000) (t := 3/100) (by grind) (by grind) hy (by grind) hc (by grind) (by grind) hb (by grind) (by grind) (by grind) (by grind)
  grind
theorem mul_ok {a c : Int × Int} {x y : Rat} (ha : -1000000 ≤ a.1 ∧ a.1 ≤ a.2 ∧ a.2 ≤ 1000000) (hc : -1000000 ≤ c.1 ∧ c.1 ≤ c.2 ∧ c.2 ≤ 1000000) (hx : (a.1 : Rat) - 3/100 ≤ x ∧ x ≤ (a.2 : Rat) + 3/100) (hy : (c.1 : Rat) - 3/100 ≤ y ∧ y ≤ (c.2 : Rat) + 3/100) (hb : -1000000 ≤ y ∧ y ≤ 1000000) :
    ∃ l h, sMul a.1 a.2 c.1 c.2 = ⟨l, h, 0⟩ ∧ (-1000000 ≤ l ∧ l ≤ h ∧ h ≤ 1000000) ∧ (l : Rat) * 1000000 - 60000 ≤ x * y ∧ x * y ≤ (h : Rat) * 1000000 + 60000 := by
  obtain ⟨l, h, e, r, hl, hh⟩ := sMul_box ha hc
  exact ⟨l, h, e, r, mul_near ha hc.2.1 hx hy hb hl hh⟩
theorem true_small {n u : Int} {A B : Rat} (t : True2 n u A B) : (-1000000 ≤ A ∧ A ≤ 1000000) ∧ -1000000 ≤ B ∧ B ≤ 1000000 := by
  have a := abs_of_sq (x := A) (r := 1000000) (by grind) (by have := sq_nonneg B; have := t.u; grind)
  have b := abs_of_sq (x := B) (r := 1000000) (by grind) (by have := sq_nonneg A; have := t.u; grind)
  exact ⟨a, b⟩
theorem CircOk.box {u m : Int} {c s : Int × Int} (h : CircOk u m c s) : (-1000000 ≤ c.1 ∧ c.1 ≤ c.2 ∧ c.2 ≤ 1000000) ∧ -1000000 ≤ s.1 ∧ s.1 ≤ s.2 ∧ s.2 ≤ 1000000 := ⟨⟨h.cl, h.cc, h.ch⟩, h.sl, h.ss, h.sh⟩
structure R5 where
  l : Int
  h : Int
  ok : -1000000 ≤ l ∧ l ≤ h ∧ h ≤ 1000000
/-- The theorems of sums. -/
theorem sums_ok {n u v : Int} (h1 : 1 ≤ n) (h2 : n ≤ 720) : ∃ p q r s t : R5,
    sMul (cosF u (4 * n)).1 (cosF u (4 * n)).2 (cosF v (4 * n)).1 (cosF v (4 * n)).2 = ⟨p.l, p.h, 0⟩ ∧
    sMul (cosF (u - n) (4 * n)).1 (cosF (u - n) (4 * n)).2 (cosF (v - n) (4 * n)).1 (cosF (v - n) (4 * n)).2 = ⟨q.l, q.h, 0⟩ ∧
    sMul (cosF (u - n) (4 * n)).1 (cosF (u - n) (4 * n)).2 (cosF v (4 * n)).1 (cosF v (4 * n)).2 = ⟨r.l, r.h, 0⟩ ∧
    sMul (cosF u (4 * n)).1 (cosF u (4 * n)).2 (cosF (v - n) (4 * n)).1 (cosF (v - n) (4 * n)).2 = ⟨s.l, s.h, 0⟩ ∧
    sMul (cosF u (4 * n)).1 (cosF u (4 * n)).2 (cosF u (4 * n)).1 (cosF u (4 * n)).2 = ⟨t.l, t.h, 0⟩ ∧
    (p.l - q.h ≤ (cosF (u + v) (4 * n)).2 ∧ (cosF (u + v) (4 * n)).1 ≤ p.h - q.l) ∧
    (r.l + s.l ≤ (cosF (u + v - n) (4 * n)).2 ∧ (cosF (u + v - n) (4 * n)).1 ≤ r.h + s.h) ∧
    ((cosF (u + u) (4 * n)).1 ≤ t.h + t.h - 1000000 ∧ t.l + t.l - 1000000 ≤ (cosF (u + u) (4 * n)).2) := by
  obtain ⟨A, B, ht, hs⟩ := true_all h1 h2
  obtain ⟨bu, bu'⟩ := (circ_all (u := u) h1 h2).box
  obtain ⟨bv, bv'⟩ := (circ_all (u := v) h1 h2).box
  have tu := ht u
  have tv := ht v
  have tw := ht (u + v)
  have t2 := ht (u + u)
  obtain ⟨su, su'⟩ := true_small tu
  obtain ⟨sv, sv'⟩ := true_small tv
  obtain ⟨l1, h1', e1, k1, n1⟩ := mul_ok bu bv tu.a tv.a sv
  obtain ⟨l2, h2', e2, k2, n2⟩ := mul_ok bu' bv' tu.b tv.b sv'
  obtain ⟨l3, h3, e3, k3, n3⟩ := mul_ok bu' bv tu.b tv.a sv
  obtain ⟨l4, h4, e4, k4, n4⟩ := mul_ok bu bv' tu.a tv.b sv'
  obtain ⟨l5, h5, e5, k5, n5⟩ := mul_ok bu bu tu.a tu.a su
  obtain ⟨s1, s2⟩ := hs u v
  obtain ⟨s3, _⟩ := hs u u
  have w1 := tw.a
  have w2 := tw.b
  have w3 := t2.a
  have w4 := tu.u
  refine ⟨⟨l1, h1', k1⟩, ⟨l2, h2', k2⟩, ⟨l3, h3, k3⟩, ⟨l4, h4, k4⟩, ⟨l5, h5, k5⟩, e1, e2, e3, e4, e5, ⟨le_int ?_, le_int ?_⟩, ⟨le_int ?_, le_int ?_⟩, le_int ?_, le_int ?_⟩ <;> simp only <;> push_cast
  · grind
  · grind
  · grind
  · grind
  · grind
  · grind

def FM_law05_SineSums : FM := ⟨235, [(RV.tmp 6)], (MC.seq (MC.ops [⟨(some 6), none, (MI.mv (MO.c (AV.b false)))⟩]) (MC.seq (MC.seq (MC.ops [⟨(some 33), none, (MI.mv (MO.t 2))⟩, ⟨(some 34), none, (MI.bin .lss (MO.t 33) (MO.c (AV.i .i64 1)))⟩, ⟨(some 35), none, (MI.mv (MO.t 34))⟩, ⟨(some 36), (some (35, false)), (MI.mv (MO.t 2))⟩, ⟨(some 37), (some (35, false)), (MI.bin .gtr (MO.t 36) (MO.c (AV.i .i64 720)))⟩, ⟨(some 38), none, (MI.pick (MO.t 35) (MO.c (AV.b true)) (MO.t 37))⟩, ⟨(some 39), none, (MI.mv (MO.t 38))⟩, ⟨(some 40), (some (39, false)), (MI.mv (MO.t 0))⟩, ⟨(some 41), (some (39, false)), (MI.bin .lss (MO.t 40) (MO.c (AV.i .i64 (-1000000))))⟩, ⟨(some 42), none, (MI.pick (MO.t 39) (MO.c (AV.b true)) (MO.t 41))⟩, ⟨(some 43), none, (MI.mv (MO.t 42))⟩, ⟨(some 44), (some (43, false)), (MI.mv (MO.t 0))⟩, ⟨(some 45), (some (43, false)), (MI.bin .gtr (MO.t 44) (MO.c (AV.i .i64 1000000)))⟩, ⟨(some 46), none, (MI.pick (MO.t 43) (MO.c (AV.b true)) (MO.t 45))⟩, ⟨(some 47), none, (MI.mv (MO.t 46))⟩, ⟨(some 48), (some (47, false)), (MI.mv (MO.t 1))⟩, ⟨(some 49), (some (47, false)), (MI.bin .lss (MO.t 48) (MO.c (AV.i .i64 (-1000000))))⟩, ⟨(some 50), none, (MI.pick (MO.t 47) (MO.c (AV.b true)) (MO.t 49))⟩, ⟨(some 51), none, (MI.mv (MO.t 50))⟩, ⟨(some 52), (some (51, false)), (MI.mv (MO.t 1))⟩, ⟨(some 53), (some (51, false)), (MI.bin .gtr (MO.t 52) (MO.c (AV.i .i64 1000000)))⟩, ⟨(some 54), none, (MI.pick (MO.t 51) (MO.c (AV.b true)) (MO.t 53))⟩]) (MC.cond (MO.t 54) (MC.seq (MC.ops [⟨(some 55), none, (MI.callN 18 [])⟩, ⟨(some 6), none, (MI.mv (MO.t 55))⟩]) MC.ret) MC.skip)) (MC.seq (MC.ops [⟨(some 57), none, (MI.mv (MO.t 0))⟩, ⟨(some 58), none, (MI.mv (MO.t 2))⟩, ⟨(some 59), none, (MI.callN 14 [(MO.t 57), (MO.t 58)])⟩, ⟨(some 56), none, (MI.mv (MO.t 59))⟩, ⟨(some 60), none, (MI.ext (MO.t 56) 0)⟩, ⟨(some 61), none, (MI.ext (MO.t 56) 1)⟩, ⟨(some 7), none, (MI.alloc 23 [(AV.i .i64 0), (AV.i .i64 0)])⟩, ⟨none, none, (MI.store 2 (MO.t 7) (MO.t 60))⟩, ⟨(some 8), none, (MI.mv (MO.t 61))⟩]) (MC.seq (MC.ops [⟨(some 63), none, (MI.mv (MO.t 0))⟩, ⟨(some 64), none, (MI.mv (MO.t 2))⟩, ⟨(some 65), none, (MI.callN 16 [(MO.t 63), (MO.t 64)])⟩, ⟨(some 62), none, (MI.mv (MO.t 65))⟩, ⟨(some 66), none, (MI.ext (MO.t 62) 0)⟩, ⟨(some 67), none, (MI.ext (MO.t 62) 1)⟩, ⟨(some 9), none, (MI.alloc 23 [(AV.i .i64 0), (AV.i .i64 0)])⟩, ⟨none, none, (MI.store 2 (MO.t 9) (MO.t 66))⟩, ⟨(some 10), none, (MI.mv (MO.t 67))⟩]) (MC.seq (MC.ops [⟨(some 69), none, (MI.mv (MO.t 1))⟩, ⟨(some 70), none, (MI.mv (MO.t 2))⟩, ⟨(some 71), none, (MI.callN 14 [(MO.t 69), (MO.t 70)])⟩, ⟨(some 68), none, (MI.mv (MO.t 71))⟩, ⟨(some 72), none, (MI.ext (MO.t 68) 0)⟩, ⟨(some 73), none, (MI.ext (MO.t 68) 1)⟩, ⟨(some 11), none, (MI.alloc 23 [(AV.i .i64 0), (AV.i .i64 0)])⟩, ⟨none, none, (MI.store 2 (MO.t 11) (MO.t 72))⟩, ⟨(some 12), none, (MI.mv (MO.t 73))⟩]) (MC.seq (MC.ops [⟨(some 75), none, (MI.mv (MO.t 1))⟩, ⟨(some 76), none, (MI.mv (MO.t 2))⟩, ⟨(some 77), none, (MI.callN 16 [(MO.t 75), (MO.t 76)])⟩, ⟨(some 74), none, (MI.mv (MO.t 77))⟩, ⟨(some 78), none, (MI.ext (MO.t 74) 0)⟩, ⟨(some 79), none, (MI.ext (MO.t 74) 1)⟩, ⟨(some 13), none, (MI.alloc 23 [(AV.i .i64 0), (AV.i .i64 0)])⟩, ⟨none, none, (MI.store 2 (MO.t 13) (MO.t 78))⟩, ⟨(some 14), none, (MI.mv (MO.t 79))⟩]) (MC.seq (MC.ops [⟨(some 81), none, (MI.mv (MO.t 0))⟩, ⟨(some 82), none, (MI.mv (MO.t 1))⟩, ⟨(some 83), none, (MI.bin .add (MO.t 81) (MO.t 82))⟩, ⟨(some 84), none, (MI.mv (MO.t 2))⟩, ⟨(some 85), none, (MI.callN 14 [(MO.t 83), (MO.t 84)])⟩, ⟨(some 80), none, (MI.mv (MO.t 85))⟩, ⟨(some 86), none, (MI.ext (MO.t 80) 0)⟩, ⟨(some 87), none, (MI.ext (MO.t 80) 1)⟩, ⟨(some 15), none, (MI.alloc 23 [(AV.i .i64 0), (AV.i .i64 0)])⟩, ⟨none, none, (MI.store 2 (MO.t 15) (MO.t 86))⟩, ⟨(some 16), none, (MI.mv (MO.t 87))⟩]) (MC.seq (MC.ops [⟨(some 89), none, (MI.mv (MO.t 0))⟩, ⟨(some 90), none, (MI.mv (MO.t 1))⟩, ⟨(some 91), none, (MI.bin .add (MO.t 89) (MO.t 90))⟩, ⟨(some 92), none, (MI.mv (MO.t 2))⟩, ⟨(some 93), none, (MI.callN 16 [(MO.t 91), (MO.t 92)])⟩, ⟨(some 88), none, (MI.mv (MO.t 93))⟩, ⟨(some 94), none, (MI.ext (MO.t 88) 0)⟩, ⟨(some 95), none, (MI.ext (MO.t 88) 1)⟩, ⟨(some 17), none, (MI.alloc 23 [(AV.i .i64 0), (AV.i .i64 0)])⟩, ⟨none, none, (MI.store 2 (MO.t 17) (MO.t 94))⟩, ⟨(some 18), none, (MI.mv (MO.t 95))⟩]) (MC.seq (MC.seq (MC.ops [⟨(some 96), none, (MI.mv (MO.t 8))⟩, ⟨(some 97), none, (MI.bin .neq (MO.t 96) (MO.c (AV.i .i64 0)))⟩, ⟨(some 98), none, (MI.mv (MO.t 97))⟩, ⟨(some 99), (some (98, false)), (MI.mv (MO.t 10))⟩, ⟨(some 100), (some (98, false)), (MI.bin .neq (MO.t 99) (MO.c (AV.i .i64 0)))⟩, ⟨(some 101), none, (MI.pick (MO.t 98) (MO.c (AV.b true)) (MO.t 100))⟩, ⟨(some 102), none, (MI.mv (MO.t 101))⟩, ⟨(some 103), (some (102, false)), (MI.mv (MO.t 12))⟩, ⟨(some 104), (some (102, false)), (MI.bin .neq (MO.t 103) (MO.c (AV.i .i64 0)))⟩, ⟨(some 105), none, (MI.pick (MO.t 102) (MO.c (AV.b true)) (MO.t 104))⟩, ⟨(some 106), none, (MI.mv (MO.t 105))⟩, ⟨(some 107), (some (106, false)), (MI.mv (MO.t 14))⟩, ⟨(some 108), (some (106, false)), (MI.bin .neq (MO.t 107) (MO.c (AV.i .i64 0)))⟩, ⟨(some 109), none, (MI.pick (MO.t 106) (MO.c (AV.b true)) (MO.t 108))⟩, ⟨(some 110), none, (MI.mv (MO.t 109))⟩, ⟨(some 111), (some (110, false)), (MI.mv (MO.t 16))⟩, ⟨(some 112), (some (110, false)), (MI.bin .neq (MO.t 111) (MO.c (AV.i .i64 0)))⟩, ⟨(some 113), none, (MI.pick (MO.t 110) (MO.c (AV.b true)) (MO.t 112))⟩, ⟨(some 114), none, (MI.mv (MO.t 113))⟩, ⟨(some 115), (some (114, false)), (MI.mv (MO.t 18))⟩, ⟨(some 116), (some (114, false)), (MI.bin .neq (MO.t 115) (MO.c (AV.i .i64 0)))⟩, ⟨(some 117), none, (MI.pick (MO.t 114) (MO.c (AV.b true)) (MO.t 116))⟩]) (MC.cond (MO.t 117) (MC.seq (MC.ops [⟨(some 6), none, (MI.mv (MO.c (AV.b false)))⟩]) MC.ret) MC.skip)) (MC.seq (MC.ops [⟨(some 119), none, (MI.loadn 2 (MO.t 7))⟩, ⟨(some 120), none, (MI.loadn 2 (MO.t 11))⟩, ⟨(some 121), none, (MI.callN 19 [(MO.t 119), (MO.t 120)])⟩, ⟨(some 118), none, (MI.mv (MO.t 121))⟩, ⟨(some 122), none, (MI.ext (MO.t 118) 0)⟩, ⟨(some 123), none, (MI.ext (MO.t 118) 1)⟩, ⟨(some 19), none, (MI.alloc 23 [(AV.i .i64 0), (AV.i .i64 0)])⟩, ⟨none, none, (MI.store 2 (MO.t 19) (MO.t 122))⟩, ⟨(some 8), none, (MI.mv (MO.t 123))⟩]) (MC.seq (MC.ops [⟨(some 125), none, (MI.loadn 2 (MO.t 9))⟩, ⟨(some 126), none, (MI.loadn 2 (MO.t 13))⟩, ⟨(some 127), none, (MI.callN 19 [(MO.t 125), (MO.t 126)])⟩, ⟨(some 124), none, (MI.mv (MO.t 127))⟩, ⟨(some 128), none, (MI.ext (MO.t 124) 0)⟩, ⟨(some 129), none, (MI.ext (MO.t 124) 1)⟩, ⟨(some 20), none, (MI.alloc 23 [(AV.i .i64 0), (AV.i .i64 0)])⟩, ⟨none, none, (MI.store 2 (MO.t 20) (MO.t 128))⟩, ⟨(some 10), none, (MI.mv (MO.t 129))⟩]) (MC.seq (MC.ops [⟨(some 131), none, (MI.loadn 2 (MO.t 9))⟩, ⟨(some 132), none, (MI.loadn 2 (MO.t 11))⟩, ⟨(some 133), none, (MI.callN 19 [(MO.t 131), (MO.t 132)])⟩, ⟨(some 130), none, (MI.mv (MO.t 133))⟩, ⟨(some 134), none, (MI.ext (MO.t 130) 0)⟩, ⟨(some 135), none, (MI.ext (MO.t 130) 1)⟩, ⟨(some 21), none, (MI.alloc 23 [(AV.i .i64 0), (AV.i .i64 0)])⟩, ⟨none, none, (MI.store 2 (MO.t 21) (MO.t 134))⟩, ⟨(some 12), none, (MI.mv (MO.t 135))⟩]) (MC.seq (MC.ops [⟨(some 137), none, (MI.loadn 2 (MO.t 7))⟩, ⟨(some 138), none, (MI.loadn 2 (MO.t 13))⟩, ⟨(some 139), none, (MI.callN 19 [(MO.t 137), (MO.t 138)])⟩, ⟨(some 136), none, (MI.mv (MO.t 139))⟩, ⟨(some 140), none, (MI.ext (MO.t 136) 0)⟩, ⟨(some 141), none, (MI.ext (MO.t 136) 1)⟩, ⟨(some 22), none, (MI.alloc 23 [(AV.i .i64 0), (AV.i .i64 0)])⟩, ⟨none, none, (MI.store 2 (MO.t 22) (MO.t 140))⟩, ⟨(some 14), none, (MI.mv (MO.t 141))⟩]) (MC.seq (MC.ops [⟨(some 143), none, (MI.loadn 2 (MO.t 19))⟩, ⟨(some 144), none, (MI.loadn 2 (MO.t 20))⟩, ⟨(some 145), none, (MI.callN 22 [(MO.t 143), (MO.t 144)])⟩, ⟨(some 142), none, (MI.mv (MO.t 145))⟩, ⟨(some 146), none, (MI.ext (MO.t 142) 0)⟩, ⟨(some 147), none, (MI.ext (MO.t 142) 1)⟩, ⟨(some 23), none, (MI.alloc 23 [(AV.i .i64 0), (AV.i .i64 0)])⟩, ⟨none, none, (MI.store 2 (MO.t 23) (MO.t 146))⟩, ⟨(some 16), none, (MI.mv (MO.t 147))⟩]) (MC.seq (MC.ops [⟨(some 149), none, (MI.loadn 2 (MO.t 21))⟩, ⟨(some 150), none, (MI.loadn 2 (MO.t 22))⟩, ⟨(some 151), none, (MI.callN 20 [(MO.t 149), (MO.t 150)])⟩, ⟨(some 148), none, (MI.mv (MO.t 151))⟩, ⟨(some 152), none, (MI.ext (MO.t 148) 0)⟩, ⟨(some 153), none, (MI.ext (MO.t 148) 1)⟩, ⟨(some 24), none, (MI.alloc 23 [(AV.i .i64 0), (AV.i .i64 0)])⟩, ⟨none, none, (MI.store 2 (MO.t 24) (MO.t 152))⟩, ⟨(some 18), none, (MI.mv (MO.t 153))⟩]) (MC.seq (MC.seq (MC.ops [⟨(some 154), none, (MI.mv (MO.t 8))⟩, ⟨(some 155), none, (MI.bin .neq (MO.t 154) (MO.c (AV.i .i64 0)))⟩, ⟨(some 156), none, (MI.mv (MO.t 155))⟩, ⟨(some 157), (some (156, false)), (MI.mv (MO.t 10))⟩, ⟨(some 158), (some (156, false)), (MI.bin .neq (MO.t 157) (MO.c (AV.i .i64 0)))⟩, ⟨(some 159), none, (MI.pick (MO.t 156) (MO.c (AV.b true)) (MO.t 158))⟩, ⟨(some 160), none, (MI.mv (MO.t 159))⟩, ⟨(some 161), (some (160, false)), (MI.mv (MO.t 12))⟩, ⟨(some 162), (some (160, false)), (MI.bin .neq (MO.t 161) (MO.c (AV.i .i64 0)))⟩, ⟨(some 163), none, (MI.pick (MO.t 160) (MO.c (AV.b true)) (MO.t 162))⟩, ⟨(some 164), none, (MI.mv (MO.t 163))⟩, ⟨(some 165), (some (164, false)), (MI.mv (MO.t 14))⟩, ⟨(some 166), (some (164, false)), (MI.bin .neq (MO.t 165) (MO.c (AV.i .i64 0)))⟩, ⟨(some 167), none, (MI.pick (MO.t 164) (MO.c (AV.b true)) (MO.t 166))⟩, ⟨(some 168), none, (MI.mv (MO.t 167))⟩, ⟨(some 169), (some (168, false)), (MI.mv (MO.t 16))⟩, ⟨(some 170), (some (168, false)), (MI.bin .neq (MO.t 169) (MO.c (AV.i .i64 0)))⟩, ⟨(some 171), none, (MI.pick (MO.t 168) (MO.c (AV.b true)) (MO.t 170))⟩, ⟨(some 172), none, (MI.mv (MO.t 171))⟩, ⟨(some 173), (some (172, false)), (MI.mv (MO.t 18))⟩, ⟨(some 174), (some (172, false)), (MI.bin .neq (MO.t 173) (MO.c (AV.i .i64 0)))⟩, ⟨(some 175), none, (MI.pick (MO.t 172) (MO.c (AV.b true)) (MO.t 174))⟩, ⟨(some 176), none, (MI.mv (MO.t 175))⟩, ⟨(some 177), (some (176, false)), (MI.loadn 2 (MO.t 23))⟩, ⟨(some 178), (some (176, false)), (MI.loadn 2 (MO.t 15))⟩, ⟨(some 179), (some (176, false)), (MI.callN 23 [(MO.t 177), (MO.t 178)])⟩, ⟨(some 180), (some (176, false)), (MI.un .not (MO.t 179))⟩, ⟨(some 181), none, (MI.pick (MO.t 176) (MO.c (AV.b true)) (MO.t 180))⟩, ⟨(some 182), none, (MI.mv (MO.t 181))⟩, ⟨(some 183), (some (182, false)), (MI.loadn 2 (MO.t 24))⟩, ⟨(some 184), (some (182, false)), (MI.loadn 2 (MO.t 17))⟩, ⟨(some 185), (some (182, false)), (MI.callN 23 [(MO.t 183), (MO.t 184)])⟩, ⟨(some 186), (some (182, false)), (MI.un .not (MO.t 185))⟩, ⟨(some 187), none, (MI.pick (MO.t 182) (MO.c (AV.b true)) (MO.t 186))⟩]) (MC.cond (MO.t 187) (MC.seq (MC.ops [⟨(some 6), none, (MI.mv (MO.c (AV.b false)))⟩]) MC.ret) MC.skip)) (MC.seq (MC.ops [⟨(some 189), none, (MI.mv (MO.t 0))⟩, ⟨(some 190), none, (MI.bin .mul (MO.c (AV.i .i64 2)) (MO.t 189))⟩, ⟨(some 191), none, (MI.mv (MO.t 2))⟩, ⟨(some 192), none, (MI.callN 14 [(MO.t 190), (MO.t 191)])⟩, ⟨(some 188), none, (MI.mv (MO.t 192))⟩, ⟨(some 193), none, (MI.ext (MO.t 188) 0)⟩, ⟨(some 194), none, (MI.ext (MO.t 188) 1)⟩, ⟨(some 25), none, (MI.alloc 23 [(AV.i .i64 0), (AV.i .i64 0)])⟩, ⟨none, none, (MI.store 2 (MO.t 25) (MO.t 193))⟩, ⟨(some 26), none, (MI.mv (MO.t 194))⟩]) (MC.seq (MC.ops [⟨(some 196), none, (MI.loadn 2 (MO.t 7))⟩, ⟨(some 197), none, (MI.loadn 2 (MO.t 7))⟩, ⟨(some 198), none, (MI.callN 19 [(MO.t 196), (MO.t 197)])⟩, ⟨(some 195), none, (MI.mv (MO.t 198))⟩, ⟨(some 199), none, (MI.ext (MO.t 195) 0)⟩, ⟨(some 200), none, (MI.ext (MO.t 195) 1)⟩, ⟨(some 27), none, (MI.alloc 23 [(AV.i .i64 0), (AV.i .i64 0)])⟩, ⟨none, none, (MI.store 2 (MO.t 27) (MO.t 199))⟩, ⟨(some 28), none, (MI.mv (MO.t 200))⟩]) (MC.seq (MC.ops [⟨(some 202), none, (MI.loadn 2 (MO.t 27))⟩, ⟨(some 203), none, (MI.loadn 2 (MO.t 27))⟩, ⟨(some 204), none, (MI.callN 20 [(MO.t 202), (MO.t 203)])⟩, ⟨(some 201), none, (MI.mv (MO.t 204))⟩, ⟨(some 205), none, (MI.ext (MO.t 201) 0)⟩, ⟨(some 206), none, (MI.ext (MO.t 201) 1)⟩, ⟨(some 29), none, (MI.alloc 23 [(AV.i .i64 0), (AV.i .i64 0)])⟩, ⟨none, none, (MI.store 2 (MO.t 29) (MO.t 205))⟩, ⟨(some 30), none, (MI.mv (MO.t 206))⟩]) (MC.seq (MC.ops [⟨(some 208), none, (MI.loadn 2 (MO.t 29))⟩, ⟨(some 209), none, (MI.build [(AV.i .i64 0), (AV.i .i64 0)] [(0, 1, (MO.c (AV.i .i64 1000000))), (1, 1, (MO.c (AV.i .i64 1000000)))])⟩, ⟨(some 210), none, (MI.callN 22 [(MO.t 208), (MO.t 209)])⟩, ⟨(some 207), none, (MI.mv (MO.t 210))⟩, ⟨(some 211), none, (MI.ext (MO.t 207) 0)⟩, ⟨(some 212), none, (MI.ext (MO.t 207) 1)⟩, ⟨(some 31), none, (MI.alloc 23 [(AV.i .i64 0), (AV.i .i64 0)])⟩, ⟨none, none, (MI.store 2 (MO.t 31) (MO.t 211))⟩, ⟨(some 32), none, (MI.mv (MO.t 212))⟩]) (MC.seq (MC.ops [⟨(some 213), none, (MI.mv (MO.t 26))⟩, ⟨(some 214), none, (MI.bin .eql (MO.t 213) (MO.c (AV.i .i64 0)))⟩, ⟨(some 215), none, (MI.mv (MO.t 214))⟩, ⟨(some 216), (some (215, true)), (MI.mv (MO.t 28))⟩, ⟨(some 217), (some (215, true)), (MI.bin .eql (MO.t 216) (MO.c (AV.i .i64 0)))⟩, ⟨(some 218), none, (MI.pick (MO.t 215) (MO.t 217) (MO.c (AV.b false)))⟩, ⟨(some 219), none, (MI.mv (MO.t 218))⟩, ⟨(some 220), (some (219, true)), (MI.mv (MO.t 30))⟩, ⟨(some 221), (some (219, true)), (MI.bin .eql (MO.t 220) (MO.c (AV.i .i64 0)))⟩, ⟨(some 222), none, (MI.pick (MO.t 219) (MO.t 221) (MO.c (AV.b false)))⟩, ⟨(some 223), none, (MI.mv (MO.t 222))⟩, ⟨(some 224), (some (223, true)), (MI.mv (MO.t 32))⟩, ⟨(some 225), (some (223, true)), (MI.bin .eql (MO.t 224) (MO.c (AV.i .i64 0)))⟩, ⟨(some 226), none, (MI.pick (MO.t 223) (MO.t 225) (MO.c (AV.b false)))⟩, ⟨(some 227), none, (MI.mv (MO.t 226))⟩, ⟨(some 228), (some (227, true)), (MI.loadn 2 (MO.t 25))⟩, ⟨(some 229), (some (227, true)), (MI.loadn 2 (MO.t 31))⟩, ⟨(some 230), (some (227, true)), (MI.callN 23 [(MO.t 228), (MO.t 229)])⟩, ⟨(some 231), none, (MI.pick (MO.t 227) (MO.t 230) (MO.c (AV.b false)))⟩, ⟨(some 232), none, (MI.mv (MO.t 231))⟩, ⟨(some 233), (some (232, true)), (MI.callN 18 [])⟩, ⟨(some 234), none, (MI.pick (MO.t 232) (MO.t 233) (MO.c (AV.b false)))⟩, ⟨(some 6), none, (MI.mv (MO.t 234))⟩]) MC.ret)))))))))))))))))))))⟩
theorem FMc_law05_SineSums : compF Go.Proofs.Try.prog (eqsP Go.Proofs.Try.prog) (neutOf [14, 16, 18, 19, 20, 22, 23]) (neutOf [14, 16, 18, 19, 20, 22, 23]) 6 = some FM_law05_SineSums := by kernel_rfl
def G_law05_SineSums : Gam := mkG [(14, S_sine_Cos), (16, S_sine_Sin), (18, S_law05_alive), (19, S_sine_Mul), (20, S_sine_Add), (22, S_sine_Sub), (23, S_law05_common)] []
theorem sg_law05_SineSums : SoundG Go.Proofs.Try.prog 6 (WF G_law05_SineSums 1 FM_law05_SineSums) := WF_sound (allD_ok (n := G_law05_SineSums.n) (l := [14, 16, 18, 19, 20, 22, 23]) ⟨det_sine_Cos, det_sine_Sin, det_law05_alive, det_sine_Mul, det_sine_Add, det_sine_Sub, det_law05_common, trivial⟩) mixP (mkG_ok (n := [(14, S_sine_Cos), (16, S_sine_Sin), (18, S_law05_alive), (19, S_sine_Mul), (20, S_sine_Add), (22, S_sine_Sub), (23, S_law05_common)]) (g := []) ⟨ok_sine_Cos, ok_sine_Sin, ok_law05_alive, ok_sine_Mul, ok_sine_Add, ok_sine_Sub, ok_law05_common, trivial⟩ trivial) eqsP_ok FMc_law05_SineSums
def S_law05_SineSums : NSpec := fun args _ K => match args with
  | [(.i .i64 k), (.i .i64 l), (.i .i64 n)] => (I64 k ∧ I64 l ∧ I64 n) ∧ K (.b true)
  | _ => False
theorem det_law05_SineSums : DetN S_law05_SineSums := by
  intro args H K h
  unfold S_law05_SineSums at h
  split at h
  · exact ⟨_, h.2, fun H' K' _ k => ⟨h.1, k⟩⟩
  · exact h.elim

def NF_law05_SineSums (k l n : Int) (K : AV → Prop) : Prop :=
 (bif decide (n < 1) then K (.b true)
 else (bif decide (720 < n) then K (.b true)
 else (bif decide (k < (-1000000)) then K (.b true)
 else (bif decide (1000000 < k) then K (.b true)
 else (bif decide (l < (-1000000)) then K (.b true)
 else (bif decide (1000000 < l) then K (.b true)
 else ((I64 k ∧ I64 n) ∧
 ((I64 k ∧ I64 n) ∧
 ((I64 l ∧ I64 n) ∧
 ((I64 l ∧ I64 n) ∧
 ((I64 (IntKind.i64.wrap (k + l)) ∧ I64 n) ∧
 ((I64 (IntKind.i64.wrap (k + l)) ∧ I64 n) ∧
 (bif ((cosE k n).e != 0) then K (.b false)
 else (bif ((sinE k n).e != 0) then K (.b false)
 else (bif ((cosE l n).e != 0) then K (.b false)
 else (bif ((sinE l n).e != 0) then K (.b false)
 else (bif ((cosE (IntKind.i64.wrap (k + l)) n).e != 0) then K (.b false)
 else (bif ((sinE (IntKind.i64.wrap (k + l)) n).e != 0) then K (.b false)
 else (((I64 (cosE k n).lo ∧ I64 (cosE k n).hi) ∧ I64 (cosE l n).lo ∧ I64 (cosE l n).hi) ∧
 (((I64 (sinE k n).lo ∧ I64 (sinE k n).hi) ∧ I64 (sinE l n).lo ∧ I64 (sinE l n).hi) ∧
 (((I64 (sinE k n).lo ∧ I64 (sinE k n).hi) ∧ I64 (cosE l n).lo ∧ I64 (cosE l n).hi) ∧
 (((I64 (cosE k n).lo ∧ I64 (cosE k n).hi) ∧ I64 (sinE l n).lo ∧ I64 (sinE l n).hi) ∧
 (((I64 (sMul (cosE k n).lo (cosE k n).hi (cosE l n).lo (cosE l n).hi).lo ∧ I64 (sMul (cosE k n).lo (cosE k n).hi (cosE l n).lo (cosE l n).hi).hi) ∧ I64 (sMul (sinE k n).lo (sinE k n).hi (sinE l n).lo (sinE l n).hi).lo ∧ I64 (sMul (sinE k n).lo (sinE k n).hi (sinE l n).lo (sinE l n).hi).hi) ∧
 (((I64 (sMul (sinE k n).lo (sinE k n).hi (cosE l n).lo (cosE l n).hi).lo ∧ I64 (sMul (sinE k n).lo (sinE k n).hi (cosE l n).lo (cosE l n).hi).hi) ∧ I64 (sMul (cosE k n).lo (cosE k n).hi (sinE l n).lo (sinE l n).hi).lo ∧ I64 (sMul (cosE k n).lo (cosE k n).hi (sinE l n).lo (sinE l n).hi).hi) ∧
 (bif ((sMul (cosE k n).lo (cosE k n).hi (cosE l n).lo (cosE l n).hi).e != 0) then K (.b false)
 else (bif ((sMul (sinE k n).lo (sinE k n).hi (sinE l n).lo (sinE l n).hi).e != 0) then K (.b false)
 else (bif ((sMul (sinE k n).lo (sinE k n).hi (cosE l n).lo (cosE l n).hi).e != 0) then K (.b false)
 else (bif ((sMul (cosE k n).lo (cosE k n).hi (sinE l n).lo (sinE l n).hi).e != 0) then K (.b false)
 else (bif ((sSub (sMul (cosE k n).lo (cosE k n).hi (cosE l n).lo (cosE l n).hi).lo (sMul (cosE k n).lo (cosE k n).hi (cosE l n).lo (cosE l n).hi).hi (sMul (sinE k n).lo (sinE k n).hi (sinE l n).lo (sinE l n).hi).lo (sMul (sinE k n).lo (sinE k n).hi (sinE l n).lo (sinE l n).hi).hi).e != 0) then K (.b false)
 else (bif ((sAdd (sMul (sinE k n).lo (sinE k n).hi (cosE l n).lo (cosE l n).hi).lo (sMul (sinE k n).lo (sinE k n).hi (cosE l n).lo (cosE l n).hi).hi (sMul (cosE k n).lo (cosE k n).hi (sinE l n).lo (sinE l n).hi).lo (sMul (cosE k n).lo (cosE k n).hi (sinE l n).lo (sinE l n).hi).hi).e != 0) then K (.b false)
 else (bif (!(decide ((sSub (sMul (cosE k n).lo (cosE k n).hi (cosE l n).lo (cosE l n).hi).lo (sMul (cosE k n).lo (cosE k n).hi (cosE l n).lo (cosE l n).hi).hi (sMul (sinE k n).lo (sinE k n).hi (sinE l n).lo (sinE l n).hi).lo (sMul (sinE k n).lo (sinE k n).hi (sinE l n).lo (sinE l n).hi).hi).lo ≤ (cosE (IntKind.i64.wrap (k + l)) n).hi ∧ (cosE (IntKind.i64.wrap (k + l)) n).lo ≤ (sSub (sMul (cosE k n).lo (cosE k n).hi (cosE l n).lo (cosE l n).hi).lo (sMul (cosE k n).lo (cosE k n).hi (cosE l n).lo (cosE l n).hi).hi (sMul (sinE k n).lo (sinE k n).hi (sinE l n).lo (sinE l n).hi).lo (sMul (sinE k n).lo (sinE k n).hi (sinE l n).lo (sinE l n).hi).hi).hi))) then K (.b false)
 else (bif (!(decide ((sAdd (sMul (sinE k n).lo (sinE k n).hi (cosE l n).lo (cosE l n).hi).lo (sMul (sinE k n).lo (sinE k n).hi (cosE l n).lo (cosE l n).hi).hi (sMul (cosE k n).lo (cosE k n).hi (sinE l n).lo (sinE l n).hi).lo (sMul (cosE k n).lo (cosE k n).hi (sinE l n).lo (sinE l n).hi).hi).lo ≤ (sinE (IntKind.i64.wrap (k + l)) n).hi ∧ (sinE (IntKind.i64.wrap (k + l)) n).lo ≤ (sAdd (sMul (sinE k n).lo (sinE k n).hi (cosE l n).lo (cosE l n).hi).lo (sMul (sinE k n).lo (sinE k n).hi (cosE l n).lo (cosE l n).hi).hi (sMul (cosE k n).lo (cosE k n).hi (sinE l n).lo (sinE l n).hi).lo (sMul (cosE k n).lo (cosE k n).hi (sinE l n).lo (sinE l n).hi).hi).hi))) then K (.b false)
 else ((I64 (IntKind.i64.wrap (2 * k)) ∧ I64 n) ∧
 (((I64 (cosE k n).lo ∧ I64 (cosE k n).hi) ∧ I64 (cosE k n).lo ∧ I64 (cosE k n).hi) ∧
 (((I64 (sMul (cosE k n).lo (cosE k n).hi (cosE k n).lo (cosE k n).hi).lo ∧ I64 (sMul (cosE k n).lo (cosE k n).hi (cosE k n).lo (cosE k n).hi).hi) ∧ I64 (sMul (cosE k n).lo (cosE k n).hi (cosE k n).lo (cosE k n).hi).lo ∧ I64 (sMul (cosE k n).lo (cosE k n).hi (cosE k n).lo (cosE k n).hi).hi) ∧
 (((I64 (sAdd (sMul (cosE k n).lo (cosE k n).hi (cosE k n).lo (cosE k n).hi).lo (sMul (cosE k n).lo (cosE k n).hi (cosE k n).lo (cosE k n).hi).hi (sMul (cosE k n).lo (cosE k n).hi (cosE k n).lo (cosE k n).hi).lo (sMul (cosE k n).lo (cosE k n).hi (cosE k n).lo (cosE k n).hi).hi).lo ∧ I64 (sAdd (sMul (cosE k n).lo (cosE k n).hi (cosE k n).lo (cosE k n).hi).lo (sMul (cosE k n).lo (cosE k n).hi (cosE k n).lo (cosE k n).hi).hi (sMul (cosE k n).lo (cosE k n).hi (cosE k n).lo (cosE k n).hi).lo (sMul (cosE k n).lo (cosE k n).hi (cosE k n).lo (cosE k n).hi).hi).hi) ∧ I64 (1000000 : Int) ∧ I64 (1000000 : Int)) ∧
 (bif ((cosE (IntKind.i64.wrap (2 * k)) n).e == 0) then (bif ((sMul (cosE k n).lo (cosE k n).hi (cosE k n).lo (cosE k n).hi).e == 0) then (bif ((sAdd (sMul (cosE k n).lo (cosE k n).hi (cosE k n).lo (cosE k n).hi).lo (sMul (cosE k n).lo (cosE k n).hi (cosE k n).lo (cosE k n).hi).hi (sMul (cosE k n).lo (cosE k n).hi (cosE k n).lo (cosE k n).hi).lo (sMul (cosE k n).lo (cosE k n).hi (cosE k n).lo (cosE k n).hi).hi).e == 0) then (bif ((sSub (sAdd (sMul (cosE k n).lo (cosE k n).hi (cosE k n).lo (cosE k n).hi).lo (sMul (cosE k n).lo (cosE k n).hi (cosE k n).lo (cosE k n).hi).hi (sMul (cosE k n).lo (cosE k n).hi (cosE k n).lo (cosE k n).hi).lo (sMul (cosE k n).lo (cosE k n).hi (cosE k n).lo (cosE k n).hi).hi).lo (sAdd (sMul (cosE k n).lo (cosE k n).hi (cosE k n).lo (cosE k n).hi).lo (sMul (cosE k n).lo (cosE k n).hi (cosE k n).lo (cosE k n).hi).hi (sMul (cosE k n).lo (cosE k n).hi (cosE k n).lo (cosE k n).hi).lo (sMul (cosE k n).lo (cosE k n).hi (cosE k n).lo (cosE k n).hi).hi).hi (1000000 : Int) (1000000 : Int)).e == 0) then (bif (decide ((cosE (IntKind.i64.wrap (2 * k)) n).lo ≤ (sSub (sAdd (sMul (cosE k n).lo (cosE k n).hi (cosE k n).lo (cosE k n).hi).lo (sMul (cosE k n).lo (cosE k n).hi (cosE k n).lo (cosE k n).hi).hi (sMul (cosE k n).lo (cosE k n).hi (cosE k n).lo (cosE k n).hi).lo (sMul (cosE k n).lo (cosE k n).hi (cosE k n).lo (cosE k n).hi).hi).lo (sAdd (sMul (cosE k n).lo (cosE k n).hi (cosE k n).lo (cosE k n).hi).lo (sMul (cosE k n).lo (cosE k n).hi (cosE k n).lo (cosE k n).hi).hi (sMul (cosE k n).lo (cosE k n).hi (cosE k n).lo (cosE k n).hi).lo (sMul (cosE k n).lo (cosE k n).hi (cosE k n).lo (cosE k n).hi).hi).hi (1000000 : Int) (1000000 : Int)).hi ∧ (sSub (sAdd (sMul (cosE k n).lo (cosE k n).hi (cosE k n).lo (cosE k n).hi).lo (sMul (cosE k n).lo (cosE k n).hi (cosE k n).lo (cosE k n).hi).hi (sMul (cosE k n).lo (cosE k n).hi (cosE k n).lo (cosE k n).hi).lo (sMul (cosE k n).lo (cosE k n).hi (cosE k n).lo (cosE k n).hi).hi).lo (sAdd (sMul (cosE k n).lo (cosE k n).hi (cosE k n).lo (cosE k n).hi).lo (sMul (cosE k n).lo (cosE k n).hi (cosE k n).lo (cosE k n).hi).hi (sMul (cosE k n).lo (cosE k n).hi (cosE k n).lo (cosE k n).hi).lo (sMul (cosE k n).lo (cosE k n).hi (cosE k n).lo (cosE k n).hi).hi).hi (1000000 : Int) (1000000 : Int)).lo ≤ (cosE (IntKind.i64.wrap (2 * k)) n).hi)) then K (.b true)
 else K (.b false))
 else K (.b false))
 else K (.b false))
 else K (.b false))
 else K (.b false))))))))))))))))))))))))))))))))))))))
theorem nf_law05_SineSums (k l n : Int) (K : AV → Prop) : WFR 8 G_law05_SineSums 1 FM_law05_SineSums [(.i .i64 k), (.i .i64 l), (.i .i64 n)] [] (fun a _ => K a) = NF_law05_SineSums k l n K := by kernel_rfl
theorem key_law05_SineSums (k l n : Int) {K : AV → Prop} (hp : I64 k ∧ I64 l ∧ I64 n) (hk : K (.b true)) : NF_law05_SineSums k l n K := by
  unfold NF_law05_SineSums
  obtain ⟨hk1, hl1, hn1⟩ := hp
  refine bif_i (fun _ => hk) (fun g1 => bif_i (fun _ => hk) (fun g2 => bif_i (fun _ => hk) (fun g3 => bif_i (fun _ => hk) (fun g4 => bif_i (fun _ => hk) (fun g5 => bif_i (fun _ => hk) (fun g6 => ?_))))))
  simp only [decide_eq_false_iff_not] at g1 g2 g3 g4 g5 g6
  have h1 : 1 ≤ n := by omega
  have h2 : n ≤ 720 := by omega
  have wk : IntKind.i64.wrap (k + l) = k + l := wrap_i64 (by omega) (by omega)
  have w2 : IntKind.i64.wrap (2 * k) = 2 * k := wrap_i64 (by omega) (by omega)
  have z1 := (circ_all (u := 4 * k) h1 h2).box
  have z2 := (circ_all (u := 4 * l) h1 h2).box
  obtain ⟨p, q, r, s, t, e1, e2, e3, e4, e5, c1, c2, c3⟩ := sums_ok (u := 4 * k) (v := 4 * l) h1 h2
  have ce3 : cosE (k + l) n = ⟨(cosF (4 * k + 4 * l) (4 * n)).1, (cosF (4 * k + 4 * l) (4 * n)).2, 0⟩ := by rw [cosE_ok h1 h2, Int.mul_add]
  have se3 : sinE (k + l) n = ⟨(cosF (4 * k + 4 * l - n) (4 * n)).1, (cosF (4 * k + 4 * l - n) (4 * n)).2, 0⟩ := by rw [sinE_ok h1 h2, Int.mul_add]
  have ce4 : cosE (2 * k) n = ⟨(cosF (4 * k + 4 * k) (4 * n)).1, (cosF (4 * k + 4 * k) (4 * n)).2, 0⟩ := by rw [cosE_ok h1 h2, show 4 * (2 * k) = 4 * k + 4 * k by omega]
  simp only [wk, w2, ce3, se3, ce4, cosE_ok (k := k) h1 h2, sinE_ok (k := k) h1 h2, cosE_ok (k := l) h1 h2, sinE_ok (k := l) h1 h2]
  simp only [e1, e2, e3, e4, e5]
  obtain ⟨pl, ph, po⟩ := p
  obtain ⟨ql, qh, qo⟩ := q
  obtain ⟨rl, rh, ro⟩ := r
  obtain ⟨sl, sh, so⟩ := s
  obtain ⟨tl, th, to⟩ := t
  simp only at c1 c2 c3 ⊢
  have f1 : sSub pl ph ql qh = ⟨pl - qh, ph - ql, 0⟩ := by
    unfold sSub mkS
    rw [if_pos (by unfold spanOk; omega), if_pos (by unfold spanOk; omega)]
  have f2 : sAdd rl rh sl sh = ⟨rl + sl, rh + sh, 0⟩ := by
    unfold sAdd mkS
    rw [if_pos (by unfold spanOk; omega), if_pos (by unfold spanOk; omega)]
  have f3 : sAdd tl th tl th = ⟨tl + tl, th + th, 0⟩ := by
    unfold sAdd mkS
    rw [if_pos (by unfold spanOk; omega), if_pos (by unfold spanOk; omega)]
  have f4 : sSub (tl + tl) (th + th) 1000000 1000000 = ⟨tl + tl - 1000000, th + th - 1000000, 0⟩ := by
    unfold sSub mkS
    rw [if_pos (by unfold spanOk; omega), if_pos (by unfold spanOk; omega)]
  simp only [f1, f2, f3, f4]
  generalize cosF (4 * k) (4 * n) = a at *
  generalize cosF (4 * k - n) (4 * n) = b at *
  generalize cosF (4 * l) (4 * n) = c at *
  generalize cosF (4 * l - n) (4 * n) = d at *
  obtain ⟨za, zb⟩ := z1
  obtain ⟨zc, zd⟩ := z2
  have ia : I64 a.1 ∧ I64 a.2 := ⟨⟨by omega, by omega⟩, by omega, by omega⟩
  have ib : I64 b.1 ∧ I64 b.2 := ⟨⟨by omega, by omega⟩, by omega, by omega⟩
  have ic : I64 c.1 ∧ I64 c.2 := ⟨⟨by omega, by omega⟩, by omega, by omega⟩
  have id : I64 d.1 ∧ I64 d.2 := ⟨⟨by omega, by omega⟩, by omega, by omega⟩
  have ip : I64 pl ∧ I64 ph := ⟨⟨by omega, by omega⟩, by omega, by omega⟩
  have iq : I64 ql ∧ I64 qh := ⟨⟨by omega, by omega⟩, by omega, by omega⟩
  have ir : I64 rl ∧ I64 rh := ⟨⟨by omega, by omega⟩, by omega, by omega⟩
  have is : I64 sl ∧ I64 sh := ⟨⟨by omega, by omega⟩, by omega, by omega⟩
  have it : I64 tl ∧ I64 th := ⟨⟨by omega, by omega⟩, by omega, by omega⟩
  have it2 : I64 (tl + tl) ∧ I64 (th + th) := ⟨⟨by omega, by omega⟩, by omega, by omega⟩
  have iw : I64 (k + l) ∧ I64 n := ⟨⟨by omega, by omega⟩, hn1⟩
  have i2 : I64 (2 * k) ∧ I64 n := ⟨⟨by omega, by omega⟩, hn1⟩
  have iu : I64 (1000000 : Int) ∧ I64 (1000000 : Int) := ⟨⟨by omega, by omega⟩, by omega, by omega⟩
  refine ⟨⟨hk1, hn1⟩, ⟨hk1, hn1⟩, ⟨hl1, hn1⟩, ⟨hl1, hn1⟩, iw, iw, bif_f rfl (bif_f rfl (bif_f rfl (bif_f rfl (bif_f rfl (bif_f rfl ⟨⟨ia, ic⟩, ⟨ib, id⟩, ⟨ib, ic⟩, ⟨ia, id⟩, ⟨ip, iq⟩, ⟨ir, is⟩, bif_f rfl (bif_f rfl (bif_f rfl (bif_f rfl (bif_f rfl (bif_f rfl (bif_f ?_ (bif_f ?_ ⟨i2, ⟨ia, ia⟩, ⟨it, it⟩, ⟨it2, iu⟩, ?_⟩)))))))⟩)))))⟩
  · rw [decide_eq_true c1]; rfl
  · rw [decide_eq_true c2]; rfl
  refine bif_t rfl (bif_t rfl (bif_t rfl (bif_t rfl (bif_t ?_ hk))))
  exact decide_eq_true ⟨c3.1, c3.2⟩
theorem ok_law05_SineSums : SoundN Go.Proofs.Try.prog 6 S_law05_SineSums := by
  refine soundN_of sg_law05_SineSums fun args H K hS => ?_
  unfold S_law05_SineSums at hS
  split at hS
  · rename_i k l n
    have hS1 := key_law05_SineSums k l n (K := fun a => plainA a = true ∧ K a) hS.1 ⟨by simp [plainA, plainL], hS.2⟩
    refine ⟨by simp [plainA, plainL], ?_⟩
    refine WFR_imp (D := 8) ?_
    rw [nf_law05_SineSums k l n fun a => plainA a = true ∧ K a]
    exact hS1
  · exact hS.elim

end Go.Proofs.Ytkmhmabkahaekaa.V
