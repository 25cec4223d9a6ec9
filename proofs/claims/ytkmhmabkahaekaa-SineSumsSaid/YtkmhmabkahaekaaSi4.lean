/-
  Contracts, printed by a program of this session (wip/tool/sym.py) from the unit text si4: what each function comes to, and its proof.
-/
import Derived.Test.YtkmhmabkahaekaaSi2
import Derived.Test.YtkmhmabkahaekaaProg
import Derived.Test.YtkmhmabkahaekaaFin1
import Derived.Test.YtkmhmabkahaekaaFin2
import Derived.Test.YtkmhmabkahaekaaFin3
import Derived.Test.YtkmhmabkahaekaaFin4
import Derived.Test.YtkmhmabkahaekaaFin5
import Derived.Test.YtkmhmabkahaekaaFin6
set_option linter.unusedVariables false
set_option linter.unusedSimpArgs false
set_option maxRecDepth 100000
namespace Go.Proofs.Ytkmhmabkahaekaa.V
open Go Go.RowKit


namespace Fin
theorem rec_all {f : Nat → Bool} : ∀ (k : Nat), (Nat.rec true (fun j r => f j && r) k : Bool) = true → ∀ j, j < k → f j = true
  | 0, _, j, h => absurd h (by omega)
  | k + 1, h, j, hj => by
    have h' : (f k && (Nat.rec true (fun j r => f j && r) k : Bool)) = true := h
    rw [Bool.and_eq_true] at h'
    by_cases e : j = k
    · subst e; exact h'.1
    · exact rec_all k h'.2 j (by omega)
theorem chkN_all {n : Nat} (h1 : 1 ≤ n) (h2 : n ≤ 720) : chkN n = true := by
  have key : ∀ {a k : Nat}, chkR a k = true → a ≤ n → n < a + k → chkN n = true := by
    intro a k h ha hk
    have := rec_all (f := fun i => chkN (Nat.add a i)) k h (n - a) (by omega)
    have e : Nat.add a (n - a) = n := by show a + (n - a) = n; omega
    rwa [e] at this
  by_cases a1 : n < 300
  · exact key part1 h1 a1
  by_cases a2 : n < 420
  · exact key part2 (by omega) a2
  by_cases a3 : n < 515
  · exact key part3 (by omega) a3
  by_cases a4 : n < 594
  · exact key part4 (by omega) a4
  by_cases a5 : n < 660
  · exact key part5 (by omega) a5
  · exact key part6 (by omega) (by omega)
theorem chk1_all {n j : Nat} (h1 : 1 ≤ n) (h2 : n ≤ 720) (h3 : 2 * j ≤ n) : chk1 j (4 * n) = true := by
  have := rec_all (f := fun j => chk1 j (Nat.mul 4 n)) _ (chkN_all h1 h2) j (by show j < n / 2 + 1; omega)
  exact this
end Fin
/-- What the finite check says of a part of a turn. -/
def ChkF (a b : Int) : Prop := Fin.cosMP (Fin.angP a.toNat b.toNat) = Fin.cosMR (Fin.angR a.toNat b.toNat) ∧ (12 * a ≠ b → Fin.sinMP (Fin.angP a.toNat b.toNat) = Fin.sinMR (Fin.angR a.toNat b.toNat)) ∧
  Fin.circ (Fin.cosMP (Fin.angP a.toNat b.toNat)) (Fin.sinMP (Fin.angP a.toNat b.toNat)) = true
theorem chkF_of {n a : Int} (h1 : 1 ≤ n) (h2 : n ≤ 720) (ha : 0 < a) (h3 : 2 * a ≤ n) : ChkF a (4 * n) := by
  obtain ⟨m, rfl⟩ := Int.eq_ofNat_of_zero_le (show 0 ≤ n by omega)
  obtain ⟨j, rfl⟩ := Int.eq_ofNat_of_zero_le (Int.le_of_lt ha)
  have h := Fin.chk1_all (n := m) (j := j) (by omega) (by omega) (by omega)
  unfold Fin.chk1 at h
  unfold ChkF
  rw [show Int.toNat (4 * (m : Int)) = 4 * m by omega, Int.toNat_natCast]
  have hj : Nat.beq j 0 = false := by cases e : Nat.beq j 0 with
    | false => rfl
    | true => have := Nat.eq_of_beq_eq_true e; omega
  rw [hj, Bool.false_or] at h
  simp only [Bool.and_eq_true, Bool.or_eq_true] at h
  obtain ⟨⟨g1, g2⟩, g3⟩ := h
  refine ⟨Nat.eq_of_beq_eq_true g1, fun hne => ?_, g3⟩
  rcases g2 with g2 | g2
  · have e : 12 * j = 4 * m := Nat.eq_of_beq_eq_true g2
    exact absurd (by omega) hne
  · exact Nat.eq_of_beq_eq_true g2
theorem angP_scale {c a b : Int} (hc : 0 < c) (ha : 0 ≤ a) (hb : 0 ≤ b) : Fin.angP (c * a).toNat (c * b).toNat = Fin.angP a.toNat b.toNat := by
  obtain ⟨c, rfl⟩ := Int.eq_ofNat_of_zero_le (Int.le_of_lt hc)
  obtain ⟨a, rfl⟩ := Int.eq_ofNat_of_zero_le ha
  obtain ⟨b, rfl⟩ := Int.eq_ofNat_of_zero_le hb
  rw [← Int.natCast_mul, ← Int.natCast_mul]
  simp only [Int.toNat_natCast]
  show 6283185307179586477 * (c * a) / (c * b) = 6283185307179586477 * a / b
  rw [Nat.mul_left_comm, Nat.mul_div_mul_left _ _ (by omega)]
theorem angR_scale {c a b : Int} (hc : 0 < c) (ha : 0 ≤ a) (hb : 0 ≤ b) : Fin.angR (c * a).toNat (c * b).toNat = Fin.angR a.toNat b.toNat := by
  obtain ⟨c, rfl⟩ := Int.eq_ofNat_of_zero_le (Int.le_of_lt hc)
  obtain ⟨a, rfl⟩ := Int.eq_ofNat_of_zero_le ha
  obtain ⟨b, rfl⟩ := Int.eq_ofNat_of_zero_le hb
  rw [← Int.natCast_mul, ← Int.natCast_mul]
  simp only [Int.toNat_natCast]
  show 628318530717958648 * (c * a) / (c * b) = 628318530717958648 * a / b
  rw [Nat.mul_left_comm, Nat.mul_div_mul_left _ _ (by omega)]
theorem chkF_scale {c a b : Int} (hc : 0 < c) (ha : 0 ≤ a) (hb : 0 ≤ b) : ChkF (c * a) (c * b) ↔ ChkF a b := by
  unfold ChkF
  rw [angP_scale hc ha hb, angR_scale hc ha hb]
  have : 12 * (c * a) ≠ c * b ↔ 12 * a ≠ b := by
    rw [Int.mul_left_comm]
    constructor
    · intro h e; exact h (by rw [e])
    · intro h e; exact h (Int.eq_of_mul_eq_mul_left (by omega) e)
  rw [this]
theorem ang_eighth {a : Int} (ha : 0 < a) : Fin.angP a.toNat (8 * a).toNat = 785398163397448309 ∧ Fin.angR a.toNat (8 * a).toNat = 78539816339744831 := by
  obtain ⟨a, rfl⟩ := Int.eq_ofNat_of_zero_le (Int.le_of_lt ha)
  rw [show Int.toNat (8 * (a : Int)) = 8 * a by omega, Int.toNat_natCast]
  constructor
  · show 6283185307179586477 * a / (8 * a) = _
    rw [Nat.mul_div_mul_right _ _ (by omega)]
  · show 628318530717958648 * a / (8 * a) = _
    rw [Nat.mul_div_mul_right _ _ (by omega)]
theorem mid_val : Fin.sinMP 785398163397448309 = 707106 ∧ Fin.cosMR 78539816339744831 = 707106 ∧ Fin.cosMP 785398163397448309 = 707106 := by decide +kernel
theorem octF_t {k n : Int} (h : k ≠ 0) : octF k n true = if 12 * k = n then (500000, 500000) else (((Fin.sinMP (Fin.angP k.toNat n.toNat) : Nat) : Int), ((Fin.sinMP (Fin.angP k.toNat n.toNat) : Nat) : Int) + 1) := by
  unfold octF; rw [if_neg h]; simp only [true_and, if_true]
theorem octF_f {k n : Int} (h : k ≠ 0) : octF k n false = (((Fin.cosMP (Fin.angP k.toNat n.toNat) : Nat) : Int), ((Fin.cosMP (Fin.angP k.toNat n.toNat) : Nat) : Int) + 1) := by
  unfold octF; rw [if_neg h]; simp only [Bool.false_eq_true, false_and, if_false]
theorem octF_t0 (n : Int) : octF 0 n true = (0, 0) := by unfold octF; simp
theorem octF_f0 (n : Int) : octF 0 n false = (1000000, 1000000) := by unfold octF; simp
theorem min_neg {x m : Int} (hm : 0 < m) : min ((-x) % m) (m - (-x) % m) = min (x % m) (m - x % m) := by
  have a0 := Int.emod_nonneg x (b := m) (by omega)
  have a1 := Int.emod_lt_of_pos x hm
  have q := Int.mul_ediv_add_emod x m
  by_cases z : x % m = 0
  · have : (-x) % m = 0 := by
      rw [show -x = m * -(x / m) by rw [Int.mul_neg]; omega]; simp
    rw [z, this]
  · have : (-x) % m = m - x % m := by
      rw [show -x = (m - x % m) + m * (-(x / m) - 1) by rw [Int.mul_sub, Int.mul_neg]; omega, Int.add_mul_emod_self_left, Int.emod_eq_of_lt (by omega) (by omega)]
    rw [this]; omega

end Go.Proofs.Ytkmhmabkahaekaa.V
