/-
  Contracts, printed by a program of this session (wip/tool/sym.py) from the unit text fr7: what each function comes to, and its proof.
-/
import Derived.Test.YtkmhmabkahaekaaFr6
import Derived.Test.YtkmhmabkahaekaaProg
set_option linter.unusedVariables false
set_option linter.unusedSimpArgs false
set_option maxRecDepth 100000
namespace Go.Proofs.Ytkmhmabkahaekaa.V
open Go Go.RowKit
open Go.IntKind (u64 i64 u8 i32 u32)


def AddInv0 (a b c d P Q g h l y z : Int) : Prop :=
  okF a b ∧ okF c d ∧ P = b ∧ Q = d ∧ g = (Int.gcd b d : Nat) ∧ (U64 h ∧ U64 l) ∧ (U64 y ∧ U64 z) ∧ h * 18446744073709551616 + l = (a.natAbs : Int) * (d / (Int.gcd b d : Nat)) ∧ y * 18446744073709551616 + z = (c.natAbs : Int) * (b / (Int.gcd b d : Nat))
/-- What stands behind the sum: the parts of what is added, its sign. -/
def AddInv (a b c d P Q g : Int) (m : Bool) (h l : Int) : Prop :=
  okF a b ∧ okF c d ∧ P = b ∧ Q = d ∧ g = (Int.gcd b d : Nat) ∧ U64 h ∧ U64 l ∧ h * 18446744073709551616 + l = (a * (d / (Int.gcd b d : Nat)) + c * (b / (Int.gcd b d : Nat))).natAbs ∧ (a * (d / (Int.gcd b d : Nat)) + c * (b / (Int.gcd b d : Nat)) ≠ 0 → (m = true ↔ a * (d / (Int.gcd b d : Nat)) + c * (b / (Int.gcd b d : Nat)) < 0))
theorem add_bounds {a b c d : Int} (h1 : okF a b) (h2 : okF c d) : (0 : Int) < (Int.gcd b d : Nat) ∧ (1 ≤ d / (Int.gcd b d : Nat) ∧ d / (Int.gcd b d : Nat) ≤ 1000000000000000000) ∧ (1 ≤ b / (Int.gcd b d : Nat) ∧ b / (Int.gcd b d : Nat) ≤ 1000000000000000000) := by
  obtain ⟨g, p, q, hg, g0, hb, hd, p0, q0, _⟩ := add_lowest h1 h2
  obtain ⟨⟨a1, a2, a3, a4⟩, a5⟩ := id h1
  obtain ⟨⟨c1, c2, c3, c4⟩, c5⟩ := id h2
  have e1 : b / g = p := by rw [hb, Int.mul_ediv_cancel_left _ (by omega)]
  have e2 : d / g = q := by rw [hd, Int.mul_ediv_cancel_left _ (by omega)]
  have l1 := div_le_of (x := b) (y := g) (by omega) g0
  have l2 := div_le_of (x := d) (y := g) (by omega) g0
  rw [← hg]
  exact ⟨g0, ⟨by omega, by omega⟩, by omega, by omega⟩
theorem add_signs {a q : Int} (hq : 1 ≤ q) : (a.natAbs : Int) * q = ((a * q).natAbs : Int) ∧ (a * q < 0 ↔ a < 0) := by
  constructor
  · rw [Int.natAbs_mul, Int.natCast_mul, Int.natAbs_of_nonneg (a := q) (by omega)]
  · constructor
    · intro h
      rcases Int.lt_or_le a 0 with h' | h'
      · exact h'
      · have := Int.mul_nonneg h' (show 0 ≤ q by omega); omega
    · intro h
      exact Int.mul_neg_of_neg_of_pos h (by omega)
theorem add_mags {a b c d : Int} (h1 : okF a b) (h2 : okF c d) : (a.natAbs : Int) * (d / (Int.gcd b d : Nat)) ≤ 1000000000000000000000000000000000000 ∧ (c.natAbs : Int) * (b / (Int.gcd b d : Nat)) ≤ 1000000000000000000000000000000000000 := by
  obtain ⟨g0, ⟨q1, q2⟩, p1, p2⟩ := add_bounds h1 h2
  obtain ⟨⟨a1, a2, a3, a4⟩, a5⟩ := id h1
  obtain ⟨⟨c1, c2, c3, c4⟩, c5⟩ := id h2
  have m1 := Int.mul_le_mul (show (a.natAbs : Int) ≤ 1000000000000000000 by omega) q2 (by omega) (by omega)
  have m2 := Int.mul_le_mul (show (c.natAbs : Int) ≤ 1000000000000000000 by omega) p2 (by omega) (by omega)
  omega
theorem addInv_of {a b c d P Q g h l y z S : Int} {m : Bool} (hi : AddInv0 a b c d P Q g h l y z) (hS : S = ((a * (d / (Int.gcd b d : Nat)) + c * (b / (Int.gcd b d : Nat))).natAbs : Int)) (hm : (a * (d / (Int.gcd b d : Nat)) + c * (b / (Int.gcd b d : Nat))) ≠ 0 → (m = true ↔ (a * (d / (Int.gcd b d : Nat)) + c * (b / (Int.gcd b d : Nat))) < 0)) : AddInv a b c d P Q g m (S / 18446744073709551616) (S % 18446744073709551616) := by
  obtain ⟨h1, h2, e1, e2, e3, u1, u2, k1, k2⟩ := hi
  obtain ⟨g0, ⟨q1, q2⟩, p1, p2⟩ := add_bounds h1 h2
  obtain ⟨m1, m2⟩ := add_mags h1 h2
  rw [(add_signs q1).1] at m1
  rw [(add_signs p1).1] at m2
  refine ⟨h1, h2, e1, e2, e3, ?_, ?_, ?_, hm⟩
  · unfold U64; generalize a * (d / (Int.gcd b d : Nat)) = A at *; generalize c * (b / (Int.gcd b d : Nat)) = C at *; omega
  · unfold U64; omega
  · omega
theorem add_facts {a b c d : Int} (h1 : okF a b) (h2 : okF c d) :
    u64.wrap b = b ∧ u64.wrap d = d ∧ decide (((Int.gcd b d : Nat) : Int) ≠ 0) = true ∧
    u64.wrap (Int.tdiv d (Int.gcd b d : Nat)) = d / (Int.gcd b d : Nat) ∧
    u64.wrap (Int.tdiv b (Int.gcd b d : Nat)) = b / (Int.gcd b d : Nat) ∧
    (U64 b ∧ U64 d) ∧ (U64 ((a.natAbs : Nat) : Int) ∧ U64 (d / (Int.gcd b d : Nat))) ∧ (U64 ((c.natAbs : Nat) : Int) ∧ U64 (b / (Int.gcd b d : Nat))) := by
  obtain ⟨g0, ⟨q1, q2⟩, p1, p2⟩ := add_bounds h1 h2
  obtain ⟨⟨a1, a2, a3, a4⟩, a5⟩ := id h1
  obtain ⟨⟨c1, c2, c3, c4⟩, c5⟩ := id h2
  refine ⟨wrap_u64 (by omega) (by omega), wrap_u64 (by omega) (by omega), by rw [decide_eq_true_eq]; omega, ?_, ?_, ⟨⟨by omega, by omega⟩, by omega, by omega⟩, ⟨⟨by omega, by omega⟩, by omega, by omega⟩, ⟨⟨by omega, by omega⟩, by omega, by omega⟩⟩
  · rw [tdiv_pos (by omega)]; exact wrap_u64 (by omega) (by omega)
  · rw [tdiv_pos (by omega)]; exact wrap_u64 (by omega) (by omega)
theorem addInv0 {a b c d : Int} (h1 : okF a b) (h2 : okF c d) : AddInv0 a b c d b d (Int.gcd b d : Nat) ((a.natAbs : Int) * (d / (Int.gcd b d : Nat)) / 18446744073709551616) ((a.natAbs : Int) * (d / (Int.gcd b d : Nat)) % 18446744073709551616) ((c.natAbs : Int) * (b / (Int.gcd b d : Nat)) / 18446744073709551616) ((c.natAbs : Int) * (b / (Int.gcd b d : Nat)) % 18446744073709551616) := by
  obtain ⟨g0, ⟨q1, q2⟩, p1, p2⟩ := add_bounds h1 h2
  obtain ⟨⟨a1, a2, a3, a4⟩, a5⟩ := id h1
  obtain ⟨⟨c1, c2, c3, c4⟩, c5⟩ := id h2
  have b1 := mul_big (x := (a.natAbs : Int)) (y := d / (Int.gcd b d : Nat)) (by omega) (by omega) (by omega) (by omega)
  have b2 := mul_big (x := (c.natAbs : Int)) (y := b / (Int.gcd b d : Nat)) (by omega) (by omega) (by omega) (by omega)
  exact ⟨h1, h2, rfl, rfl, rfl, b1, b2, by omega, by omega⟩
theorem sgn_neg {x : Int} : sgn x < 0 ↔ x < 0 := by unfold sgn; split <;> (try split) <;> omega

end Go.Proofs.Ytkmhmabkahaekaa.V
