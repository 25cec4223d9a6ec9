/-
  Contracts, printed by a program of this session (wip/tool/sym.py) from the unit text fr6: what each function comes to, and its proof.
-/
import Derived.Test.YtkmhmabkahaekaaFr5
import Derived.Test.YtkmhmabkahaekaaProg
set_option linter.unusedVariables false
set_option linter.unusedSimpArgs false
set_option maxRecDepth 100000
namespace Go.Proofs.Ytkmhmabkahaekaa.V
open Go Go.RowKit
open Go.IntKind (u64 i64 u8 i32 u32)


def MulInvG (a b c d g q : Int) : Prop := okF a b ∧ okF c d ∧ g = (Int.gcd a d : Nat) ∧ q = (Int.gcd c b : Nat)
def MulInv (a b c d h l y z : Int) : Prop :=
  okF a b ∧ okF c d ∧ U64 h ∧ U64 l ∧ U64 y ∧ U64 z ∧ h * 18446744073709551616 + l = (a.natAbs : Int) / (Int.gcd a d : Nat) * ((c.natAbs : Int) / (Int.gcd c b : Nat)) ∧ y * 18446744073709551616 + z = b / (Int.gcd c b : Nat) * (d / (Int.gcd a d : Nat))


theorem gcd_abs (a b : Int) : Int.gcd (a.natAbs : Int) b = Int.gcd a b := by simp [Int.gcd]
theorem div_le_of {x y : Int} (hx : 0 ≤ x) (hy : 0 < y) : 0 ≤ x / y ∧ x / y ≤ x := ⟨Int.ediv_nonneg hx (by omega), Int.ediv_le_self _ hx⟩
theorem mul_parts {a b c d : Int} (h1 : okF a b) (h2 : okF c d) : (0 < (Int.gcd a d : Nat)) ∧ (0 < (Int.gcd c b : Nat)) := by
  obtain ⟨⟨q1, q2, q3, q4⟩, q5⟩ := id h1
  obtain ⟨⟨r1, r2, r3, r4⟩, r5⟩ := id h2
  exact ⟨Int.gcd_pos_of_ne_zero_right _ (by omega), Int.gcd_pos_of_ne_zero_right _ (by omega)⟩
theorem mul_facts {a b c d : Int} (h1 : okF a b) (h2 : okF c d) :
    u64.wrap b = b ∧ u64.wrap d = d ∧ Int.gcd (a.natAbs : Int) d = Int.gcd a d ∧ Int.gcd (c.natAbs : Int) b = Int.gcd c b ∧
    decide (((Int.gcd a d : Nat) : Int) ≠ 0) = true ∧ decide (((Int.gcd c b : Nat) : Int) ≠ 0) = true ∧
    u64.wrap (Int.tdiv (a.natAbs : Int) (Int.gcd a d : Nat)) = (a.natAbs : Int) / (Int.gcd a d : Nat) ∧
    u64.wrap (Int.tdiv (c.natAbs : Int) (Int.gcd c b : Nat)) = (c.natAbs : Int) / (Int.gcd c b : Nat) ∧
    u64.wrap (Int.tdiv b (Int.gcd c b : Nat)) = b / (Int.gcd c b : Nat) ∧
    u64.wrap (Int.tdiv d (Int.gcd a d : Nat)) = d / (Int.gcd a d : Nat) ∧
    (U64 ((a.natAbs : Nat) : Int) ∧ U64 d) ∧ (U64 ((c.natAbs : Nat) : Int) ∧ U64 b) ∧
    (U64 ((a.natAbs : Int) / (Int.gcd a d : Nat)) ∧ U64 ((c.natAbs : Int) / (Int.gcd c b : Nat))) ∧
    (U64 (b / (Int.gcd c b : Nat)) ∧ U64 (d / (Int.gcd a d : Nat))) := by
  obtain ⟨g1, g2⟩ := mul_parts h1 h2
  obtain ⟨⟨q1, q2, q3, q4⟩, q5⟩ := id h1
  obtain ⟨⟨r1, r2, r3, r4⟩, r5⟩ := id h2
  have l1 := div_le_of (x := (a.natAbs : Int)) (y := (Int.gcd a d : Nat)) (by omega) (by omega)
  have l2 := div_le_of (x := (c.natAbs : Int)) (y := (Int.gcd c b : Nat)) (by omega) (by omega)
  have l3 := div_le_of (x := b) (y := (Int.gcd c b : Nat)) (by omega) (by omega)
  have l4 := div_le_of (x := d) (y := (Int.gcd a d : Nat)) (by omega) (by omega)
  refine ⟨wrap_u64 (by omega) (by omega), wrap_u64 (by omega) (by omega), gcd_abs _ _, gcd_abs _ _, by simp; omega, by simp; omega, ?_, ?_, ?_, ?_, ⟨⟨by omega, by omega⟩, by omega, by omega⟩, ⟨⟨by omega, by omega⟩, by omega, by omega⟩, ⟨⟨l1.1, by omega⟩, l2.1, by omega⟩, ⟨l3.1, by omega⟩, l4.1, by omega⟩
  · rw [tdiv_pos (by omega)]; exact wrap_u64 (by omega) (by omega)
  · rw [tdiv_pos (by omega)]; exact wrap_u64 (by omega) (by omega)
  · rw [tdiv_pos (by omega)]; exact wrap_u64 (by omega) (by omega)
  · rw [tdiv_pos (by omega)]; exact wrap_u64 (by omega) (by omega)
theorem mul_big {x y : Int} (hx : 0 ≤ x) (hx1 : x ≤ 1000000000000000000) (hy : 0 ≤ y) (hy1 : y ≤ 1000000000000000000) : U64 (x * y / 18446744073709551616) ∧ U64 (x * y % 18446744073709551616) := by
  have a1 := Int.mul_nonneg hx hy
  have a2 := Int.mul_le_mul hx1 hy1 hy (by omega : (0 : Int) ≤ 1000000000000000000)
  generalize x * y = z at *
  exact ⟨⟨by omega, by omega⟩, by omega, by omega⟩
theorem mulInv {a b c d : Int} (h1 : okF a b) (h2 : okF c d) : MulInv a b c d ((a.natAbs : Int) / (Int.gcd a d : Nat) * ((c.natAbs : Int) / (Int.gcd c b : Nat)) / 18446744073709551616) ((a.natAbs : Int) / (Int.gcd a d : Nat) * ((c.natAbs : Int) / (Int.gcd c b : Nat)) % 18446744073709551616) (b / (Int.gcd c b : Nat) * (d / (Int.gcd a d : Nat)) / 18446744073709551616) (b / (Int.gcd c b : Nat) * (d / (Int.gcd a d : Nat)) % 18446744073709551616) := by
  obtain ⟨g1, g2⟩ := mul_parts h1 h2
  obtain ⟨⟨q1, q2, q3, q4⟩, q5⟩ := id h1
  obtain ⟨⟨r1, r2, r3, r4⟩, r5⟩ := id h2
  have l1 := div_le_of (x := (a.natAbs : Int)) (y := (Int.gcd a d : Nat)) (by omega) (by omega)
  have l2 := div_le_of (x := (c.natAbs : Int)) (y := (Int.gcd c b : Nat)) (by omega) (by omega)
  have l3 := div_le_of (x := b) (y := (Int.gcd c b : Nat)) (by omega) (by omega)
  have l4 := div_le_of (x := d) (y := (Int.gcd a d : Nat)) (by omega) (by omega)
  have b1 := mul_big l1.1 (by omega) l2.1 (by omega)
  have b2 := mul_big l3.1 (by omega) l4.1 (by omega)
  exact ⟨h1, h2, b1.1, b1.2, b2.1, b2.2, by omega, by omega⟩

end Go.Proofs.Ytkmhmabkahaekaa.V
