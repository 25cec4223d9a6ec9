/-
  Contracts, printed by a program of this session (wip/tool/sym.py) from the unit text base: what each function comes to, and its proof.
-/
import Derived.Test.YtpfmnmcpffajeaaVn
import Derived.Test.YtpfmnmcpffajeaaProg
set_option linter.unusedVariables false
set_option linter.unusedSimpArgs false
set_option maxRecDepth 100000
namespace Go.Proofs.Ytpfmnmcpffajeaa.V
open Go Go.RowKit
open Go.IntKind (u64 i64 u8 i32 u32)

theorem mixP : Go.Proofs.Try.prog.follows .mixedOrders = true := by kernel_rfl


theorem wrap_u64_mod (n : Int) : u64.wrap n = n % 18446744073709551616 := by
  simp [IntKind.wrap, IntKind.signed, IntKind.bits]
theorem wrap_i64_mod (n : Int) : i64.wrap n = (n + 9223372036854775808) % 18446744073709551616 - 9223372036854775808 := by
  simp [IntKind.wrap, IntKind.signed, IntKind.bits]
  split <;> omega
theorem wrap_u64 {n : Int} (h0 : 0 ≤ n) (h1 : n < 18446744073709551616) : u64.wrap n = n := by
  rw [wrap_u64_mod]; omega
theorem wrap_i64 {n : Int} (h0 : -9223372036854775808 ≤ n) (h1 : n < 9223372036854775808) : i64.wrap n = n := by
  rw [wrap_i64_mod]; omega
theorem gcd_mod {x y : Int} (hx : 0 ≤ x) (hy : 0 ≤ y) : Int.gcd y (x % y) = Int.gcd x y := by
  obtain ⟨n, rfl⟩ := Int.eq_ofNat_of_zero_le hx
  obtain ⟨m, rfl⟩ := Int.eq_ofNat_of_zero_le hy
  show Nat.gcd _ _ = Nat.gcd _ _
  rw [← Int.natCast_emod]
  simp only [Int.natAbs_natCast]
  rw [Nat.gcd_comm n m, Nat.gcd_comm m (n % m), ← Nat.gcd_rec]
/-- The range of an int64, of a uint64. -/
def I64 (n : Int) : Prop := -9223372036854775808 ≤ n ∧ n < 9223372036854775808
def U64 (n : Int) : Prop := 0 ≤ n ∧ n < 18446744073709551616
theorem wrap_neg {n : Int} (h : I64 n) : (n = -9223372036854775808 ∧ i64.wrap (0 - n) = -9223372036854775808) ∨ (-9223372036854775808 < n ∧ i64.wrap (0 - n) = -n) := by
  obtain ⟨h1, h2⟩ := h
  by_cases e : n = -9223372036854775808
  · subst e; exact .inl ⟨rfl, by rw [wrap_i64_mod]; omega⟩
  · exact .inr ⟨by omega, by rw [wrap_i64 (by omega) (by omega)]; omega⟩
theorem bif_i {c : Bool} {A B : Prop} (h1 : c = true → A) (h2 : c = false → B) : bif c then A else B := by
  cases c
  · exact h2 rfl
  · exact h1 rfl
theorem K_of {K : AV → Prop} {a b : AV} (hk : K a) (h : a = b) : K b := h ▸ hk
theorem tdiv_ediv {x d : Int} (hd : 0 < d) : Int.tdiv x d = if 0 ≤ x then x / d else -((-x) / d) := by
  split
  · rename_i h; exact Int.tdiv_eq_ediv_of_nonneg h
  · rename_i h
    have h1 : 0 ≤ -x := by omega
    have := Int.tdiv_eq_ediv_of_nonneg (b := d) h1
    rw [Int.neg_tdiv] at this
    omega
theorem tmod_emod {x d : Int} (hd : 0 < d) : Int.tmod x d = if 0 ≤ x then x % d else -((-x) % d) := by
  split
  · rename_i h; exact Int.tmod_eq_emod_of_nonneg h
  · rename_i h
    have h1 : 0 ≤ -x := by omega
    have := Int.tmod_eq_emod_of_nonneg (b := d) h1
    rw [Int.neg_tmod] at this
    omega

end Go.Proofs.Ytpfmnmcpffajeaa.V
