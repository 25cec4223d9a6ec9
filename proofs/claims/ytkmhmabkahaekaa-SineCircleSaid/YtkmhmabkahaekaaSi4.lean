/-
  Contracts, printed by a program of this session (wip/tool/sym.py) from the unit text si4: what each function comes to, and its proof.
-/
import Derived.Test.YtkmhmabkahaekaaSi3
import Derived.Test.YtkmhmabkahaekaaProg
import Derived.Test.YtkmhmabkahaekaaFin1
import Derived.Test.YtkmhmabkahaekaaFin2
import Derived.Test.YtkmhmabkahaekaaFin3
import Derived.Test.YtkmhmabkahaekaaFin4
import Derived.Test.YtkmhmabkahaekaaFin5
import Derived.Test.YtkmhmabkahaekaaFin6
set_option linter.unusedVariables false
set_option linter.unusedSimpArgs false
set_option maxRecDepth 100000
namespace Go.Proofs.Ytkmhmabkahaekaa.V
open Go Go.RowKit


namespace Fin
theorem rec_all {f : Nat → Bool} : ∀ (k : Nat), (Nat.rec true (fun j r => f j && r) k : Bool) = true → ∀ j, j < k → f j = true
  | 0, _, j, h => absurd h (by omega)
  | k + 1, h, j, hj => by
    have h' : (f k && (Nat.rec true (fun j r => f j && r) k : Bool)) = true := h
    rw [Bool.and_eq_true] at h'
    by_cases e : j = k
    · subst e; exact h'.1
    · exact rec_all k h'.2 j (by omega)
theorem chkN_all {n : Nat} (h1 : 1 ≤ n) (h2 : n ≤ 720) : chkN n = true := by
  have key : ∀ {a k : Nat}, chkR a k = true → a ≤ n → n < a + k → chkN n = true := by
    intro a k h ha hk
    have := rec_all (f := fun i => chkN (Nat.add a i)) k h (n - a) (by omega)
    have e : Nat.add a (n - a) = n := by show a + (n - a) = n; omega
    rwa [e] at this
  by_cases a1 : n < 300
  · exact key part1 h1 a1
  by_cases a2 : n < 420
  · exact key part2 (by omega) a2
  by_cases a3 : n < 515
  · exact key part3 (by omega) a3
  by_cases a4 : n < 594
  · exact key part4 (by omega) a4
  by_cases a5 : n < 660
  · exact key part5 (by omega) a5
  · exact key part6 (by omega) (by omega)
theorem chk1_all {n j : Nat} (h1 : 1 ≤ n) (h2 : n ≤ 720) (h3 : 2 * j ≤ n) : chk1 j (4 * n) = true := by
  have := rec_all (f := fun j => chk1 j (Nat.mul 4 n)) _ (chkN_all h1 h2) j (by show j < n / 2 + 1; omega)
  exact this
end Fin
/-- What the finite check says of a part of a turn. -/
def ChkF (a b : Int) : Prop := Fin.cosMP (Fin.angP a.toNat b.toNat) = Fin.cosMR (Fin.angR a.toNat b.toNat) ∧ (12 * a ≠ b → Fin.sinMP (Fin.angP a.toNat b.toNat) = Fin.sinMR (Fin.angR a.toNat b.toNat)) ∧
  Fin.circ (Fin.cosMP (Fin.angP a.toNat b.toNat)) (Fin.sinMP (Fin.angP a.toNat b.toNat)) = true
theorem chkF_of {n a : Int} (h1 : 1 ≤ n) (h2 : n ≤ 720) (ha : 0 < a) (h3 : 2 * a ≤ n) : ChkF a (4 * n) := by
  obtain ⟨m, rfl⟩ := Int.eq_ofNat_of_zero_le (show 0 ≤ n by omega)
  obtain ⟨j, rfl⟩ := Int.eq_ofNat_of_zero_le (Int.le_of_lt ha)
  have h := Fin.chk1_all (n := m) (j := j) (by omega) (by omega) (by omega)
  unfold Fin.chk1 at h
  unfold ChkF
  rw [show Int.toNat (4 * (m : Int)) = 4 * m by omega, Int.toNat_natCast]
  have hj : Nat.beq j 0 = false := by cases e : Nat.beq j 0 with
    | false => rfl
    | true => have := Nat.eq_of_beq_eq_true e; omega
  rw [hj, Bool.false_or] at h
  simp only [Bool.and_eq_true, Bool.or_eq_true] at h
  obtain ⟨⟨g1, g2⟩, g3⟩ := h
  refine ⟨Nat.eq_of_beq_eq_true g1, fun hne => ?_, g3⟩
  rcases g2 with g2 | g2
  · have e : 12 * j = 4 * m := Nat.eq_of_beq_eq_true g2
    exact absurd (by omega) hne
  · exact Nat.eq_of_beq_eq_true g2
theorem angP_scale {c a b : Int} (hc : 0 < c) (ha : 0 ≤ a) (hb : 0 ≤ b) : Fin.angP (c * a).toNat (c * b).toNat = Fin.angP a.toNat b.toNat := by
  obtain ⟨c, rfl⟩ := Int.eq_ofNat_of_zero_le (Int.le_of_lt hc)
  obtain ⟨a, rfl⟩ := Int.eq_ofNat_of_zero_le ha
  obtain ⟨b, rfl⟩ := Int.eq_ofNat_of_zero_le hb
  rw [← Int.natCast_mul, ← Int.natCast_mul]
  simp only [Int.toNat_natCast]
  show 6283185307179586477 * (c * a) / (c * b) = 6283185307179586477 * a / b
  rw [Nat.mul_left_comm, Nat.mul_div_mul_left _ _ (by omega)]
theorem angR_scale {c a b : Int} (hc : 0 < c) (ha : 0 ≤ a) (hb : 0 ≤ b) : Fin.angR (c * a).toNat (c * b).toNat = Fin.angR a.toNat b.toNat := by
  obtain ⟨c, rfl⟩ := Int.eq_ofNat_of_zero_le (Int.le_of_lt hc)
  obtain ⟨a, rfl⟩ := Int.eq_ofNat_of_zero_le ha
  obtain ⟨b, rfl⟩ := Int.eq_ofNat_of_zero_le hb
  rw [← Int.natCast_mul, ← Int.natCast_mul]
  simp only [Int.toNat_natCast]
  show 628318530717958648 * (c * a) / (c * b) = 628318530717958648 * a / b
  rw [Nat.mul_left_comm, Nat.mul_div_mul_left _ _ (by omega)]
theorem chkF_scale {c a b : Int} (hc : 0 < c) (ha : 0 ≤ a) (hb : 0 ≤ b) : ChkF (c * a) (c * b) ↔ ChkF a b := by
  unfold ChkF
  rw [angP_scale hc ha hb, angR_scale hc ha hb]
  have : 12 * (c * a) ≠ c * b ↔ 12 * a ≠ b := by
    rw [Int.mul_left_comm]
    constructor
    · intro h e; exact h (by rw [e])
    · intro h e; exact h (Int.eq_of_mul_eq_mul_left (by omega) e)
  rw [this]
theorem ang_eighth {a : Int} (ha : 0 < a) : Fin.angP a.toNat (8 * a).toNat = 785398163397448309 ∧ Fin.angR a.toNat (8 * a).toNat = 78539816339744831 := by
  obtain ⟨a, rfl⟩ := Int.eq_ofNat_of_zero_le (Int.le_of_lt ha)
  rw [show Int.toNat (8 * (a : Int)) = 8 * a by omega, Int.toNat_natCast]
  constructor
  · show 6283185307179586477 * a / (8 * a) = _
    rw [Nat.mul_div_mul_right _ _ (by omega)]
  · show 628318530717958648 * a / (8 * a) = _
    rw [Nat.mul_div_mul_right _ _ (by omega)]
theorem mid_val : Fin.sinMP 785398163397448309 = 707106 ∧ Fin.cosMR 78539816339744831 = 707106 ∧ Fin.cosMP 785398163397448309 = 707106 := by decide +kernel
theorem octF_t {k n : Int} (h : k ≠ 0) : octF k n true = if 12 * k = n then (500000, 500000) else (((Fin.sinMP (Fin.angP k.toNat n.toNat) : Nat) : Int), ((Fin.sinMP (Fin.angP k.toNat n.toNat) : Nat) : Int) + 1) := by
  unfold octF; rw [if_neg h]; simp only [true_and, if_true]
theorem octF_f {k n : Int} (h : k ≠ 0) : octF k n false = (((Fin.cosMP (Fin.angP k.toNat n.toNat) : Nat) : Int), ((Fin.cosMP (Fin.angP k.toNat n.toNat) : Nat) : Int) + 1) := by
  unfold octF; rw [if_neg h]; simp only [Bool.false_eq_true, false_and, if_false]
theorem octF_t0 (n : Int) : octF 0 n true = (0, 0) := by unfold octF; simp
theorem octF_f0 (n : Int) : octF 0 n false = (1000000, 1000000) := by unfold octF; simp
def cosG' (q n : Int) : Int × Int := if n < 4 * q then negP (quarF (n - 2 * q) (2 * n)) else quarF q n
theorem cos_same {q N : Int} (hq : 0 ≤ q) (h2 : 2 * q ≤ N) (hN : 0 < N) (c1 : 0 < q → 8 * q ≤ N → ChkF q N) (c2 : 0 < N - 2 * q → 8 * (N - 2 * q) ≤ 2 * N → ChkF (N - 2 * q) (2 * N))
    (c3 : 0 < N - 4 * q → 8 * (N - 4 * q) ≤ 4 * N → ChkF (N - 4 * q) (4 * N)) (c4 : 0 < 4 * q - N → 8 * (4 * q - N) ≤ 4 * N → ChkF (4 * q - N) (4 * N)) : cosQ q N = cosG' q N := by
  unfold cosQ cosG'
  by_cases A : 3 * N < 8 * q
  · rw [if_pos A, if_pos (by omega)]
    congr 1
    unfold quarF
    rw [if_pos (show 8 * (N - 2 * q) ≤ 2 * N by omega)]
    by_cases z : N - 2 * q = 0
    · rw [if_pos z, show 4 * N - 8 * q = 0 by omega, octF_f0]
    · rw [if_neg z, octF_f (by omega)]
      have e := angP_scale (c := 4) (a := N - 2 * q) (b := 2 * N) (by omega) (by omega) (by omega)
      rw [show 4 * (N - 2 * q) = 4 * N - 8 * q by omega, show 4 * (2 * N) = 8 * N by omega] at e
      rw [e, (c2 (by omega) (by omega)).1]
  · rw [if_neg A]
    by_cases B : 2 * N < 8 * q
    · rw [if_pos B, if_pos (show N < 4 * q by omega)]
      congr 1
      unfold quarF
      rw [octF_t (by omega)]
      by_cases E : 8 * (N - 2 * q) ≤ 2 * N
      · rw [if_pos E, if_neg (show ¬ N - 2 * q = 0 by omega), if_neg (show ¬ 12 * (8 * q - 2 * N) = 8 * N by omega)]
        have h8 : 8 * q = 3 * N := by omega
        have e1 := (ang_eighth hN).1
        have e2 := (ang_eighth (a := N - 2 * q) (by omega)).2
        rw [show 8 * (N - 2 * q) = 2 * N by omega] at e2
        rw [show 8 * q - 2 * N = N by omega, e1, e2, mid_val.1, mid_val.2.1]
      · rw [if_neg E, show 2 * N - 4 * (N - 2 * q) = 8 * q - 2 * N by omega, show 4 * (2 * N) = 8 * N by omega, if_neg (show ¬ 8 * q - 2 * N = 0 by omega)]
        by_cases T : 12 * (8 * q - 2 * N) = 8 * N
        · rw [if_pos T, if_pos T]
        · rw [if_neg T, if_neg T]
          have c := c4 (by omega) (by omega)
          rw [← chkF_scale (c := 2) (by omega) (by omega) (by omega), show 2 * (4 * q - N) = 8 * q - 2 * N by omega, show 2 * (4 * N) = 8 * N by omega] at c
          rw [c.2.1 T]
    · rw [if_neg B, if_neg (show ¬ N < 4 * q by omega)]
      by_cases C : N < 8 * q
      · rw [if_pos C]
        unfold quarF
        rw [if_neg (show ¬ 8 * q ≤ N by omega)]
        by_cases z : N - 4 * q = 0
        · rw [if_pos z, show 2 * N - 8 * q = 0 by omega, octF_t0]
        · rw [if_neg z, octF_t (by omega)]
          by_cases T : 12 * (N - 4 * q) = 4 * N
          · rw [if_pos T, if_pos (by omega)]
          · rw [if_neg T, if_neg (show ¬ 12 * (2 * N - 8 * q) = 8 * N by omega)]
            have c := c3 (by omega) (by omega)
            have e := angP_scale (c := 2) (a := N - 4 * q) (b := 4 * N) (by omega) (by omega) (by omega)
            rw [show 2 * (N - 4 * q) = 2 * N - 8 * q by omega, show 2 * (4 * N) = 8 * N by omega] at e
            rw [e, c.2.1 T]
      · rw [if_neg C]
        unfold quarF
        rw [if_pos (show 8 * q ≤ N by omega)]
        by_cases z : q = 0
        · subst z; rw [if_pos rfl]; exact octF_f0 _
        · rw [if_neg z, octF_f (by omega)]
          have e := angP_scale (c := 8) (a := q) (b := N) (by omega) (by omega) (by omega)
          rw [e, (c1 (by omega) (by omega)).1]
theorem cosG_eq (k n : Int) : cosG k n = cosG' (min (k % n) (n - k % n)) n := rfl
theorem cosE_H {k n : Int} : cosE k n = cosH k n := by
  unfold cosE cosH
  by_cases h : n < 1 ∨ 720 < n
  · rw [if_pos h, if_pos h]
  · rw [if_neg h, if_neg h]
    have m0 := Int.emod_nonneg k (b := n) (by omega)
    have m1 := Int.emod_lt_of_pos k (b := n) (by omega)
    have key : cosF k n = cosG k n := by
      rw [cosG_eq]
      unfold cosF
      generalize hq : min (k % n) (n - k % n) = q
      have q0 : 0 ≤ q ∧ 2 * q ≤ n := by omega
      refine cos_same q0.1 q0.2 (by omega) (fun a b => ?_) (fun a b => ?_) (fun a b => ?_) (fun a b => ?_)
      · rw [← chkF_scale (c := 4) (by omega) (by omega) (by omega)]; exact chkF_of (by omega) (by omega) (by omega) (by omega)
      · rw [← chkF_scale (c := 2) (by omega) (by omega) (by omega), show 2 * (2 * n) = 4 * n by omega]; exact chkF_of (by omega) (by omega) (by omega) (by omega)
      · exact chkF_of (by omega) (by omega) (by omega) (by omega)
      · exact chkF_of (by omega) (by omega) (by omega) (by omega)
    rw [key]
theorem quad_same {q n : Int} (h1 : 1 ≤ n) (h2 : n ≤ 720) (q0 : 0 ≤ q ∧ 2 * q ≤ 4 * n) : cosQ q (4 * n) = cosG' q (4 * n) := by
  refine cos_same q0.1 q0.2 (by omega) (fun a b => ?_) (fun a b => ?_) (fun a b => ?_) (fun a b => ?_)
  · exact chkF_of (by omega) (by omega) (by omega) (by omega)
  · rw [show 4 * n - 2 * q = 2 * (2 * n - q) by omega, chkF_scale (by omega) (by omega) (by omega)]; exact chkF_of (by omega) (by omega) (by omega) (by omega)
  · rw [show 4 * n - 4 * q = 4 * (n - q) by omega, chkF_scale (by omega) (by omega) (by omega)]; exact chkF_of (by omega) (by omega) (by omega) (by omega)
  · rw [show 4 * q - 4 * n = 4 * (q - n) by omega, chkF_scale (by omega) (by omega) (by omega)]; exact chkF_of (by omega) (by omega) (by omega) (by omega)
theorem min_neg {x m : Int} (hm : 0 < m) : min ((-x) % m) (m - (-x) % m) = min (x % m) (m - x % m) := by
  have a0 := Int.emod_nonneg x (b := m) (by omega)
  have a1 := Int.emod_lt_of_pos x hm
  have q := Int.mul_ediv_add_emod x m
  by_cases z : x % m = 0
  · have : (-x) % m = 0 := by
      rw [show -x = m * -(x / m) by rw [Int.mul_neg]; omega]; simp
    rw [z, this]
  · have : (-x) % m = m - x % m := by
      rw [show -x = (m - x % m) + m * (-(x / m) - 1) by rw [Int.mul_sub, Int.mul_neg]; omega, Int.add_mul_emod_self_left, Int.emod_eq_of_lt (by omega) (by omega)]
    rw [this]; omega
theorem sinE_H {k n : Int} : sinE k n = sinH k n := by
  unfold sinE sinH
  by_cases h : n < 1 ∨ 720 < n
  · rw [if_pos h, if_pos h]
  · rw [if_neg h, if_neg h]
    have m0 := Int.emod_nonneg (4 * k - n) (b := 4 * n) (by omega)
    have m1 := Int.emod_lt_of_pos (4 * k - n) (b := 4 * n) (by omega)
    have key : cosF (4 * k - n) (4 * n) = cosG (n - 4 * k) (4 * n) := by
      rw [cosG_eq, show n - 4 * k = -(4 * k - n) by omega, min_neg (by omega)]
      unfold cosF
      exact quad_same (by omega) (by omega) (by omega)
    rw [key]

def FM_law05_SineTables : FM := ⟨55, [(RV.tmp 4)], (MC.seq (MC.ops [⟨(some 4), none, (MI.mv (MO.c (AV.b false)))⟩]) (MC.seq (MC.ops [⟨(some 14), none, (MI.mv (MO.t 0))⟩, ⟨(some 15), none, (MI.mv (MO.t 1))⟩, ⟨(some 16), none, (MI.callN 14 [(MO.t 14), (MO.t 15)])⟩, ⟨(some 13), none, (MI.mv (MO.t 16))⟩, ⟨(some 17), none, (MI.ext (MO.t 13) 0)⟩, ⟨(some 18), none, (MI.ext (MO.t 13) 1)⟩, ⟨(some 5), none, (MI.alloc 23 [(AV.i .i64 0), (AV.i .i64 0)])⟩, ⟨none, none, (MI.store 2 (MO.t 5) (MO.t 17))⟩, ⟨(some 6), none, (MI.mv (MO.t 18))⟩]) (MC.seq (MC.ops [⟨(some 20), none, (MI.mv (MO.t 0))⟩, ⟨(some 21), none, (MI.mv (MO.t 1))⟩, ⟨(some 22), none, (MI.callN 15 [(MO.t 20), (MO.t 21)])⟩, ⟨(some 19), none, (MI.mv (MO.t 22))⟩, ⟨(some 23), none, (MI.ext (MO.t 19) 0)⟩, ⟨(some 24), none, (MI.ext (MO.t 19) 1)⟩, ⟨(some 7), none, (MI.alloc 23 [(AV.i .i64 0), (AV.i .i64 0)])⟩, ⟨none, none, (MI.store 2 (MO.t 7) (MO.t 23))⟩, ⟨(some 8), none, (MI.mv (MO.t 24))⟩]) (MC.seq (MC.ops [⟨(some 26), none, (MI.mv (MO.t 0))⟩, ⟨(some 27), none, (MI.mv (MO.t 1))⟩, ⟨(some 28), none, (MI.callN 16 [(MO.t 26), (MO.t 27)])⟩, ⟨(some 25), none, (MI.mv (MO.t 28))⟩, ⟨(some 29), none, (MI.ext (MO.t 25) 0)⟩, ⟨(some 30), none, (MI.ext (MO.t 25) 1)⟩, ⟨(some 9), none, (MI.alloc 23 [(AV.i .i64 0), (AV.i .i64 0)])⟩, ⟨none, none, (MI.store 2 (MO.t 9) (MO.t 29))⟩, ⟨(some 10), none, (MI.mv (MO.t 30))⟩]) (MC.seq (MC.ops [⟨(some 32), none, (MI.mv (MO.t 0))⟩, ⟨(some 33), none, (MI.mv (MO.t 1))⟩, ⟨(some 34), none, (MI.callN 17 [(MO.t 32), (MO.t 33)])⟩, ⟨(some 31), none, (MI.mv (MO.t 34))⟩, ⟨(some 35), none, (MI.ext (MO.t 31) 0)⟩, ⟨(some 36), none, (MI.ext (MO.t 31) 1)⟩, ⟨(some 11), none, (MI.alloc 23 [(AV.i .i64 0), (AV.i .i64 0)])⟩, ⟨none, none, (MI.store 2 (MO.t 11) (MO.t 35))⟩, ⟨(some 12), none, (MI.mv (MO.t 36))⟩]) (MC.seq (MC.ops [⟨(some 37), none, (MI.loadn 2 (MO.t 5))⟩, ⟨(some 38), none, (MI.loadn 2 (MO.t 7))⟩, ⟨(some 39), none, (MI.eqa false [(SK.i .i64), (SK.i .i64)] (MO.t 37) (MO.t 38))⟩, ⟨(some 40), none, (MI.mv (MO.t 39))⟩, ⟨(some 41), (some (40, true)), (MI.mv (MO.t 6))⟩, ⟨(some 42), (some (40, true)), (MI.mv (MO.t 8))⟩, ⟨(some 43), (some (40, true)), (MI.bin .eql (MO.t 41) (MO.t 42))⟩, ⟨(some 44), none, (MI.pick (MO.t 40) (MO.t 43) (MO.c (AV.b false)))⟩, ⟨(some 45), none, (MI.mv (MO.t 44))⟩, ⟨(some 46), (some (45, true)), (MI.loadn 2 (MO.t 9))⟩, ⟨(some 47), (some (45, true)), (MI.loadn 2 (MO.t 11))⟩, ⟨(some 48), (some (45, true)), (MI.eqa false [(SK.i .i64), (SK.i .i64)] (MO.t 46) (MO.t 47))⟩, ⟨(some 49), none, (MI.pick (MO.t 45) (MO.t 48) (MO.c (AV.b false)))⟩, ⟨(some 50), none, (MI.mv (MO.t 49))⟩, ⟨(some 51), (some (50, true)), (MI.mv (MO.t 10))⟩, ⟨(some 52), (some (50, true)), (MI.mv (MO.t 12))⟩, ⟨(some 53), (some (50, true)), (MI.bin .eql (MO.t 51) (MO.t 52))⟩, ⟨(some 54), none, (MI.pick (MO.t 50) (MO.t 53) (MO.c (AV.b false)))⟩, ⟨(some 4), none, (MI.mv (MO.t 54))⟩]) MC.ret))))))⟩
theorem FMc_law05_SineTables : compF Go.Proofs.Try.prog (eqsP Go.Proofs.Try.prog) (neutOf [14, 15, 16, 17]) (neutOf [14, 15, 16, 17]) 4 = some FM_law05_SineTables := by kernel_rfl
def G_law05_SineTables : Gam := mkG [(14, S_sine_Cos), (15, S_ref05_Cos), (16, S_sine_Sin), (17, S_ref05_Sin)] []
theorem sg_law05_SineTables : SoundG Go.Proofs.Try.prog 4 (WF G_law05_SineTables 0 FM_law05_SineTables) := WF_sound (allD_ok (n := G_law05_SineTables.n) (l := [14, 15, 16, 17]) ⟨det_sine_Cos, det_ref05_Cos, det_sine_Sin, det_ref05_Sin, trivial⟩) mixP (mkG_ok (n := [(14, S_sine_Cos), (15, S_ref05_Cos), (16, S_sine_Sin), (17, S_ref05_Sin)]) (g := []) ⟨ok_sine_Cos, ok_ref05_Cos, ok_sine_Sin, ok_ref05_Sin, trivial⟩ trivial) eqsP_ok FMc_law05_SineTables
def S_law05_SineTables : NSpec := fun args _ K => match args with
  | [(.i .i64 k), (.i .i64 n)] => (I64 k ∧ I64 n) ∧ K (.b true)
  | _ => False
theorem det_law05_SineTables : DetN S_law05_SineTables := by
  intro args H K h
  unfold S_law05_SineTables at h
  split at h
  · exact ⟨_, h.2, fun H' K' _ k => ⟨h.1, k⟩⟩
  · exact h.elim

def NF_law05_SineTables (k : Int) (n : Int) (K : AV → Prop) : Prop :=
 ((I64 k ∧ I64 n) ∧
 ((I64 k ∧ I64 n) ∧
 ((I64 k ∧ I64 n) ∧
 ((I64 k ∧ I64 n) ∧
 (bif (((cosE k n).lo == (cosH k n).lo) && (((cosE k n).hi == (cosH k n).hi) && true)) then (bif ((cosE k n).e == (cosH k n).e) then (bif (((sinE k n).lo == (sinH k n).lo) && (((sinE k n).hi == (sinH k n).hi) && true)) then K (.b ((sinE k n).e == (sinH k n).e))
 else K (.b false))
 else K (.b false))
 else K (.b false))))))
theorem nf_law05_SineTables (k : Int) (n : Int) (K : AV → Prop) : WF G_law05_SineTables 0 FM_law05_SineTables [(.i .i64 k), (.i .i64 n)] [] (fun a _ => K a) = NF_law05_SineTables k n K := by kernel_rfl
theorem key_law05_SineTables (k : Int) (n : Int) {K : AV → Prop} (hp : I64 k ∧ I64 n) (hk : K (.b true)) : NF_law05_SineTables k n K := by
  unfold NF_law05_SineTables
  rw [← cosE_H, ← sinE_H]
  simp only [hp, true_and, and_true, beq_self_eq_true, Bool.and_self, cond_true]
  exact hk
theorem ok_law05_SineTables : SoundN Go.Proofs.Try.prog 4 S_law05_SineTables := by
  refine soundN_of sg_law05_SineTables fun args H K hS => ?_
  unfold S_law05_SineTables at hS
  split at hS
  · rename_i k n
    have hS1 := key_law05_SineTables k n (K := fun a => plainA a = true ∧ K a) hS.1 ⟨by simp [plainA, plainL], hS.2⟩
    refine ⟨by simp [plainA, plainL], ?_⟩
    rw [nf_law05_SineTables k n fun a => plainA a = true ∧ K a]
    exact hS1
  · exact hS.elim

end Go.Proofs.Ytkmhmabkahaekaa.V
