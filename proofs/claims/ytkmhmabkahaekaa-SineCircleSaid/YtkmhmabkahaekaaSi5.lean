/-
  Contracts, printed by a program of this session (wip/tool/sym.py) from the unit text si5: what each function comes to, and its proof.
-/
import Derived.Test.YtkmhmabkahaekaaSi4
import Derived.Test.YtkmhmabkahaekaaProg
import Derived.Test.YtkmhmabkahaekaaVo
set_option linter.unusedVariables false
set_option linter.unusedSimpArgs false
set_option maxRecDepth 100000
namespace Go.Proofs.Ytkmhmabkahaekaa.V
open Go Go.RowKit


/-! ### Turns -/
theorem negP_negP (p : Int × Int) : negP (negP p) = p := by unfold negP; simp
theorem octF_scale {c k n : Int} {s : Bool} (hc : 0 < c) (hk : 0 ≤ k) (hn : 0 ≤ n) : octF (c * k) (c * n) s = octF k n s := by
  by_cases z : k = 0
  · subst z; rw [Int.mul_zero]; cases s
    · rw [octF_f0, octF_f0]
    · rw [octF_t0, octF_t0]
  · have z2 : c * k ≠ 0 := Int.mul_ne_zero (by omega) z
    cases s
    · rw [octF_f z, octF_f z2, angP_scale hc hk hn]
    · rw [octF_t z, octF_t z2, angP_scale hc hk hn]
      have : 12 * (c * k) = c * n ↔ 12 * k = n := by
        rw [Int.mul_left_comm]
        exact ⟨fun e => Int.eq_of_mul_eq_mul_left (by omega) e, fun e => by rw [e]⟩
      by_cases h : 12 * k = n
      · rw [if_pos h, if_pos (this.2 h)]
      · rw [if_neg h, if_neg (mt this.1 h)]
theorem cosQ_scale {c q n : Int} (hc : 0 < c) (hq : 0 ≤ q) (h2 : 2 * q ≤ n) : cosQ (c * q) (c * n) = cosQ q n := by
  unfold cosQ
  have e1 : 3 * (c * n) < 8 * (c * q) ↔ 3 * n < 8 * q := by
    rw [Int.mul_left_comm 3, Int.mul_left_comm 8]
    exact ⟨fun h => Int.lt_of_mul_lt_mul_left h (by omega), fun h => Int.mul_lt_mul_of_pos_left h hc⟩
  have e2 : 2 * (c * n) < 8 * (c * q) ↔ 2 * n < 8 * q := by
    rw [Int.mul_left_comm 2, Int.mul_left_comm 8]
    exact ⟨fun h => Int.lt_of_mul_lt_mul_left h (by omega), fun h => Int.mul_lt_mul_of_pos_left h hc⟩
  have e3 : c * n < 8 * (c * q) ↔ n < 8 * q := by
    rw [Int.mul_left_comm 8]
    exact ⟨fun h => Int.lt_of_mul_lt_mul_left h (by omega), fun h => Int.mul_lt_mul_of_pos_left h hc⟩
  simp only [e1, e2, e3]
  have f1 : 4 * (c * n) - 8 * (c * q) = c * (4 * n - 8 * q) := by rw [Int.mul_sub, Int.mul_left_comm c 4, Int.mul_left_comm c 8]
  have f2 : 8 * (c * q) - 2 * (c * n) = c * (8 * q - 2 * n) := by rw [Int.mul_sub, Int.mul_left_comm c 2, Int.mul_left_comm c 8]
  have f3 : 2 * (c * n) - 8 * (c * q) = c * (2 * n - 8 * q) := by rw [Int.mul_sub, Int.mul_left_comm c 2, Int.mul_left_comm c 8]
  have f4 : 8 * (c * q) = c * (8 * q) := Int.mul_left_comm ..
  have f5 : 8 * (c * n) = c * (8 * n) := Int.mul_left_comm ..
  by_cases A : 3 * n < 8 * q
  · rw [if_pos A, if_pos A, f1, f5, octF_scale hc (by omega) (by omega)]
  · rw [if_neg A, if_neg A]
    by_cases B : 2 * n < 8 * q
    · rw [if_pos B, if_pos B, f2, f5, octF_scale hc (by omega) (by omega)]
    · rw [if_neg B, if_neg B]
      by_cases C : n < 8 * q
      · rw [if_pos C, if_pos C, f3, f5, octF_scale hc (by omega) (by omega)]
      · rw [if_neg C, if_neg C, f4, f5, octF_scale hc (by omega) (by omega)]
theorem cosF_scale {c k n : Int} (hc : 0 < c) (hn : 0 < n) : cosF (c * k) (c * n) = cosF k n := by
  unfold cosF
  have m0 := Int.emod_nonneg k (b := n) (by omega)
  have m1 := Int.emod_lt_of_pos k hn
  have e : c * k % (c * n) = c * (k % n) := Int.mul_emod_mul_of_pos _ _ hc
  have e2 : min (c * (k % n)) (c * n - c * (k % n)) = c * min (k % n) (n - k % n) := by
    rw [← Int.mul_sub]
    by_cases h : k % n ≤ n - k % n
    · rw [Int.min_eq_left h, Int.min_eq_left (Int.mul_le_mul_of_nonneg_left h (by omega))]
    · have hle : n - k % n ≤ k % n := by omega
      have hle2 : c * (n - k % n) ≤ c * (k % n) := Int.mul_le_mul_of_nonneg_left hle (by omega)
      rw [Int.min_eq_right hle, Int.min_eq_right hle2]
  rw [e, e2]
  exact cosQ_scale hc (by omega) (by omega)
theorem cosF_neg {k n : Int} (hn : 0 < n) : cosF (-k) n = cosF k n := by
  unfold cosF; rw [min_neg hn]
theorem cosF_low {k n : Int} (h0 : 0 ≤ k) (h : 2 * k ≤ n) (hn : 0 < n) : cosF k n = cosQ k n := by
  unfold cosF
  rw [Int.emod_eq_of_lt h0 (by omega), show min k (n - k) = k by omega]
theorem oct_mid {m : Int} (hm : 0 < m) : octF m (8 * m) false = octF m (8 * m) true := by
  rw [octF_f (by omega), octF_t (by omega), if_neg (by omega), (ang_eighth hm).1, mid_val.1, mid_val.2.2]
theorem cosQ_refl {q m : Int} (h0 : 0 ≤ q) (h : q ≤ 2 * m) (hm : 0 < m) : cosQ (2 * m - q) (4 * m) = negP (cosQ q (4 * m)) := by
  have mid := oct_mid (m := 4 * m) (by omega)
  unfold cosQ
  by_cases A : 3 * (4 * m) < 8 * q
  · rw [if_pos A, if_neg (by omega), if_neg (by omega), if_neg (by omega), negP_negP]
    congr 1; omega
  · rw [if_neg A]
    by_cases B : 2 * (4 * m) < 8 * q
    · rw [if_pos B, if_neg (by omega), if_neg (by omega), negP_negP]
      by_cases B2 : 8 * q = 3 * (4 * m)
      · rw [if_neg (by omega), show 8 * (2 * m - q) = 4 * m by omega, show 8 * q - 2 * (4 * m) = 4 * m by omega, mid]
      · rw [if_pos (by omega)]; congr 1; omega
    · rw [if_neg B]
      by_cases C : 4 * m < 8 * q
      · rw [if_pos C, if_neg (by omega)]
        by_cases C2 : q = m
        · rw [if_neg (by omega), if_pos (by omega), show 2 * (4 * m) - 8 * (2 * m - q) = 0 by omega, show 2 * (4 * m) - 8 * q = 0 by omega, octF_t0]; rfl
        · rw [if_pos (by omega)]; congr 2; omega
      · rw [if_neg C]
        by_cases D : 8 * q = 4 * m
        · rw [if_neg (by omega), if_pos (by omega), show 8 * (2 * m - q) - 2 * (4 * m) = 4 * m by omega, D, mid]
        · rw [if_pos (by omega)]; congr 2; omega
theorem cosF_half {u m : Int} (hm : 0 < m) : cosF (u + 2 * m) (4 * m) = negP (cosF u (4 * m)) := by
  have m0 := Int.emod_nonneg u (b := 4 * m) (by omega)
  have m1 := Int.emod_lt_of_pos u (show 0 < 4 * m by omega)
  have d := Int.mul_ediv_add_emod u (4 * m)
  have key : ∀ q, q = min (u % (4 * m)) (4 * m - u % (4 * m)) → min ((u + 2 * m) % (4 * m)) (4 * m - (u + 2 * m) % (4 * m)) = 2 * m - q := by
    intro q hq
    by_cases h : u % (4 * m) < 2 * m
    · have : (u + 2 * m) % (4 * m) = u % (4 * m) + 2 * m := by
        rw [show u + 2 * m = (u % (4 * m) + 2 * m) + 4 * m * (u / (4 * m)) by omega, Int.add_mul_emod_self_left, Int.emod_eq_of_lt (by omega) (by omega)]
      omega
    · have : (u + 2 * m) % (4 * m) = u % (4 * m) - 2 * m := by
        rw [show u + 2 * m = (u % (4 * m) - 2 * m) + 4 * m * (u / (4 * m) + 1) by rw [Int.mul_add]; omega, Int.add_mul_emod_self_left, Int.emod_eq_of_lt (by omega) (by omega)]
      omega
  unfold cosF
  rw [key _ rfl]
  exact cosQ_refl (by omega) (by omega) hm
/-- A cosine and the sine to it: of one octant, but for signs and order. -/
def PairJ (u m j : Int) (c s : Int × Int) : Prop := (0 ≤ j ∧ 2 * j ≤ m) ∧ (m ∣ u - j ∨ m ∣ u + j) ∧
  (((c = octF (8 * j) (32 * m) false ∨ c = negP (octF (8 * j) (32 * m) false)) ∧ (s = octF (8 * j) (32 * m) true ∨ s = negP (octF (8 * j) (32 * m) true))) ∨
   ((c = octF (8 * j) (32 * m) true ∨ c = negP (octF (8 * j) (32 * m) true)) ∧ (s = octF (8 * j) (32 * m) false ∨ s = negP (octF (8 * j) (32 * m) false))))
theorem pair_q {q m : Int} (h0 : 0 ≤ q) (h : q ≤ 2 * m) (hm : 0 < m) : ∃ j, PairJ q m j (cosQ q (4 * m)) (cosF (q - m) (4 * m)) := by
  have mid := oct_mid (m := 4 * m) (by omega)
  rw [show 8 * (4 * m) = 32 * m by omega] at mid
  by_cases hq : q ≤ m
  · have es : cosF (q - m) (4 * m) = cosQ (m - q) (4 * m) := by
      rw [show q - m = -(m - q) by omega, cosF_neg (by omega), cosF_low (by omega) (by omega) (by omega)]
    rw [es]
    unfold cosQ
    rw [if_neg (show ¬ 3 * (4 * m) < 8 * q by omega), if_neg (show ¬ 2 * (4 * m) < 8 * q by omega), if_neg (show ¬ 3 * (4 * m) < 8 * (m - q) by omega), if_neg (show ¬ 2 * (4 * m) < 8 * (m - q) by omega), show 8 * (4 * m) = 32 * m by omega]
    by_cases D : 8 * q ≤ 4 * m
    · refine ⟨q, ⟨by omega, by omega⟩, .inl (by simp), .inl ⟨.inl ?_, .inl ?_⟩⟩
      · rw [if_neg (by omega)]
      · by_cases E : 8 * q = 4 * m
        · rw [if_neg (by omega), show 8 * (m - q) = 4 * m by omega, E, mid]
        · rw [if_pos (by omega)]; congr 1; omega
    · refine ⟨m - q, ⟨by omega, by omega⟩, .inr (by rw [show q + (m - q) = m by omega]; exact Int.dvd_refl _), .inr ⟨.inl ?_, .inl ?_⟩⟩
      · rw [if_pos (by omega)]; congr 1; omega
      · rw [if_neg (by omega)]
  · have es : cosF (q - m) (4 * m) = cosQ (q - m) (4 * m) := cosF_low (by omega) (by omega) (by omega)
    rw [es]
    unfold cosQ
    rw [if_neg (show ¬ 3 * (4 * m) < 8 * (q - m) by omega), if_neg (show ¬ 2 * (4 * m) < 8 * (q - m) by omega), show 8 * (4 * m) = 32 * m by omega]
    by_cases A : 3 * (4 * m) < 8 * q
    · refine ⟨2 * m - q, ⟨by omega, by omega⟩, .inr (by rw [show q + (2 * m - q) = m * 2 by omega]; exact Int.dvd_mul_right _ _), .inl ⟨.inr ?_, .inl ?_⟩⟩
      · rw [if_pos A]; congr 2; omega
      · rw [if_pos (by omega)]; congr 1; omega
    · refine ⟨q - m, ⟨by omega, by omega⟩, .inl (by rw [show q - (q - m) = m by omega]; exact Int.dvd_refl _), .inr ⟨.inr ?_, .inl ?_⟩⟩
      · rw [if_neg A, if_pos (by omega)]; congr 2; omega
      · rw [if_neg (by omega)]
theorem pair_all {u m : Int} (hm : 0 < m) : ∃ j, PairJ u m j (cosF u (4 * m)) (cosF (u - m) (4 * m)) := by
  have m0 := Int.emod_nonneg u (b := 4 * m) (by omega)
  have m1 := Int.emod_lt_of_pos u (show 0 < 4 * m by omega)
  have d := Int.mul_ediv_add_emod u (4 * m)
  by_cases h : u % (4 * m) ≤ 2 * m
  · obtain ⟨j, h1, h2, h3⟩ := pair_q m0 h hm
    refine ⟨j, h1, ?_, ?_⟩
    · have t : m ∣ 4 * m * (u / (4 * m)) := by rw [Int.mul_comm 4 m, Int.mul_assoc]; exact Int.dvd_mul_right _ _
      rcases h2 with h2 | h2
      · refine .inl ?_
        rw [show u - j = 4 * m * (u / (4 * m)) + (u % (4 * m) - j) by omega]; exact Int.dvd_add t h2
      · refine .inr ?_
        rw [show u + j = 4 * m * (u / (4 * m)) + (u % (4 * m) + j) by omega]; exact Int.dvd_add t h2
    · have e1 : cosF u (4 * m) = cosQ (u % (4 * m)) (4 * m) := by
        unfold cosF; rw [show min (u % (4 * m)) (4 * m - u % (4 * m)) = u % (4 * m) by omega]
      have e2 : cosF (u - m) (4 * m) = cosF (u % (4 * m) - m) (4 * m) := by
        rw [show u - m = (u % (4 * m) - m) + 4 * m * (u / (4 * m)) by omega, cosF_shift]
      rw [e1, e2]; exact h3
  · obtain ⟨j, h1, h2, h3⟩ := pair_q (q := 4 * m - u % (4 * m)) (m := m) (by omega) (by omega) hm
    refine ⟨j, h1, ?_, ?_⟩
    · have t : m ∣ 4 * m * (u / (4 * m) + 1) := by rw [Int.mul_comm 4 m, Int.mul_assoc]; exact Int.dvd_mul_right _ _
      rw [Int.mul_add] at t
      rcases h2 with h2 | h2
      · refine .inr ?_
        rw [show u + j = (4 * m * (u / (4 * m)) + 4 * m * 1) - (4 * m - u % (4 * m) - j) by omega]; exact Int.dvd_sub t h2
      · refine .inl ?_
        rw [show u - j = (4 * m * (u / (4 * m)) + 4 * m * 1) - (4 * m - u % (4 * m) + j) by omega]; exact Int.dvd_sub t h2
    · have e1 : cosF u (4 * m) = cosQ (4 * m - u % (4 * m)) (4 * m) := by
        unfold cosF; rw [show min (u % (4 * m)) (4 * m - u % (4 * m)) = 4 * m - u % (4 * m) by omega]
      have e2 : cosF (u - m) (4 * m) = negP (cosF (4 * m - u % (4 * m) - m) (4 * m)) := by
        rw [← cosF_half hm, ← cosF_neg (k := u - m) (by omega)]
        rw [show -(u - m) = (4 * m - u % (4 * m) - m + 2 * m) + 4 * m * -(u / (4 * m) + 1) by rw [Int.mul_neg, Int.mul_add]; omega, cosF_shift]
      rw [e1, e2]
      have fl : ∀ {a x : Int × Int}, (a = x ∨ a = negP x) → (negP a = x ∨ negP a = negP x) := by
        rintro a x (rfl | rfl)
        · exact .inr rfl
        · exact .inl (negP_negP x)
      rcases h3 with ⟨a, b⟩ | ⟨a, b⟩
      · exact .inl ⟨a, fl b⟩
      · exact .inr ⟨a, fl b⟩
/-! ### What an octant's enclosures are -/
theorem sinMP_le {k n : Int} (h : FirstP k n) : Fin.sinMP (Fin.angP k.toNat n.toNat) ≤ 785398 := by
  obtain ⟨_, h1⟩ := first_ang h
  have hs := sinPs_le (Fin.sqP (Fin.angP k.toNat n.toNat))
  have e : Fin.sinMP (Fin.angP k.toNat n.toNat) = Fin.sinPs (Fin.sqP (Fin.angP k.toNat n.toNat)) * Fin.angP k.toNat n.toNat / 1000000000000000000 / 1000000000000 := rfl
  rw [e]
  have m := Nat.mul_le_mul hs h1
  omega
theorem circ_iff {a b : Nat} (h : Fin.circ a b = true) : a * a + b * b ≤ 1000000000000 ∧ 1000000000000 ≤ (a + 1) * (a + 1) + (b + 1) * (b + 1) ∧ a < 1000000 := by
  unfold Fin.circ at h
  simp only [Bool.and_eq_true] at h
  obtain ⟨⟨h1, h2⟩, h3⟩ := h
  exact ⟨Nat.le_of_ble_eq_true h1, Nat.le_of_ble_eq_true h2, by simpa [Nat.blt_eq] using h3⟩
structure OctOk (m j : Int) (x y : Int × Int) : Prop where
  x0 : 0 ≤ x.1
  xx : x.1 ≤ x.2
  x1 : x.2 ≤ x.1 + 1
  xt : x.2 ≤ 1000000
  y0 : 0 ≤ y.1
  yy : y.1 ≤ y.2
  y1 : y.2 ≤ y.1 + 1
  yt : y.2 ≤ 1000000
  lo : x.1 * x.1 + y.1 * y.1 ≤ 1000000000000
  hi : 1000000000000 ≤ x.2 * x.2 + y.2 * y.2
  xe : x.1 = x.2 ↔ j = 0
  ye : y.1 = y.2 ↔ j = 0 ∨ 3 * j = m
theorem oct_ok {m j : Int} (h1 : 1 ≤ m) (h2 : m ≤ 720) (j0 : 0 ≤ j) (jm : 2 * j ≤ m) : OctOk m j (octF (8 * j) (32 * m) false) (octF (8 * j) (32 * m) true) := by
  by_cases z : j = 0
  · subst z
    rw [Int.mul_zero, octF_f0, octF_t0]
    constructor <;> simp
  · have ck := chkF_of h1 h2 (show 0 < j by omega) jm
    have fp : FirstP j (4 * m) := ⟨by omega, by omega, by omega, by omega⟩
    have sl := sinMP_le fp
    rw [octF_f (by omega), octF_t (by omega), show 32 * m = 8 * (4 * m) by omega, angP_scale (by omega) (by omega) (by omega)]
    obtain ⟨_, _, hc⟩ := ck
    obtain ⟨c1, c2, c3⟩ := circ_iff hc
    by_cases T : 12 * (8 * j) = 8 * (4 * m)
    · rw [if_pos T]
      have e : Fin.angP j.toNat (4 * m).toNat = 523598775598298873 := by
        obtain ⟨i, rfl⟩ := Int.eq_ofNat_of_zero_le j0
        rw [show Int.toNat (4 * m) = 12 * i by omega, Int.toNat_natCast]
        show 6283185307179586477 * i / (12 * i) = _
        rw [Nat.mul_div_mul_right _ _ (by omega)]
      have e2 : Fin.cosMP 523598775598298873 = 866025 := by decide +kernel
      rw [e, e2]
      have j3 : 3 * j = m := by omega
      show OctOk m j (866025, 866026) (500000, 500000)
      exact ⟨by decide, by decide, by decide, by decide, by decide, by decide, by decide, by decide, by decide, by decide, ⟨fun h => absurd h (by decide), fun h => absurd h z⟩, ⟨fun _ => .inr j3, fun _ => rfl⟩⟩
    · rw [if_neg T]
      generalize Fin.cosMP (Fin.angP j.toNat (4 * m).toNat) = a at *
      generalize Fin.sinMP (Fin.angP j.toNat (4 * m).toNat) = b at *
      have d1 : (a : Int) * (a : Int) + (b : Int) * (b : Int) ≤ 1000000000000 := by
        rw [← Int.natCast_mul, ← Int.natCast_mul]; omega
      have d2 : (1000000000000 : Int) ≤ ((a : Int) + 1) * ((a : Int) + 1) + ((b : Int) + 1) * ((b : Int) + 1) := by
        rw [show ((a : Int) + 1) = ((a + 1 : Nat) : Int) by omega, show ((b : Int) + 1) = ((b + 1 : Nat) : Int) by omega, ← Int.natCast_mul, ← Int.natCast_mul]; omega
      refine ⟨?_, ?_, ?_, ?_, ?_, ?_, ?_, ?_, d1, d2, ?_, ?_⟩ <;> simp only <;> omega
/-! ### Squares -/
theorem imin_le (p q : Int) : imin p q = p ∨ imin p q = q := by unfold imin; split <;> simp
/-- The square of an enclosure. -/
theorem sMul_sq {x y : Int} (h0 : 0 ≤ x) (h1 : x ≤ y) (h2 : y ≤ 1000000) {p : Int × Int} (hp : p = (x, y) ∨ p = negP (x, y)) :
    ∃ l h, sMul p.1 p.2 p.1 p.2 = ⟨l, h, 0⟩ ∧ 0 ≤ l ∧ l ≤ h ∧ h ≤ 1000000 ∧ l * 1000000 ≤ x * x ∧ y * y ≤ h * 1000000 := by
  have m1 : x * x ≤ x * y := Int.mul_le_mul_of_nonneg_left h1 h0
  have m2 : x * y ≤ y * y := Int.mul_le_mul_of_nonneg_right h1 (by omega)
  have m3 : y * y ≤ 1000000 * y := Int.mul_le_mul_of_nonneg_right h2 (by omega)
  have m0 : 0 ≤ x * x := Int.mul_nonneg h0 h0
  have key : ∀ a b c d : Int, (a = x * x ∧ d = y * y ∨ a = y * y ∧ d = x * x) → b = x * y → c = x * y → mn4 a b c d = x * x ∧ mx4 a b c d = y * y := by
    rintro a b c d (⟨rfl, rfl⟩ | ⟨rfl, rfl⟩) rfl rfl
    · have a := mn4_mem (x * x) (x * y) (x * y) (y * y)
      have b := mx4_mem (x * x) (x * y) (x * y) (y * y)
      omega
    · have a := mn4_mem (y * y) (x * y) (x * y) (x * x)
      have b := mx4_mem (y * y) (x * y) (x * y) (x * x)
      omega
  have fin : mkS (x * x / 1000000) (-(-(y * y) / 1000000)) = ⟨x * x / 1000000, -(-(y * y) / 1000000), 0⟩ := by
    unfold mkS; rw [if_pos]; unfold spanOk; omega
  refine ⟨x * x / 1000000, -(-(y * y) / 1000000), ?_, by omega, by omega, by omega, by omega, by omega⟩
  rcases hp with rfl | rfl
  · unfold sMul
    obtain ⟨k1, k2⟩ := key (x * x) (x * y) (y * x) (y * y) (.inl ⟨rfl, rfl⟩) rfl (Int.mul_comm ..)
    rw [if_pos (by unfold spanOk; simp only; omega)]
    simp only
    rw [k1, k2, fin]
  · unfold sMul negP
    obtain ⟨k1, k2⟩ := key (-y * -y) (-y * -x) (-x * -y) (-x * -x) (.inr ⟨Int.neg_mul_neg .., Int.neg_mul_neg ..⟩) (by rw [Int.neg_mul_neg, Int.mul_comm]) (Int.neg_mul_neg ..)
    rw [if_pos (by unfold spanOk; simp only; omega)]
    simp only
    rw [k1, k2, fin]
/-- What SineCircle says of a cosine and a sine. -/
structure CircOk (u m : Int) (c s : Int × Int) : Prop where
  cc : c.1 ≤ c.2
  c1 : c.2 ≤ c.1 + 1
  cl : -1000000 ≤ c.1
  ch : c.2 ≤ 1000000
  ss : s.1 ≤ s.2
  s1 : s.2 ≤ s.1 + 1
  sl : -1000000 ≤ s.1
  sh : s.2 ≤ 1000000
  sq : ∃ l h l' h', sMul c.1 c.2 c.1 c.2 = ⟨l, h, 0⟩ ∧ sMul s.1 s.2 s.1 s.2 = ⟨l', h', 0⟩ ∧ (0 ≤ l ∧ l ≤ h ∧ h ≤ 1000000) ∧ (0 ≤ l' ∧ l' ≤ h' ∧ h' ≤ 1000000) ∧ l + l' ≤ 1000000 ∧ 1000000 ≤ h + h'
  both : (c.1 = c.2 ∧ s.1 = s.2) ↔ m ∣ u
  any : (c.1 = c.2 ∨ s.1 = s.2) → m ∣ 3 * u
theorem neg_sides {x p : Int × Int} (h : p = x ∨ p = negP x) : (p.1 = p.2 ↔ x.1 = x.2) ∧ (x.1 ≤ x.2 → p.1 ≤ p.2) ∧ (x.2 ≤ x.1 + 1 → p.2 ≤ p.1 + 1) ∧ (0 ≤ x.1 → x.1 ≤ x.2 → x.2 ≤ 1000000 → -1000000 ≤ p.1 ∧ p.2 ≤ 1000000) := by
  rcases h with rfl | rfl
  · omega
  · unfold negP; simp only; omega
theorem dvd_small {m j : Int} (h0 : 0 ≤ j) (h : 2 * j ≤ m) (hm : 0 < m) : m ∣ j ↔ j = 0 := by
  constructor
  · rintro ⟨c, hc⟩
    rcases Int.lt_trichotomy c 0 with q | q | q
    · have := Int.mul_neg_of_pos_of_neg hm q; omega
    · rw [hc, q, Int.mul_zero]
    · have := Int.mul_le_mul_of_nonneg_left (show 1 ≤ c by omega) (show 0 ≤ m by omega); omega
  · rintro rfl; exact Int.dvd_zero _
theorem circ_all {u m : Int} (h1 : 1 ≤ m) (h2 : m ≤ 720) : CircOk u m (cosF u (4 * m)) (cosF (u - m) (4 * m)) := by
  obtain ⟨j, ⟨j0, jm⟩, hd, hp⟩ := pair_all (u := u) (m := m) (by omega)
  have ok := oct_ok h1 h2 j0 jm
  generalize octF (8 * j) (32 * m) false = x at *
  generalize octF (8 * j) (32 * m) true = y at *
  generalize cosF u (4 * m) = c at *
  generalize cosF (u - m) (4 * m) = s at *
  have du : m ∣ u ↔ j = 0 := by
    rw [← dvd_small j0 jm (by omega)]
    rcases hd with hd | hd
    · constructor
      · intro h; have := Int.dvd_sub h hd; rwa [show u - (u - j) = j by omega] at this
      · intro h; have := Int.dvd_add hd h; rwa [show u - j + j = u by omega] at this
    · constructor
      · intro h; have := Int.dvd_sub hd h; rwa [show u + j - u = j by omega] at this
      · intro h; have := Int.dvd_sub hd h; rwa [show u + j - j = u by omega] at this
  have d3 : j = 0 ∨ 3 * j = m → m ∣ 3 * u := by
    intro h
    have hj : m ∣ 3 * j := by
      rcases h with h | h
      · rw [h]; exact Int.dvd_zero _
      · rw [h]; exact Int.dvd_refl _
    rcases hd with hd | hd
    · have := Int.dvd_add (Int.dvd_trans hd (Int.dvd_mul_left 3 _)) hj; rwa [show 3 * (u - j) + 3 * j = 3 * u by omega] at this
    · have := Int.dvd_sub (Int.dvd_trans hd (Int.dvd_mul_left 3 _)) hj; rwa [show 3 * (u + j) - 3 * j = 3 * u by omega] at this
  obtain ⟨x0, xx, x1, xt, y0, yy, y1, yt, lo, hi, xe, ye⟩ := ok
  rcases hp with ⟨hc, hs⟩ | ⟨hc, hs⟩
  · obtain ⟨a1, a2, a3, a4⟩ := neg_sides hc
    obtain ⟨b1, b2, b3, b4⟩ := neg_sides hs
    have a5 := a4 x0 xx xt
    have b5 := b4 y0 yy yt
    obtain ⟨l, h, e1, g1, g2, g3, g4, g5⟩ := sMul_sq x0 xx xt hc
    obtain ⟨l', h', e2, k1, k2, k3, k4, k5⟩ := sMul_sq y0 yy yt hs
    refine ⟨a2 xx, a3 x1, a5.1, a5.2, b2 yy, b3 y1, b5.1, b5.2, ⟨l, h, l', h', e1, e2, ⟨g1, g2, g3⟩, ⟨k1, k2, k3⟩, by omega, by omega⟩, ?_, fun q => d3 ?_⟩
    · rw [du, a1, b1, xe, ye]; omega
    · rw [a1, b1, xe, ye] at q; omega
  · obtain ⟨a1, a2, a3, a4⟩ := neg_sides hc
    obtain ⟨b1, b2, b3, b4⟩ := neg_sides hs
    have a5 := a4 y0 yy yt
    have b5 := b4 x0 xx xt
    obtain ⟨l, h, e1, g1, g2, g3, g4, g5⟩ := sMul_sq y0 yy yt hc
    obtain ⟨l', h', e2, k1, k2, k3, k4, k5⟩ := sMul_sq x0 xx xt hs
    refine ⟨a2 yy, a3 y1, a5.1, a5.2, b2 xx, b3 x1, b5.1, b5.2, ⟨l, h, l', h', e1, e2, ⟨g1, g2, g3⟩, ⟨k1, k2, k3⟩, by omega, by omega⟩, ?_, fun q => d3 ?_⟩
    · rw [du, a1, b1, xe, ye]; omega
    · rw [a1, b1, xe, ye] at q; omega
theorem cosE_ok {k n : Int} (h1 : 1 ≤ n) (h2 : n ≤ 720) : cosE k n = ⟨(cosF (4 * k) (4 * n)).1, (cosF (4 * k) (4 * n)).2, 0⟩ := by
  unfold cosE; rw [if_neg (by omega), cosF_scale (by omega) (by omega)]
theorem sinE_ok {k n : Int} (h1 : 1 ≤ n) (h2 : n ≤ 720) : sinE k n = ⟨(cosF (4 * k - n) (4 * n)).1, (cosF (4 * k - n) (4 * n)).2, 0⟩ := by
  unfold sinE; rw [if_neg (by omega)]

theorem bif_f {c : Bool} {A B : Prop} (h : c = false) (hb : B) : bif c then A else B := by rw [h]; exact hb
theorem bif_t {c : Bool} {A B : Prop} (h : c = true) (ha : A) : bif c then A else B := by rw [h]; exact ha
def isS (r : SE) (lo hi : Int) : Bool := decide (r.e = 0 ∧ r.lo = lo ∧ r.hi = hi)
theorem tmod_dvd {x n : Int} : (Int.tmod x n == 0) = decide (n ∣ x) := by
  by_cases h : n ∣ x
  · rw [decide_eq_true h, Int.tmod_eq_zero_of_dvd h]; rfl
  · rw [decide_eq_false h]
    have : Int.tmod x n ≠ 0 := fun e => h (Int.dvd_of_tmod_eq_zero e)
    simpa using this
theorem dvd_tmod {c k n : Int} : n ∣ c * Int.tmod k n ↔ n ∣ c * k := by
  have q := Int.tmod_add_mul_tdiv k n
  have e : c * k = c * Int.tmod k n + n * (c * Int.tdiv k n) := by
    rw [Int.mul_left_comm, ← Int.mul_add, q]
  rw [e]
  constructor
  · intro h; exact Int.dvd_add h (Int.dvd_mul_right _ _)
  · intro h
    have := Int.dvd_sub h (Int.dvd_mul_right n (c * Int.tdiv k n))
    rwa [Int.add_sub_cancel] at this
theorem circ_bools {cl ch sl sh : Int} {n k : Int} (h1 : 1 ≤ n) (h2 : n ≤ 720) (cc : cl ≤ ch) (ss : sl ≤ sh) (both : (cl = ch ∧ sl = sh) ↔ n ∣ 4 * k) (any : (cl = ch ∨ sl = sh) → n ∣ 3 * (4 * k)) :
    ∃ b1 b2 w q : Bool, (cl == ch) = b1 ∧ (sl == sh) = b2 ∧ (Int.tmod (IntKind.i64.wrap (12 * (Int.tmod k n))) n == 0) = w ∧ (Int.tmod (IntKind.i64.wrap (4 * (Int.tmod k n))) n == 0) = q ∧ decide (cl < ch) = !b1 ∧ decide (sl < sh) = !b2 ∧ (b1 && b2) = q ∧ ((b1 || b2) = true → w = true) := by
  obtain ⟨t1, t2, _⟩ := tmod_cases (k := k) h1
  refine ⟨_, _, _, _, rfl, rfl, rfl, rfl, ?_, ?_, ?_, ?_⟩
  · by_cases e : cl = ch
    · subst e; simp
    · have : cl < ch := by omega
      simp [e, this]
  · by_cases e : sl = sh
    · subst e; simp
    · have : sl < sh := by omega
      simp [e, this]
  · rw [wrap_i64 (by omega) (by omega), tmod_dvd, decide_eq_decide.2 dvd_tmod, show decide (n ∣ 4 * k) = decide (cl = ch ∧ sl = sh) from decide_eq_decide.2 both.symm]
    by_cases a : cl = ch <;> by_cases b : sl = sh <;> simp [a, b]
  · rw [wrap_i64 (by omega) (by omega), tmod_dvd, decide_eq_decide.2 dvd_tmod]
    intro h
    rw [decide_eq_true_eq, show 12 * k = 3 * (4 * k) by omega]
    simp at h
    exact any h

def FM_law05_is : FM := ⟨18, [(RV.tmp 8)], (MC.seq (MC.ops [⟨(some 4), none, (MI.box 23 (MO.t 0))⟩, ⟨(some 8), none, (MI.mv (MO.c (AV.b false)))⟩]) (MC.seq (MC.ops [⟨(some 9), none, (MI.mv (MO.t 1))⟩, ⟨(some 10), none, (MI.bin .eql (MO.t 9) (MO.c (AV.i .i64 0)))⟩, ⟨(some 11), none, (MI.mv (MO.t 10))⟩, ⟨(some 12), (some (11, true)), (MI.loadn 2 (MO.t 4))⟩, ⟨(some 13), (some (11, true)), (MI.mv (MO.t 2))⟩, ⟨(some 14), (some (11, true)), (MI.mv (MO.t 3))⟩, ⟨(some 15), (some (11, true)), (MI.build [(AV.i .i64 0), (AV.i .i64 0)] [(0, 1, (MO.t 13)), (1, 1, (MO.t 14))])⟩, ⟨(some 16), (some (11, true)), (MI.eqa false [(SK.i .i64), (SK.i .i64)] (MO.t 12) (MO.t 15))⟩, ⟨(some 17), none, (MI.pick (MO.t 11) (MO.t 16) (MO.c (AV.b false)))⟩, ⟨(some 8), none, (MI.mv (MO.t 17))⟩]) MC.ret))⟩
theorem FMc_law05_is : compF Go.Proofs.Try.prog (eqsP Go.Proofs.Try.prog) (neutOf []) (neutOf []) 35 = some FM_law05_is := by kernel_rfl
def G_law05_is : Gam := mkG [] []
theorem sg_law05_is : SoundG Go.Proofs.Try.prog 35 (WF G_law05_is 0 FM_law05_is) := WF_sound (allD_ok (n := G_law05_is.n) (l := []) trivial) mixP (mkG_ok (n := []) (g := []) trivial trivial) eqsP_ok FMc_law05_is
def S_law05_is : NSpec := fun args _ K => match args with
  | [(.agg [(.i .i64 a), (.i .i64 b)]), (.i .i64 e), (.i .i64 lo), (.i .i64 hi)] => K (.b (decide (e = 0 ∧ a = lo ∧ b = hi)))
  | _ => False
theorem det_law05_is : DetN S_law05_is := by
  intro args H K h
  unfold S_law05_is at h
  split at h
  · exact ⟨_, h, fun H' K' _ k => k⟩
  · exact h.elim

def NF_law05_is (a : Int) (b : Int) (e : Int) (lo : Int) (hi : Int) (K : AV → Prop) : Prop :=
 (bif (e == 0) then K (.b ((a == lo) && ((b == hi) && true)))
 else K (.b false))
theorem nf_law05_is (a : Int) (b : Int) (e : Int) (lo : Int) (hi : Int) (K : AV → Prop) : WF G_law05_is 0 FM_law05_is [(.agg [(.i .i64 a), (.i .i64 b)]), (.i .i64 e), (.i .i64 lo), (.i .i64 hi)] [] (fun a _ => K a) = NF_law05_is a b e lo hi K := by kernel_rfl
theorem key_law05_is (a : Int) (b : Int) (e : Int) (lo : Int) (hi : Int) {K : AV → Prop} (hk : K (.b (decide (e = 0 ∧ a = lo ∧ b = hi)))) : NF_law05_is a b e lo hi K := by
  unfold NF_law05_is
  refine bif_i (fun h => K_of hk ?_) (fun h => K_of hk ?_) <;> simp at h <;> congr 1
  · by_cases h1 : a = lo <;> by_cases h2 : b = hi <;> simp [h, h1, h2]
  · simp [h]
theorem ok_law05_is : SoundN Go.Proofs.Try.prog 35 S_law05_is := by
  refine soundN_of sg_law05_is fun args H K hS => ?_
  unfold S_law05_is at hS
  split at hS
  · rename_i a b e lo hi
    have hS1 := key_law05_is a b e lo hi (K := fun a => plainA a = true ∧ K a) ⟨by simp [plainA, plainL], hS⟩
    refine ⟨by simp [plainA, plainL], ?_⟩
    rw [nf_law05_is a b e lo hi fun a => plainA a = true ∧ K a]
    exact hS1
  · exact hS.elim

def FM_law05_cos : FM := ⟨22, [(RV.tmp 8)], (MC.seq (MC.ops [⟨(some 8), none, (MI.mv (MO.c (AV.b false)))⟩]) (MC.seq (MC.ops [⟨(some 12), none, (MI.mv (MO.t 0))⟩, ⟨(some 13), none, (MI.mv (MO.t 1))⟩, ⟨(some 14), none, (MI.callN 14 [(MO.t 12), (MO.t 13)])⟩, ⟨(some 11), none, (MI.mv (MO.t 14))⟩, ⟨(some 15), none, (MI.ext (MO.t 11) 0)⟩, ⟨(some 16), none, (MI.ext (MO.t 11) 1)⟩, ⟨(some 9), none, (MI.alloc 23 [(AV.i .i64 0), (AV.i .i64 0)])⟩, ⟨none, none, (MI.store 2 (MO.t 9) (MO.t 15))⟩, ⟨(some 10), none, (MI.mv (MO.t 16))⟩]) (MC.seq (MC.ops [⟨(some 17), none, (MI.loadn 2 (MO.t 9))⟩, ⟨(some 18), none, (MI.mv (MO.t 10))⟩, ⟨(some 19), none, (MI.mv (MO.t 2))⟩, ⟨(some 20), none, (MI.mv (MO.t 3))⟩, ⟨(some 21), none, (MI.callN 35 [(MO.t 17), (MO.t 18), (MO.t 19), (MO.t 20)])⟩, ⟨(some 8), none, (MI.mv (MO.t 21))⟩]) MC.ret)))⟩
theorem FMc_law05_cos : compF Go.Proofs.Try.prog (eqsP Go.Proofs.Try.prog) (neutOf [14, 35]) (neutOf [14, 35]) 33 = some FM_law05_cos := by kernel_rfl
def G_law05_cos : Gam := mkG [(14, S_sine_Cos), (35, S_law05_is)] []
theorem sg_law05_cos : SoundG Go.Proofs.Try.prog 33 (WF G_law05_cos 0 FM_law05_cos) := WF_sound (allD_ok (n := G_law05_cos.n) (l := [14, 35]) ⟨det_sine_Cos, det_law05_is, trivial⟩) mixP (mkG_ok (n := [(14, S_sine_Cos), (35, S_law05_is)]) (g := []) ⟨ok_sine_Cos, ok_law05_is, trivial⟩ trivial) eqsP_ok FMc_law05_cos
def S_law05_cos : NSpec := fun args _ K => match args with
  | [(.i .i64 k), (.i .i64 n), (.i .i64 lo), (.i .i64 hi)] => (I64 k ∧ I64 n) ∧ K (.b (isS (cosE k n) lo hi))
  | _ => False
theorem det_law05_cos : DetN S_law05_cos := by
  intro args H K h
  unfold S_law05_cos at h
  split at h
  · exact ⟨_, h.2, fun H' K' _ k => ⟨h.1, k⟩⟩
  · exact h.elim

def NF_law05_cos (k : Int) (n : Int) (lo : Int) (hi : Int) (K : AV → Prop) : Prop :=
 ((I64 k ∧ I64 n) ∧
 K (.b (decide ((cosE k n).e = 0 ∧ (cosE k n).lo = lo ∧ (cosE k n).hi = hi))))
theorem nf_law05_cos (k : Int) (n : Int) (lo : Int) (hi : Int) (K : AV → Prop) : WF G_law05_cos 0 FM_law05_cos [(.i .i64 k), (.i .i64 n), (.i .i64 lo), (.i .i64 hi)] [] (fun a _ => K a) = NF_law05_cos k n lo hi K := by kernel_rfl
theorem key_law05_cos (k : Int) (n : Int) (lo : Int) (hi : Int) {K : AV → Prop} (hp : I64 k ∧ I64 n) (hk : K (.b (isS (cosE k n) lo hi))) : NF_law05_cos k n lo hi K := by
  unfold NF_law05_cos
  exact ⟨hp, hk⟩
theorem ok_law05_cos : SoundN Go.Proofs.Try.prog 33 S_law05_cos := by
  refine soundN_of sg_law05_cos fun args H K hS => ?_
  unfold S_law05_cos at hS
  split at hS
  · rename_i k n lo hi
    have hS1 := key_law05_cos k n lo hi (K := fun a => plainA a = true ∧ K a) hS.1 ⟨by simp [plainA, plainL], hS.2⟩
    refine ⟨by simp [plainA, plainL], ?_⟩
    rw [nf_law05_cos k n lo hi fun a => plainA a = true ∧ K a]
    exact hS1
  · exact hS.elim

def FM_law05_sin : FM := ⟨22, [(RV.tmp 8)], (MC.seq (MC.ops [⟨(some 8), none, (MI.mv (MO.c (AV.b false)))⟩]) (MC.seq (MC.ops [⟨(some 12), none, (MI.mv (MO.t 0))⟩, ⟨(some 13), none, (MI.mv (MO.t 1))⟩, ⟨(some 14), none, (MI.callN 16 [(MO.t 12), (MO.t 13)])⟩, ⟨(some 11), none, (MI.mv (MO.t 14))⟩, ⟨(some 15), none, (MI.ext (MO.t 11) 0)⟩, ⟨(some 16), none, (MI.ext (MO.t 11) 1)⟩, ⟨(some 9), none, (MI.alloc 23 [(AV.i .i64 0), (AV.i .i64 0)])⟩, ⟨none, none, (MI.store 2 (MO.t 9) (MO.t 15))⟩, ⟨(some 10), none, (MI.mv (MO.t 16))⟩]) (MC.seq (MC.ops [⟨(some 17), none, (MI.loadn 2 (MO.t 9))⟩, ⟨(some 18), none, (MI.mv (MO.t 10))⟩, ⟨(some 19), none, (MI.mv (MO.t 2))⟩, ⟨(some 20), none, (MI.mv (MO.t 3))⟩, ⟨(some 21), none, (MI.callN 35 [(MO.t 17), (MO.t 18), (MO.t 19), (MO.t 20)])⟩, ⟨(some 8), none, (MI.mv (MO.t 21))⟩]) MC.ret)))⟩
theorem FMc_law05_sin : compF Go.Proofs.Try.prog (eqsP Go.Proofs.Try.prog) (neutOf [16, 35]) (neutOf [16, 35]) 34 = some FM_law05_sin := by kernel_rfl
def G_law05_sin : Gam := mkG [(16, S_sine_Sin), (35, S_law05_is)] []
theorem sg_law05_sin : SoundG Go.Proofs.Try.prog 34 (WF G_law05_sin 0 FM_law05_sin) := WF_sound (allD_ok (n := G_law05_sin.n) (l := [16, 35]) ⟨det_sine_Sin, det_law05_is, trivial⟩) mixP (mkG_ok (n := [(16, S_sine_Sin), (35, S_law05_is)]) (g := []) ⟨ok_sine_Sin, ok_law05_is, trivial⟩ trivial) eqsP_ok FMc_law05_sin
def S_law05_sin : NSpec := fun args _ K => match args with
  | [(.i .i64 k), (.i .i64 n), (.i .i64 lo), (.i .i64 hi)] => (I64 k ∧ I64 n) ∧ K (.b (isS (sinE k n) lo hi))
  | _ => False
theorem det_law05_sin : DetN S_law05_sin := by
  intro args H K h
  unfold S_law05_sin at h
  split at h
  · exact ⟨_, h.2, fun H' K' _ k => ⟨h.1, k⟩⟩
  · exact h.elim

def NF_law05_sin (k : Int) (n : Int) (lo : Int) (hi : Int) (K : AV → Prop) : Prop :=
 ((I64 k ∧ I64 n) ∧
 K (.b (decide ((sinE k n).e = 0 ∧ (sinE k n).lo = lo ∧ (sinE k n).hi = hi))))
theorem nf_law05_sin (k : Int) (n : Int) (lo : Int) (hi : Int) (K : AV → Prop) : WF G_law05_sin 0 FM_law05_sin [(.i .i64 k), (.i .i64 n), (.i .i64 lo), (.i .i64 hi)] [] (fun a _ => K a) = NF_law05_sin k n lo hi K := by kernel_rfl
theorem key_law05_sin (k : Int) (n : Int) (lo : Int) (hi : Int) {K : AV → Prop} (hp : I64 k ∧ I64 n) (hk : K (.b (isS (sinE k n) lo hi))) : NF_law05_sin k n lo hi K := by
  unfold NF_law05_sin
  exact ⟨hp, hk⟩
theorem ok_law05_sin : SoundN Go.Proofs.Try.prog 34 S_law05_sin := by
  refine soundN_of sg_law05_sin fun args H K hS => ?_
  unfold S_law05_sin at hS
  split at hS
  · rename_i k n lo hi
    have hS1 := key_law05_sin k n lo hi (K := fun a => plainA a = true ∧ K a) hS.1 ⟨by simp [plainA, plainL], hS.2⟩
    refine ⟨by simp [plainA, plainL], ?_⟩
    rw [nf_law05_sin k n lo hi fun a => plainA a = true ∧ K a]
    exact hS1
  · exact hS.elim

def FM_law05_alive : FM := ⟨74, [(RV.tmp 0)], (MC.seq (MC.ops [⟨(some 0), none, (MI.mv (MO.c (AV.b false)))⟩]) (MC.seq (MC.ops [⟨(some 12), none, (MI.build [(AV.i .i64 0), (AV.i .i64 0)] [(0, 1, (MO.c (AV.i .i64 1))), (1, 1, (MO.c (AV.i .i64 3)))])⟩, ⟨(some 13), none, (MI.callN 27 [(MO.t 12)])⟩, ⟨(some 11), none, (MI.mv (MO.t 13))⟩, ⟨(some 14), none, (MI.ext (MO.t 11) 0)⟩, ⟨(some 15), none, (MI.ext (MO.t 11) 1)⟩, ⟨(some 1), none, (MI.alloc 23 [(AV.i .i64 0), (AV.i .i64 0)])⟩, ⟨none, none, (MI.store 2 (MO.t 1) (MO.t 14))⟩, ⟨(some 2), none, (MI.mv (MO.t 15))⟩]) (MC.seq (MC.ops [⟨(some 17), none, (MI.build [(AV.i .i64 0), (AV.i .i64 0)] [(0, 1, (MO.c (AV.i .i64 (-1)))), (1, 1, (MO.c (AV.i .i64 3)))])⟩, ⟨(some 18), none, (MI.callN 27 [(MO.t 17)])⟩, ⟨(some 16), none, (MI.mv (MO.t 18))⟩, ⟨(some 19), none, (MI.ext (MO.t 16) 0)⟩, ⟨(some 20), none, (MI.ext (MO.t 16) 1)⟩, ⟨(some 3), none, (MI.alloc 23 [(AV.i .i64 0), (AV.i .i64 0)])⟩, ⟨none, none, (MI.store 2 (MO.t 3) (MO.t 19))⟩, ⟨(some 4), none, (MI.mv (MO.t 20))⟩]) (MC.seq (MC.ops [⟨(some 22), none, (MI.loadn 2 (MO.t 1))⟩, ⟨(some 23), none, (MI.loadn 2 (MO.t 3))⟩, ⟨(some 24), none, (MI.callN 19 [(MO.t 22), (MO.t 23)])⟩, ⟨(some 21), none, (MI.mv (MO.t 24))⟩, ⟨(some 25), none, (MI.ext (MO.t 21) 0)⟩, ⟨(some 26), none, (MI.ext (MO.t 21) 1)⟩, ⟨(some 5), none, (MI.alloc 23 [(AV.i .i64 0), (AV.i .i64 0)])⟩, ⟨none, none, (MI.store 2 (MO.t 5) (MO.t 25))⟩, ⟨(some 6), none, (MI.mv (MO.t 26))⟩]) (MC.seq (MC.ops [⟨(some 28), none, (MI.loadn 2 (MO.t 3))⟩, ⟨(some 29), none, (MI.callN 31 [(MO.t 28)])⟩, ⟨(some 27), none, (MI.mv (MO.t 29))⟩, ⟨(some 30), none, (MI.ext (MO.t 27) 0)⟩, ⟨(some 31), none, (MI.ext (MO.t 27) 1)⟩, ⟨(some 7), none, (MI.mv (MO.t 30))⟩, ⟨(some 8), none, (MI.mv (MO.t 31))⟩]) (MC.seq (MC.ops [⟨(some 33), none, (MI.build [(AV.i .i64 0), (AV.i .i64 0)] [(0, 1, (MO.c (AV.i .i64 (-1)))), (1, 1, (MO.c (AV.i .i64 2)))])⟩, ⟨(some 34), none, (MI.callN 31 [(MO.t 33)])⟩, ⟨(some 32), none, (MI.mv (MO.t 34))⟩, ⟨(some 35), none, (MI.ext (MO.t 32) 0)⟩, ⟨(some 36), none, (MI.ext (MO.t 32) 1)⟩, ⟨(some 9), none, (MI.mv (MO.t 35))⟩, ⟨(some 10), none, (MI.mv (MO.t 36))⟩]) (MC.seq (MC.ops [⟨(some 37), none, (MI.callN 33 [(MO.c (AV.i .i64 1)), (MO.c (AV.i .i64 8)), (MO.c (AV.i .i64 707106)), (MO.c (AV.i .i64 707107))])⟩, ⟨(some 38), none, (MI.mv (MO.t 37))⟩, ⟨(some 39), (some (38, true)), (MI.callN 33 [(MO.c (AV.i .i64 1)), (MO.c (AV.i .i64 6)), (MO.c (AV.i .i64 500000)), (MO.c (AV.i .i64 500000))])⟩, ⟨(some 40), none, (MI.pick (MO.t 38) (MO.t 39) (MO.c (AV.b false)))⟩, ⟨(some 41), none, (MI.mv (MO.t 40))⟩, ⟨(some 42), (some (41, true)), (MI.callN 34 [(MO.c (AV.i .i64 1)), (MO.c (AV.i .i64 6)), (MO.c (AV.i .i64 866025)), (MO.c (AV.i .i64 866026))])⟩, ⟨(some 43), none, (MI.pick (MO.t 41) (MO.t 42) (MO.c (AV.b false)))⟩, ⟨(some 44), none, (MI.mv (MO.t 43))⟩, ⟨(some 45), (some (44, true)), (MI.callN 34 [(MO.c (AV.i .i64 3)), (MO.c (AV.i .i64 4)), (MO.c (AV.i .i64 (-1000000))), (MO.c (AV.i .i64 (-1000000)))])⟩, ⟨(some 46), none, (MI.pick (MO.t 44) (MO.t 45) (MO.c (AV.b false)))⟩, ⟨(some 47), none, (MI.mv (MO.t 46))⟩, ⟨(some 48), (some (47, true)), (MI.loadn 2 (MO.t 1))⟩, ⟨(some 49), (some (47, true)), (MI.mv (MO.t 2))⟩, ⟨(some 50), (some (47, true)), (MI.callN 35 [(MO.t 48), (MO.t 49), (MO.c (AV.i .i64 333333)), (MO.c (AV.i .i64 333334))])⟩, ⟨(some 51), none, (MI.pick (MO.t 47) (MO.t 50) (MO.c (AV.b false)))⟩, ⟨(some 52), none, (MI.mv (MO.t 51))⟩, ⟨(some 53), (some (52, true)), (MI.loadn 2 (MO.t 3))⟩, ⟨(some 54), (some (52, true)), (MI.mv (MO.t 4))⟩, ⟨(some 55), (some (52, true)), (MI.callN 35 [(MO.t 53), (MO.t 54), (MO.c (AV.i .i64 (-333334))), (MO.c (AV.i .i64 (-333333)))])⟩, ⟨(some 56), none, (MI.pick (MO.t 52) (MO.t 55) (MO.c (AV.b false)))⟩, ⟨(some 57), none, (MI.mv (MO.t 56))⟩, ⟨(some 58), (some (57, true)), (MI.loadn 2 (MO.t 5))⟩, ⟨(some 59), (some (57, true)), (MI.mv (MO.t 6))⟩, ⟨(some 60), (some (57, true)), (MI.callN 35 [(MO.t 58), (MO.t 59), (MO.c (AV.i .i64 (-111112))), (MO.c (AV.i .i64 (-111110)))])⟩, ⟨(some 61), none, (MI.pick (MO.t 57) (MO.t 60) (MO.c (AV.b false)))⟩, ⟨(some 62), none, (MI.mv (MO.t 61))⟩, ⟨(some 63), (some (62, true)), (MI.mv (MO.t 8))⟩, ⟨(some 64), (some (62, true)), (MI.bin .eql (MO.t 63) (MO.c (AV.i .i64 0)))⟩, ⟨(some 65), none, (MI.pick (MO.t 62) (MO.t 64) (MO.c (AV.b false)))⟩, ⟨(some 66), none, (MI.mv (MO.t 65))⟩, ⟨(some 67), (some (66, true)), (MI.mv (MO.t 7))⟩, ⟨(some 68), (some (66, true)), (MI.bin .eql (MO.t 67) (MO.c (AV.i .i64 (-1))))⟩, ⟨(some 69), none, (MI.pick (MO.t 66) (MO.t 68) (MO.c (AV.b false)))⟩, ⟨(some 70), none, (MI.mv (MO.t 69))⟩, ⟨(some 71), (some (70, true)), (MI.mv (MO.t 10))⟩, ⟨(some 72), (some (70, true)), (MI.bin .eql (MO.t 71) (MO.c (AV.i .i64 24)))⟩, ⟨(some 73), none, (MI.pick (MO.t 70) (MO.t 72) (MO.c (AV.b false)))⟩, ⟨(some 0), none, (MI.mv (MO.t 73))⟩]) MC.ret)))))))⟩
theorem FMc_law05_alive : compF Go.Proofs.Try.prog (eqsP Go.Proofs.Try.prog) (neutOf [19, 27, 31, 33, 34, 35]) (neutOf [19, 27, 31, 33, 34, 35]) 18 = some FM_law05_alive := by kernel_rfl
def G_law05_alive : Gam := mkG [(19, S_sine_Mul), (27, S_sine_Of), (31, S_sine_Sign), (33, S_law05_cos), (34, S_law05_sin), (35, S_law05_is)] []
theorem sg_law05_alive : SoundG Go.Proofs.Try.prog 18 (WF G_law05_alive 0 FM_law05_alive) := WF_sound (allD_ok (n := G_law05_alive.n) (l := [19, 27, 31, 33, 34, 35]) ⟨det_sine_Mul, det_sine_Of, det_sine_Sign, det_law05_cos, det_law05_sin, det_law05_is, trivial⟩) mixP (mkG_ok (n := [(19, S_sine_Mul), (27, S_sine_Of), (31, S_sine_Sign), (33, S_law05_cos), (34, S_law05_sin), (35, S_law05_is)]) (g := []) ⟨ok_sine_Mul, ok_sine_Of, ok_sine_Sign, ok_law05_cos, ok_law05_sin, ok_law05_is, trivial⟩ trivial) eqsP_ok FMc_law05_alive
def S_law05_alive : NSpec := fun args _ K => match args with
  | [] => K (.b true)
  | _ => False
theorem det_law05_alive : DetN S_law05_alive := by
  intro args H K h
  unfold S_law05_alive at h
  split at h
  · exact ⟨_, h, fun H' K' _ k => k⟩
  · exact h.elim

def NF_law05_alive  (K : AV → Prop) : Prop :=
 ((I64 (1 : Int) ∧ I64 (3 : Int)) ∧
 ((I64 (-1 : Int) ∧ I64 (3 : Int)) ∧
 (((I64 (sOf (1 : Int) (3 : Int)).lo ∧ I64 (sOf (1 : Int) (3 : Int)).hi) ∧ I64 (sOf (-1 : Int) (3 : Int)).lo ∧ I64 (sOf (-1 : Int) (3 : Int)).hi) ∧
 ((I64 (sOf (-1 : Int) (3 : Int)).lo ∧ I64 (sOf (-1 : Int) (3 : Int)).hi) ∧
 ((I64 (-1 : Int) ∧ I64 (2 : Int)) ∧
 ((I64 (1 : Int) ∧ I64 (8 : Int)) ∧
 (bif (isS (cosE (1 : Int) (8 : Int)) (707106 : Int) (707107 : Int)) then ((I64 (1 : Int) ∧ I64 (6 : Int)) ∧
 (bif (isS (cosE (1 : Int) (6 : Int)) (500000 : Int) (500000 : Int)) then ((I64 (1 : Int) ∧ I64 (6 : Int)) ∧
 (bif (isS (sinE (1 : Int) (6 : Int)) (866025 : Int) (866026 : Int)) then ((I64 (3 : Int) ∧ I64 (4 : Int)) ∧
 (bif (isS (sinE (3 : Int) (4 : Int)) (-1000000 : Int) (-1000000 : Int)) then (bif (decide ((sOf (1 : Int) (3 : Int)).e = 0 ∧ (sOf (1 : Int) (3 : Int)).lo = (333333 : Int) ∧ (sOf (1 : Int) (3 : Int)).hi = (333334 : Int))) then (bif (decide ((sOf (-1 : Int) (3 : Int)).e = 0 ∧ (sOf (-1 : Int) (3 : Int)).lo = (-333334 : Int) ∧ (sOf (-1 : Int) (3 : Int)).hi = (-333333 : Int))) then (bif (decide ((sMul (sOf (1 : Int) (3 : Int)).lo (sOf (1 : Int) (3 : Int)).hi (sOf (-1 : Int) (3 : Int)).lo (sOf (-1 : Int) (3 : Int)).hi).e = 0 ∧ (sMul (sOf (1 : Int) (3 : Int)).lo (sOf (1 : Int) (3 : Int)).hi (sOf (-1 : Int) (3 : Int)).lo (sOf (-1 : Int) (3 : Int)).hi).lo = (-111112 : Int) ∧ (sMul (sOf (1 : Int) (3 : Int)).lo (sOf (1 : Int) (3 : Int)).hi (sOf (-1 : Int) (3 : Int)).lo (sOf (-1 : Int) (3 : Int)).hi).hi = (-111110 : Int))) then (bif ((ssign (sOf (-1 : Int) (3 : Int)).lo (sOf (-1 : Int) (3 : Int)).hi).e == 0) then (bif ((ssign (sOf (-1 : Int) (3 : Int)).lo (sOf (-1 : Int) (3 : Int)).hi).v == (-1)) then K (.b ((ssign (-1 : Int) (2 : Int)).e == 24))
 else K (.b false))
 else K (.b false))
 else K (.b false))
 else K (.b false))
 else K (.b false))
 else K (.b false)))
 else K (.b false)))
 else K (.b false)))
 else K (.b false))))))))
theorem nf_law05_alive  (K : AV → Prop) : WF G_law05_alive 0 FM_law05_alive [] [] (fun a _ => K a) = NF_law05_alive  K := by kernel_rfl
theorem key_law05_alive  {K : AV → Prop} (hk : K (.b true)) : NF_law05_alive  K := by
  unfold NF_law05_alive
  have e1 : sOf 1 3 = ⟨333333, 333334, 0⟩ := by kernel_rfl
  have e2 : sOf (-1) 3 = ⟨-333334, -333333, 0⟩ := by kernel_rfl
  have e3 : sMul 333333 333334 (-333334) (-333333) = ⟨-111112, -111110, 0⟩ := by kernel_rfl
  have e4 : ssign (-333334) (-333333) = ⟨-1, 0⟩ := by kernel_rfl
  have e5 : ssign (-1) 2 = ⟨0, 24⟩ := by kernel_rfl
  have a1 : isS (cosE 1 8) 707106 707107 = true := by kernel_rfl
  have a2 : isS (cosE 1 6) 500000 500000 = true := by kernel_rfl
  have a3 : isS (sinE 1 6) 866025 866026 = true := by kernel_rfl
  have a4 : isS (sinE 3 4) (-1000000) (-1000000) = true := by kernel_rfl
  simp only [e1, e2, e3, e4, e5, a1, a2, a3, a4, I64]
  simpa using hk
theorem ok_law05_alive : SoundN Go.Proofs.Try.prog 18 S_law05_alive := by
  refine soundN_of sg_law05_alive fun args H K hS => ?_
  unfold S_law05_alive at hS
  split at hS
  · skip
    have hS1 := key_law05_alive  (K := fun a => plainA a = true ∧ K a) ⟨by simp [plainA, plainL], hS⟩
    refine ⟨by simp [plainA, plainL], ?_⟩
    rw [nf_law05_alive  fun a => plainA a = true ∧ K a]
    exact hS1
  · exact hS.elim

def FM_law05_SineCircle : FM := ⟨268, [(RV.tmp 4)], (MC.seq (MC.ops [⟨(some 4), none, (MI.mv (MO.c (AV.b false)))⟩]) (MC.seq (MC.seq (MC.ops [⟨(some 24), none, (MI.mv (MO.t 1))⟩, ⟨(some 25), none, (MI.bin .lss (MO.t 24) (MO.c (AV.i .i64 1)))⟩, ⟨(some 26), none, (MI.mv (MO.t 25))⟩, ⟨(some 27), (some (26, false)), (MI.mv (MO.t 1))⟩, ⟨(some 28), (some (26, false)), (MI.bin .gtr (MO.t 27) (MO.c (AV.i .i64 720)))⟩, ⟨(some 29), none, (MI.pick (MO.t 26) (MO.c (AV.b true)) (MO.t 28))⟩, ⟨(some 30), none, (MI.mv (MO.t 29))⟩, ⟨(some 31), (some (30, false)), (MI.mv (MO.t 0))⟩, ⟨(some 32), (some (30, false)), (MI.bin .lss (MO.t 31) (MO.c (AV.i .i64 (-1000000))))⟩, ⟨(some 33), none, (MI.pick (MO.t 30) (MO.c (AV.b true)) (MO.t 32))⟩, ⟨(some 34), none, (MI.mv (MO.t 33))⟩, ⟨(some 35), (some (34, false)), (MI.mv (MO.t 0))⟩, ⟨(some 36), (some (34, false)), (MI.bin .gtr (MO.t 35) (MO.c (AV.i .i64 1000000)))⟩, ⟨(some 37), none, (MI.pick (MO.t 34) (MO.c (AV.b true)) (MO.t 36))⟩]) (MC.cond (MO.t 37) (MC.seq (MC.ops [⟨(some 38), none, (MI.callN 18 [])⟩, ⟨(some 4), none, (MI.mv (MO.t 38))⟩]) MC.ret) MC.skip)) (MC.seq (MC.ops [⟨(some 40), none, (MI.mv (MO.t 0))⟩, ⟨(some 41), none, (MI.mv (MO.t 1))⟩, ⟨(some 42), none, (MI.callN 14 [(MO.t 40), (MO.t 41)])⟩, ⟨(some 39), none, (MI.mv (MO.t 42))⟩, ⟨(some 43), none, (MI.ext (MO.t 39) 0)⟩, ⟨(some 44), none, (MI.ext (MO.t 39) 1)⟩, ⟨(some 5), none, (MI.alloc 23 [(AV.i .i64 0), (AV.i .i64 0)])⟩, ⟨none, none, (MI.store 2 (MO.t 5) (MO.t 43))⟩, ⟨(some 6), none, (MI.mv (MO.t 44))⟩]) (MC.seq (MC.ops [⟨(some 46), none, (MI.mv (MO.t 0))⟩, ⟨(some 47), none, (MI.mv (MO.t 1))⟩, ⟨(some 48), none, (MI.callN 16 [(MO.t 46), (MO.t 47)])⟩, ⟨(some 45), none, (MI.mv (MO.t 48))⟩, ⟨(some 49), none, (MI.ext (MO.t 45) 0)⟩, ⟨(some 50), none, (MI.ext (MO.t 45) 1)⟩, ⟨(some 7), none, (MI.alloc 23 [(AV.i .i64 0), (AV.i .i64 0)])⟩, ⟨none, none, (MI.store 2 (MO.t 7) (MO.t 49))⟩, ⟨(some 8), none, (MI.mv (MO.t 50))⟩]) (MC.seq (MC.seq (MC.ops [⟨(some 51), none, (MI.mv (MO.t 6))⟩, ⟨(some 52), none, (MI.bin .neq (MO.t 51) (MO.c (AV.i .i64 0)))⟩, ⟨(some 53), none, (MI.mv (MO.t 52))⟩, ⟨(some 54), (some (53, false)), (MI.mv (MO.t 8))⟩, ⟨(some 55), (some (53, false)), (MI.bin .neq (MO.t 54) (MO.c (AV.i .i64 0)))⟩, ⟨(some 56), none, (MI.pick (MO.t 53) (MO.c (AV.b true)) (MO.t 55))⟩, ⟨(some 57), none, (MI.mv (MO.t 56))⟩, ⟨(some 58), (some (57, false)), (MI.faddr 1 (MO.t 5))⟩, ⟨(some 59), (some (57, false)), (MI.load (MO.t 58))⟩, ⟨(some 60), (some (57, false)), (MI.faddr 0 (MO.t 5))⟩, ⟨(some 61), (some (57, false)), (MI.load (MO.t 60))⟩, ⟨(some 62), (some (57, false)), (MI.bin .sub (MO.t 59) (MO.t 61))⟩, ⟨(some 63), (some (57, false)), (MI.bin .gtr (MO.t 62) (MO.c (AV.i .i64 1)))⟩, ⟨(some 64), none, (MI.pick (MO.t 57) (MO.c (AV.b true)) (MO.t 63))⟩, ⟨(some 65), none, (MI.mv (MO.t 64))⟩, ⟨(some 66), (some (65, false)), (MI.faddr 1 (MO.t 5))⟩, ⟨(some 67), (some (65, false)), (MI.load (MO.t 66))⟩, ⟨(some 68), (some (65, false)), (MI.faddr 0 (MO.t 5))⟩, ⟨(some 69), (some (65, false)), (MI.load (MO.t 68))⟩, ⟨(some 70), (some (65, false)), (MI.bin .lss (MO.t 67) (MO.t 69))⟩, ⟨(some 71), none, (MI.pick (MO.t 65) (MO.c (AV.b true)) (MO.t 70))⟩, ⟨(some 72), none, (MI.mv (MO.t 71))⟩, ⟨(some 73), (some (72, false)), (MI.faddr 1 (MO.t 7))⟩, ⟨(some 74), (some (72, false)), (MI.load (MO.t 73))⟩, ⟨(some 75), (some (72, false)), (MI.faddr 0 (MO.t 7))⟩, ⟨(some 76), (some (72, false)), (MI.load (MO.t 75))⟩, ⟨(some 77), (some (72, false)), (MI.bin .sub (MO.t 74) (MO.t 76))⟩, ⟨(some 78), (some (72, false)), (MI.bin .gtr (MO.t 77) (MO.c (AV.i .i64 1)))⟩, ⟨(some 79), none, (MI.pick (MO.t 72) (MO.c (AV.b true)) (MO.t 78))⟩, ⟨(some 80), none, (MI.mv (MO.t 79))⟩, ⟨(some 81), (some (80, false)), (MI.faddr 1 (MO.t 7))⟩, ⟨(some 82), (some (80, false)), (MI.load (MO.t 81))⟩, ⟨(some 83), (some (80, false)), (MI.faddr 0 (MO.t 7))⟩, ⟨(some 84), (some (80, false)), (MI.load (MO.t 83))⟩, ⟨(some 85), (some (80, false)), (MI.bin .lss (MO.t 82) (MO.t 84))⟩, ⟨(some 86), none, (MI.pick (MO.t 80) (MO.c (AV.b true)) (MO.t 85))⟩, ⟨(some 87), none, (MI.mv (MO.t 86))⟩, ⟨(some 88), (some (87, false)), (MI.faddr 0 (MO.t 5))⟩, ⟨(some 89), (some (87, false)), (MI.load (MO.t 88))⟩, ⟨(some 90), (some (87, false)), (MI.bin .lss (MO.t 89) (MO.c (AV.i .i64 (-1000000))))⟩, ⟨(some 91), none, (MI.pick (MO.t 87) (MO.c (AV.b true)) (MO.t 90))⟩, ⟨(some 92), none, (MI.mv (MO.t 91))⟩, ⟨(some 93), (some (92, false)), (MI.faddr 1 (MO.t 5))⟩, ⟨(some 94), (some (92, false)), (MI.load (MO.t 93))⟩, ⟨(some 95), (some (92, false)), (MI.bin .gtr (MO.t 94) (MO.c (AV.i .i64 1000000)))⟩, ⟨(some 96), none, (MI.pick (MO.t 92) (MO.c (AV.b true)) (MO.t 95))⟩, ⟨(some 97), none, (MI.mv (MO.t 96))⟩, ⟨(some 98), (some (97, false)), (MI.faddr 0 (MO.t 7))⟩, ⟨(some 99), (some (97, false)), (MI.load (MO.t 98))⟩, ⟨(some 100), (some (97, false)), (MI.bin .lss (MO.t 99) (MO.c (AV.i .i64 (-1000000))))⟩, ⟨(some 101), none, (MI.pick (MO.t 97) (MO.c (AV.b true)) (MO.t 100))⟩, ⟨(some 102), none, (MI.mv (MO.t 101))⟩, ⟨(some 103), (some (102, false)), (MI.faddr 1 (MO.t 7))⟩, ⟨(some 104), (some (102, false)), (MI.load (MO.t 103))⟩, ⟨(some 105), (some (102, false)), (MI.bin .gtr (MO.t 104) (MO.c (AV.i .i64 1000000)))⟩, ⟨(some 106), none, (MI.pick (MO.t 102) (MO.c (AV.b true)) (MO.t 105))⟩]) (MC.cond (MO.t 106) (MC.seq (MC.ops [⟨(some 4), none, (MI.mv (MO.c (AV.b false)))⟩]) MC.ret) MC.skip)) (MC.seq (MC.ops [⟨(some 108), none, (MI.loadn 2 (MO.t 5))⟩, ⟨(some 109), none, (MI.loadn 2 (MO.t 5))⟩, ⟨(some 110), none, (MI.callN 19 [(MO.t 108), (MO.t 109)])⟩, ⟨(some 107), none, (MI.mv (MO.t 110))⟩, ⟨(some 111), none, (MI.ext (MO.t 107) 0)⟩, ⟨(some 112), none, (MI.ext (MO.t 107) 1)⟩, ⟨(some 9), none, (MI.alloc 23 [(AV.i .i64 0), (AV.i .i64 0)])⟩, ⟨none, none, (MI.store 2 (MO.t 9) (MO.t 111))⟩, ⟨(some 10), none, (MI.mv (MO.t 112))⟩]) (MC.seq (MC.ops [⟨(some 114), none, (MI.loadn 2 (MO.t 7))⟩, ⟨(some 115), none, (MI.loadn 2 (MO.t 7))⟩, ⟨(some 116), none, (MI.callN 19 [(MO.t 114), (MO.t 115)])⟩, ⟨(some 113), none, (MI.mv (MO.t 116))⟩, ⟨(some 117), none, (MI.ext (MO.t 113) 0)⟩, ⟨(some 118), none, (MI.ext (MO.t 113) 1)⟩, ⟨(some 11), none, (MI.alloc 23 [(AV.i .i64 0), (AV.i .i64 0)])⟩, ⟨none, none, (MI.store 2 (MO.t 11) (MO.t 117))⟩, ⟨(some 12), none, (MI.mv (MO.t 118))⟩]) (MC.seq (MC.ops [⟨(some 120), none, (MI.loadn 2 (MO.t 9))⟩, ⟨(some 121), none, (MI.loadn 2 (MO.t 11))⟩, ⟨(some 122), none, (MI.callN 20 [(MO.t 120), (MO.t 121)])⟩, ⟨(some 119), none, (MI.mv (MO.t 122))⟩, ⟨(some 123), none, (MI.ext (MO.t 119) 0)⟩, ⟨(some 124), none, (MI.ext (MO.t 119) 1)⟩, ⟨(some 13), none, (MI.alloc 23 [(AV.i .i64 0), (AV.i .i64 0)])⟩, ⟨none, none, (MI.store 2 (MO.t 13) (MO.t 123))⟩, ⟨(some 14), none, (MI.mv (MO.t 124))⟩]) (MC.seq (MC.ops [⟨(some 126), none, (MI.mv (MO.t 0))⟩, ⟨(some 127), none, (MI.mv (MO.t 1))⟩, ⟨(some 128), none, (MI.bin .add (MO.t 126) (MO.t 127))⟩, ⟨(some 129), none, (MI.mv (MO.t 1))⟩, ⟨(some 130), none, (MI.callN 14 [(MO.t 128), (MO.t 129)])⟩, ⟨(some 125), none, (MI.mv (MO.t 130))⟩, ⟨(some 131), none, (MI.ext (MO.t 125) 0)⟩, ⟨(some 132), none, (MI.ext (MO.t 125) 1)⟩, ⟨(some 15), none, (MI.alloc 23 [(AV.i .i64 0), (AV.i .i64 0)])⟩, ⟨none, none, (MI.store 2 (MO.t 15) (MO.t 131))⟩, ⟨(some 16), none, (MI.mv (MO.t 132))⟩]) (MC.seq (MC.ops [⟨(some 134), none, (MI.mv (MO.t 0))⟩, ⟨(some 135), none, (MI.un .neg (MO.t 134))⟩, ⟨(some 136), none, (MI.mv (MO.t 1))⟩, ⟨(some 137), none, (MI.callN 16 [(MO.t 135), (MO.t 136)])⟩, ⟨(some 133), none, (MI.mv (MO.t 137))⟩, ⟨(some 138), none, (MI.ext (MO.t 133) 0)⟩, ⟨(some 139), none, (MI.ext (MO.t 133) 1)⟩, ⟨(some 17), none, (MI.alloc 23 [(AV.i .i64 0), (AV.i .i64 0)])⟩, ⟨none, none, (MI.store 2 (MO.t 17) (MO.t 138))⟩, ⟨(some 18), none, (MI.mv (MO.t 139))⟩]) (MC.seq (MC.seq (MC.dr (SchM.op ⟨(some 140), none, (MI.mv (MO.t 10))⟩ (SchM.op ⟨(some 141), none, (MI.bin .neq (MO.t 140) (MO.c (AV.i .i64 0)))⟩ (SchM.op ⟨(some 142), none, (MI.mv (MO.t 141))⟩ (SchM.op ⟨(some 143), (some (142, false)), (MI.mv (MO.t 12))⟩ (SchM.op ⟨(some 144), (some (142, false)), (MI.bin .neq (MO.t 143) (MO.c (AV.i .i64 0)))⟩ (SchM.op ⟨(some 145), none, (MI.pick (MO.t 142) (MO.c (AV.b true)) (MO.t 144))⟩ (SchM.op ⟨(some 146), none, (MI.mv (MO.t 145))⟩ (SchM.op ⟨(some 147), (some (146, false)), (MI.mv (MO.t 14))⟩ (SchM.op ⟨(some 148), (some (146, false)), (MI.bin .neq (MO.t 147) (MO.c (AV.i .i64 0)))⟩ (SchM.op ⟨(some 149), none, (MI.pick (MO.t 146) (MO.c (AV.b true)) (MO.t 148))⟩ (SchM.op ⟨(some 150), none, (MI.mv (MO.t 149))⟩ (SchM.op ⟨(some 151), (some (150, false)), (MI.faddr 0 (MO.t 13))⟩ (SchM.op ⟨(some 152), (some (150, false)), (MI.load (MO.t 151))⟩ (SchM.op ⟨(some 153), (some (150, false)), (MI.bin .gtr (MO.t 152) (MO.c (AV.i .i64 1000000)))⟩ (SchM.op ⟨(some 154), none, (MI.pick (MO.t 150) (MO.c (AV.b true)) (MO.t 153))⟩ (SchM.op ⟨(some 155), none, (MI.mv (MO.t 154))⟩ (SchM.op ⟨(some 156), (some (155, false)), (MI.faddr 1 (MO.t 13))⟩ (SchM.op ⟨(some 157), (some (155, false)), (MI.load (MO.t 156))⟩ (SchM.op ⟨(some 158), (some (155, false)), (MI.bin .lss (MO.t 157) (MO.c (AV.i .i64 1000000)))⟩ (SchM.op ⟨(some 159), none, (MI.pick (MO.t 155) (MO.c (AV.b true)) (MO.t 158))⟩ (SchM.op ⟨(some 160), none, (MI.mv (MO.t 159))⟩ (SchM.op ⟨(some 161), (some (160, false)), (MI.mv (MO.t 16))⟩ (SchM.op ⟨(some 162), (some (160, false)), (MI.bin .neq (MO.t 161) (MO.c (AV.i .i64 0)))⟩ (SchM.op ⟨(some 163), none, (MI.pick (MO.t 160) (MO.c (AV.b true)) (MO.t 162))⟩ (SchM.op ⟨(some 164), none, (MI.mv (MO.t 163))⟩ (SchM.op ⟨(some 165), (some (164, false)), (MI.loadn 2 (MO.t 15))⟩ (SchM.op ⟨(some 166), (some (164, false)), (MI.loadn 2 (MO.t 5))⟩ (SchM.op ⟨(some 167), (some (164, false)), (MI.eqa true [(SK.i .i64), (SK.i .i64)] (MO.t 165) (MO.t 166))⟩ (SchM.op ⟨(some 168), none, (MI.pick (MO.t 164) (MO.c (AV.b true)) (MO.t 167))⟩ (SchM.op ⟨(some 169), none, (MI.mv (MO.t 168))⟩ (SchM.op ⟨(some 170), (some (169, false)), (MI.mv (MO.t 18))⟩ (SchM.op ⟨(some 171), (some (169, false)), (MI.bin .neq (MO.t 170) (MO.c (AV.i .i64 0)))⟩ (SchM.op ⟨(some 172), none, (MI.pick (MO.t 169) (MO.c (AV.b true)) (MO.t 171))⟩ (SchM.op ⟨(some 173), none, (MI.mv (MO.t 172))⟩ (SchM.op ⟨(some 174), (some (173, false)), (MI.loadn 2 (MO.t 17))⟩ (SchM.op ⟨(some 175), (some (173, false)), (MI.loadn 2 (MO.t 7))⟩ (SchM.op ⟨(some 176), (some (173, false)), (MI.callN 21 [(MO.t 175)])⟩ (SchM.op ⟨(some 177), (some (173, false)), (MI.eqa true [(SK.i .i64), (SK.i .i64)] (MO.t 174) (MO.t 176))⟩ (SchM.op ⟨(some 178), none, (MI.pick (MO.t 173) (MO.c (AV.b true)) (MO.t 177))⟩ SchM.done)))))))))))))))))))))))))))))))))))))))) (MC.cond (MO.t 178) (MC.seq (MC.ops [⟨(some 4), none, (MI.mv (MO.c (AV.b false)))⟩]) MC.ret) MC.skip)) (MC.seq (MC.seq (MC.ops [⟨(some 179), none, (MI.mv (MO.t 1))⟩, ⟨(some 180), none, (MI.bin .rem (MO.t 179) (MO.c (AV.i .i64 2)))⟩, ⟨(some 181), none, (MI.bin .eql (MO.t 180) (MO.c (AV.i .i64 0)))⟩]) (MC.cond (MO.t 181) (MC.seq (MC.ops [⟨(some 183), none, (MI.mv (MO.t 0))⟩, ⟨(some 184), none, (MI.mv (MO.t 1))⟩, ⟨(some 185), none, (MI.bin .quo (MO.t 184) (MO.c (AV.i .i64 2)))⟩, ⟨(some 186), none, (MI.bin .add (MO.t 183) (MO.t 185))⟩, ⟨(some 187), none, (MI.mv (MO.t 1))⟩, ⟨(some 188), none, (MI.callN 14 [(MO.t 186), (MO.t 187)])⟩, ⟨(some 182), none, (MI.mv (MO.t 188))⟩, ⟨(some 189), none, (MI.ext (MO.t 182) 0)⟩, ⟨(some 190), none, (MI.ext (MO.t 182) 1)⟩, ⟨(some 19), none, (MI.alloc 23 [(AV.i .i64 0), (AV.i .i64 0)])⟩, ⟨none, none, (MI.store 2 (MO.t 19) (MO.t 189))⟩, ⟨(some 20), none, (MI.mv (MO.t 190))⟩]) (MC.seq (MC.dr (SchM.op ⟨(some 191), none, (MI.mv (MO.t 20))⟩ (SchM.op ⟨(some 192), none, (MI.bin .neq (MO.t 191) (MO.c (AV.i .i64 0)))⟩ (SchM.op ⟨(some 193), none, (MI.mv (MO.t 192))⟩ (SchM.op ⟨(some 194), (some (193, false)), (MI.loadn 2 (MO.t 19))⟩ (SchM.op ⟨(some 195), (some (193, false)), (MI.loadn 2 (MO.t 5))⟩ (SchM.op ⟨(some 196), (some (193, false)), (MI.callN 21 [(MO.t 195)])⟩ (SchM.op ⟨(some 197), (some (193, false)), (MI.eqa true [(SK.i .i64), (SK.i .i64)] (MO.t 194) (MO.t 196))⟩ (SchM.op ⟨(some 198), none, (MI.pick (MO.t 193) (MO.c (AV.b true)) (MO.t 197))⟩ SchM.done))))))))) (MC.cond (MO.t 198) (MC.seq (MC.ops [⟨(some 4), none, (MI.mv (MO.c (AV.b false)))⟩]) MC.ret) MC.skip))) MC.skip)) (MC.seq (MC.seq (MC.ops [⟨(some 199), none, (MI.mv (MO.t 1))⟩, ⟨(some 200), none, (MI.bin .rem (MO.t 199) (MO.c (AV.i .i64 4)))⟩, ⟨(some 201), none, (MI.bin .eql (MO.t 200) (MO.c (AV.i .i64 0)))⟩]) (MC.cond (MO.t 201) (MC.seq (MC.ops [⟨(some 203), none, (MI.mv (MO.t 0))⟩, ⟨(some 204), none, (MI.mv (MO.t 1))⟩, ⟨(some 205), none, (MI.bin .quo (MO.t 204) (MO.c (AV.i .i64 4)))⟩, ⟨(some 206), none, (MI.bin .add (MO.t 203) (MO.t 205))⟩, ⟨(some 207), none, (MI.mv (MO.t 1))⟩, ⟨(some 208), none, (MI.callN 16 [(MO.t 206), (MO.t 207)])⟩, ⟨(some 202), none, (MI.mv (MO.t 208))⟩, ⟨(some 209), none, (MI.ext (MO.t 202) 0)⟩, ⟨(some 210), none, (MI.ext (MO.t 202) 1)⟩, ⟨(some 21), none, (MI.alloc 23 [(AV.i .i64 0), (AV.i .i64 0)])⟩, ⟨none, none, (MI.store 2 (MO.t 21) (MO.t 209))⟩, ⟨(some 22), none, (MI.mv (MO.t 210))⟩]) (MC.seq (MC.ops [⟨(some 211), none, (MI.mv (MO.t 22))⟩, ⟨(some 212), none, (MI.bin .neq (MO.t 211) (MO.c (AV.i .i64 0)))⟩, ⟨(some 213), none, (MI.mv (MO.t 212))⟩, ⟨(some 214), (some (213, false)), (MI.loadn 2 (MO.t 21))⟩, ⟨(some 215), (some (213, false)), (MI.loadn 2 (MO.t 5))⟩, ⟨(some 216), (some (213, false)), (MI.eqa true [(SK.i .i64), (SK.i .i64)] (MO.t 214) (MO.t 215))⟩, ⟨(some 217), none, (MI.pick (MO.t 213) (MO.c (AV.b true)) (MO.t 216))⟩]) (MC.cond (MO.t 217) (MC.seq (MC.ops [⟨(some 4), none, (MI.mv (MO.c (AV.b false)))⟩]) MC.ret) MC.skip))) MC.skip)) (MC.seq (MC.ops [⟨(some 218), none, (MI.mv (MO.t 0))⟩, ⟨(some 219), none, (MI.mv (MO.t 1))⟩, ⟨(some 220), none, (MI.bin .rem (MO.t 218) (MO.t 219))⟩, ⟨(some 221), none, (MI.bin .mul (MO.c (AV.i .i64 12)) (MO.t 220))⟩, ⟨(some 222), none, (MI.mv (MO.t 1))⟩, ⟨(some 223), none, (MI.bin .rem (MO.t 221) (MO.t 222))⟩, ⟨(some 224), none, (MI.bin .eql (MO.t 223) (MO.c (AV.i .i64 0)))⟩, ⟨(some 23), none, (MI.mv (MO.t 224))⟩]) (MC.seq (MC.dr (SchM.op ⟨(some 225), none, (MI.faddr 0 (MO.t 5))⟩ (SchM.op ⟨(some 226), none, (MI.load (MO.t 225))⟩ (SchM.op ⟨(some 227), none, (MI.faddr 1 (MO.t 5))⟩ (SchM.op ⟨(some 228), none, (MI.load (MO.t 227))⟩ (SchM.op ⟨(some 229), none, (MI.bin .eql (MO.t 226) (MO.t 228))⟩ (SchM.op ⟨(some 230), none, (MI.mv (MO.t 229))⟩ (SchM.op ⟨(some 231), (some (230, true)), (MI.faddr 0 (MO.t 7))⟩ (SchM.op ⟨(some 232), (some (230, true)), (MI.load (MO.t 231))⟩ (SchM.op ⟨(some 233), (some (230, true)), (MI.faddr 1 (MO.t 7))⟩ (SchM.op ⟨(some 234), (some (230, true)), (MI.load (MO.t 233))⟩ (SchM.op ⟨(some 235), (some (230, true)), (MI.bin .eql (MO.t 232) (MO.t 234))⟩ (SchM.op ⟨(some 236), none, (MI.pick (MO.t 230) (MO.t 235) (MO.c (AV.b false)))⟩ (SchM.op ⟨(some 237), none, (MI.mv (MO.t 23))⟩ (SchM.op ⟨(some 238), none, (MI.mv (MO.t 237))⟩ (SchM.op ⟨(some 239), (some (238, true)), (MI.mv (MO.t 0))⟩ (SchM.op ⟨(some 240), (some (238, true)), (MI.mv (MO.t 1))⟩ (SchM.op ⟨(some 241), (some (238, true)), (MI.bin .rem (MO.t 239) (MO.t 240))⟩ (SchM.op ⟨(some 242), (some (238, true)), (MI.bin .mul (MO.c (AV.i .i64 4)) (MO.t 241))⟩ (SchM.op ⟨(some 243), (some (238, true)), (MI.mv (MO.t 1))⟩ (SchM.op ⟨(some 244), (some (238, true)), (MI.bin .rem (MO.t 242) (MO.t 243))⟩ (SchM.op ⟨(some 245), (some (238, true)), (MI.bin .eql (MO.t 244) (MO.c (AV.i .i64 0)))⟩ (SchM.op ⟨(some 246), none, (MI.pick (MO.t 238) (MO.t 245) (MO.c (AV.b false)))⟩ (SchM.op ⟨(some 247), none, (MI.beq false (MO.t 236) (MO.t 246))⟩ (SchM.op ⟨(some 248), none, (MI.mv (MO.t 247))⟩ (SchM.op ⟨(some 249), (some (248, true)), (MI.mv (MO.t 23))⟩ (SchM.op ⟨(some 250), (some (248, true)), (MI.mv (MO.t 249))⟩ (SchM.op ⟨(some 251), (some (250, false)), (MI.faddr 0 (MO.t 5))⟩ (SchM.op ⟨(some 252), (some (250, false)), (MI.load (MO.t 251))⟩ (SchM.op ⟨(some 253), (some (250, false)), (MI.faddr 1 (MO.t 5))⟩ (SchM.op ⟨(some 254), (some (250, false)), (MI.load (MO.t 253))⟩ (SchM.op ⟨(some 255), (some (250, false)), (MI.bin .lss (MO.t 252) (MO.t 254))⟩ (SchM.op ⟨(some 256), (some (250, false)), (MI.mv (MO.t 255))⟩ (SchM.op ⟨(some 257), (some (256, true)), (MI.faddr 0 (MO.t 7))⟩ (SchM.op ⟨(some 258), (some (256, true)), (MI.load (MO.t 257))⟩ (SchM.op ⟨(some 259), (some (256, true)), (MI.faddr 1 (MO.t 7))⟩ (SchM.op ⟨(some 260), (some (256, true)), (MI.load (MO.t 259))⟩ (SchM.op ⟨(some 261), (some (256, true)), (MI.bin .lss (MO.t 258) (MO.t 260))⟩ (SchM.op ⟨(some 262), (some (250, false)), (MI.pick (MO.t 256) (MO.t 261) (MO.c (AV.b false)))⟩ (SchM.op ⟨(some 263), (some (248, true)), (MI.pick (MO.t 250) (MO.c (AV.b true)) (MO.t 262))⟩ (SchM.op ⟨(some 264), none, (MI.pick (MO.t 248) (MO.t 263) (MO.c (AV.b false)))⟩ (SchM.op ⟨(some 265), none, (MI.mv (MO.t 264))⟩ (SchM.op ⟨(some 266), (some (265, true)), (MI.callN 18 [])⟩ (SchM.op ⟨(some 267), none, (MI.pick (MO.t 265) (MO.t 266) (MO.c (AV.b false)))⟩ (SchM.op ⟨(some 4), none, (MI.mv (MO.t 267))⟩ SchM.done))))))))))))))))))))))))))))))))))))))))))))) MC.ret)))))))))))))))⟩
theorem FMc_law05_SineCircle : compF Go.Proofs.Try.prog (eqsP Go.Proofs.Try.prog) (neutOf [14, 16, 18, 19, 20, 21]) (neutOf [14, 16, 18, 19, 20, 21]) 5 = some FM_law05_SineCircle := by kernel_rfl
def G_law05_SineCircle : Gam := mkG [(14, S_sine_Cos), (16, S_sine_Sin), (18, S_law05_alive), (19, S_sine_Mul), (20, S_sine_Add), (21, S_ref05_Neg)] []
theorem sg_law05_SineCircle : SoundG Go.Proofs.Try.prog 5 (WF G_law05_SineCircle 1 FM_law05_SineCircle) := WF_sound (allD_ok (n := G_law05_SineCircle.n) (l := [14, 16, 18, 19, 20, 21]) ⟨det_sine_Cos, det_sine_Sin, det_law05_alive, det_sine_Mul, det_sine_Add, det_ref05_Neg, trivial⟩) mixP (mkG_ok (n := [(14, S_sine_Cos), (16, S_sine_Sin), (18, S_law05_alive), (19, S_sine_Mul), (20, S_sine_Add), (21, S_ref05_Neg)]) (g := []) ⟨ok_sine_Cos, ok_sine_Sin, ok_law05_alive, ok_sine_Mul, ok_sine_Add, ok_ref05_Neg, trivial⟩ trivial) eqsP_ok FMc_law05_SineCircle
def S_law05_SineCircle : NSpec := fun args _ K => match args with
  | [(.i .i64 k), (.i .i64 n)] => (I64 k ∧ I64 n) ∧ K (.b true)
  | _ => False
theorem det_law05_SineCircle : DetN S_law05_SineCircle := by
  intro args H K h
  unfold S_law05_SineCircle at h
  split at h
  · exact ⟨_, h.2, fun H' K' _ k => ⟨h.1, k⟩⟩
  · exact h.elim

def NF_law05_SineCircle (k : Int) (n : Int) (K : AV → Prop) : Prop :=
 (bif decide (n < 1) then K (.b true)
 else (bif decide (720 < n) then K (.b true)
 else (bif decide (k < (-1000000)) then K (.b true)
 else (bif decide (1000000 < k) then K (.b true)
 else ((I64 k ∧ I64 n) ∧
 ((I64 k ∧ I64 n) ∧
 (bif ((cosE k n).e != 0) then K (.b false)
 else (bif ((sinE k n).e != 0) then K (.b false)
 else (bif decide (1 < (IntKind.i64.wrap ((cosE k n).hi - (cosE k n).lo))) then K (.b false)
 else (bif decide ((cosE k n).hi < (cosE k n).lo) then K (.b false)
 else (bif decide (1 < (IntKind.i64.wrap ((sinE k n).hi - (sinE k n).lo))) then K (.b false)
 else (bif decide ((sinE k n).hi < (sinE k n).lo) then K (.b false)
 else (bif decide ((cosE k n).lo < (-1000000)) then K (.b false)
 else (bif decide (1000000 < (cosE k n).hi) then K (.b false)
 else (bif decide ((sinE k n).lo < (-1000000)) then K (.b false)
 else (bif decide (1000000 < (sinE k n).hi) then K (.b false)
 else (((I64 (cosE k n).lo ∧ I64 (cosE k n).hi) ∧ I64 (cosE k n).lo ∧ I64 (cosE k n).hi) ∧
 (((I64 (sinE k n).lo ∧ I64 (sinE k n).hi) ∧ I64 (sinE k n).lo ∧ I64 (sinE k n).hi) ∧
 (((I64 (sMul (cosE k n).lo (cosE k n).hi (cosE k n).lo (cosE k n).hi).lo ∧ I64 (sMul (cosE k n).lo (cosE k n).hi (cosE k n).lo (cosE k n).hi).hi) ∧ I64 (sMul (sinE k n).lo (sinE k n).hi (sinE k n).lo (sinE k n).hi).lo ∧ I64 (sMul (sinE k n).lo (sinE k n).hi (sinE k n).lo (sinE k n).hi).hi) ∧
 ((I64 (IntKind.i64.wrap (k + n)) ∧ I64 n) ∧
 ((I64 (IntKind.i64.wrap (0 - k)) ∧ I64 n) ∧
 (bif ((sMul (cosE k n).lo (cosE k n).hi (cosE k n).lo (cosE k n).hi).e != 0) then K (.b false)
 else (bif ((sMul (sinE k n).lo (sinE k n).hi (sinE k n).lo (sinE k n).hi).e != 0) then K (.b false)
 else (bif ((sAdd (sMul (cosE k n).lo (cosE k n).hi (cosE k n).lo (cosE k n).hi).lo (sMul (cosE k n).lo (cosE k n).hi (cosE k n).lo (cosE k n).hi).hi (sMul (sinE k n).lo (sinE k n).hi (sinE k n).lo (sinE k n).hi).lo (sMul (sinE k n).lo (sinE k n).hi (sinE k n).lo (sinE k n).hi).hi).e != 0) then K (.b false)
 else (bif decide (1000000 < (sAdd (sMul (cosE k n).lo (cosE k n).hi (cosE k n).lo (cosE k n).hi).lo (sMul (cosE k n).lo (cosE k n).hi (cosE k n).lo (cosE k n).hi).hi (sMul (sinE k n).lo (sinE k n).hi (sinE k n).lo (sinE k n).hi).lo (sMul (sinE k n).lo (sinE k n).hi (sinE k n).lo (sinE k n).hi).hi).lo) then K (.b false)
 else (bif decide ((sAdd (sMul (cosE k n).lo (cosE k n).hi (cosE k n).lo (cosE k n).hi).lo (sMul (cosE k n).lo (cosE k n).hi (cosE k n).lo (cosE k n).hi).hi (sMul (sinE k n).lo (sinE k n).hi (sinE k n).lo (sinE k n).hi).lo (sMul (sinE k n).lo (sinE k n).hi (sinE k n).lo (sinE k n).hi).hi).hi < 1000000) then K (.b false)
 else (bif ((cosE (IntKind.i64.wrap (k + n)) n).e != 0) then K (.b false)
 else (bif (!(((cosE (IntKind.i64.wrap (k + n)) n).lo == (cosE k n).lo) && (((cosE (IntKind.i64.wrap (k + n)) n).hi == (cosE k n).hi) && true))) then K (.b false)
 else (bif ((sinE (IntKind.i64.wrap (0 - k)) n).e != 0) then K (.b false)
 else (bif (!(((sinE (IntKind.i64.wrap (0 - k)) n).lo == (IntKind.i64.wrap (0 - (sinE k n).hi))) && (((sinE (IntKind.i64.wrap (0 - k)) n).hi == (IntKind.i64.wrap (0 - (sinE k n).lo))) && true))) then K (.b false)
 else (bif ((Int.tmod n 2) == 0) then ((I64 (IntKind.i64.wrap (k + (IntKind.i64.wrap (Int.tdiv n 2)))) ∧ I64 n) ∧
 (bif ((cosE (IntKind.i64.wrap (k + (IntKind.i64.wrap (Int.tdiv n 2)))) n).e != 0) then K (.b false)
 else (bif (!(((cosE (IntKind.i64.wrap (k + (IntKind.i64.wrap (Int.tdiv n 2)))) n).lo == (IntKind.i64.wrap (0 - (cosE k n).hi))) && (((cosE (IntKind.i64.wrap (k + (IntKind.i64.wrap (Int.tdiv n 2)))) n).hi == (IntKind.i64.wrap (0 - (cosE k n).lo))) && true))) then K (.b false)
 else (bif ((Int.tmod n 4) == 0) then ((I64 (IntKind.i64.wrap (k + (IntKind.i64.wrap (Int.tdiv n 4)))) ∧ I64 n) ∧
 (bif ((sinE (IntKind.i64.wrap (k + (IntKind.i64.wrap (Int.tdiv n 4)))) n).e != 0) then K (.b false)
 else (bif (!(((sinE (IntKind.i64.wrap (k + (IntKind.i64.wrap (Int.tdiv n 4)))) n).lo == (cosE k n).lo) && (((sinE (IntKind.i64.wrap (k + (IntKind.i64.wrap (Int.tdiv n 4)))) n).hi == (cosE k n).hi) && true))) then K (.b false)
 else (bif decide (n ≠ 0) then (bif decide (n ≠ 0) then (bif ((cosE k n).lo == (cosE k n).hi) then (bif ((Int.tmod (IntKind.i64.wrap (12 * (Int.tmod k n))) n) == 0) then (bif decide (n ≠ 0) then (bif decide (n ≠ 0) then (bif (((sinE k n).lo == (sinE k n).hi) == ((Int.tmod (IntKind.i64.wrap (4 * (Int.tmod k n))) n) == 0)) then (bif ((Int.tmod (IntKind.i64.wrap (12 * (Int.tmod k n))) n) == 0) then K (.b true)
 else (bif decide ((cosE k n).lo < (cosE k n).hi) then (bif decide ((sinE k n).lo < (sinE k n).hi) then K (.b true)
 else K (.b false))
 else K (.b false)))
 else K (.b false)) else False) else False)
 else (bif (((sinE k n).lo == (sinE k n).hi) == false) then (bif ((Int.tmod (IntKind.i64.wrap (12 * (Int.tmod k n))) n) == 0) then K (.b true)
 else (bif decide ((cosE k n).lo < (cosE k n).hi) then (bif decide ((sinE k n).lo < (sinE k n).hi) then K (.b true)
 else K (.b false))
 else K (.b false)))
 else K (.b false)))
 else (bif ((Int.tmod (IntKind.i64.wrap (12 * (Int.tmod k n))) n) == 0) then (bif decide (n ≠ 0) then (bif decide (n ≠ 0) then (bif (false == ((Int.tmod (IntKind.i64.wrap (4 * (Int.tmod k n))) n) == 0)) then (bif ((Int.tmod (IntKind.i64.wrap (12 * (Int.tmod k n))) n) == 0) then K (.b true)
 else (bif decide ((cosE k n).lo < (cosE k n).hi) then (bif decide ((sinE k n).lo < (sinE k n).hi) then K (.b true)
 else K (.b false))
 else K (.b false)))
 else K (.b false)) else False) else False)
 else (bif ((Int.tmod (IntKind.i64.wrap (12 * (Int.tmod k n))) n) == 0) then K (.b true)
 else (bif decide ((cosE k n).lo < (cosE k n).hi) then (bif decide ((sinE k n).lo < (sinE k n).hi) then K (.b true)
 else K (.b false))
 else K (.b false))))) else False) else False))))
 else (bif decide (n ≠ 0) then (bif decide (n ≠ 0) then (bif ((cosE k n).lo == (cosE k n).hi) then (bif ((Int.tmod (IntKind.i64.wrap (12 * (Int.tmod k n))) n) == 0) then (bif decide (n ≠ 0) then (bif decide (n ≠ 0) then (bif (((sinE k n).lo == (sinE k n).hi) == ((Int.tmod (IntKind.i64.wrap (4 * (Int.tmod k n))) n) == 0)) then (bif ((Int.tmod (IntKind.i64.wrap (12 * (Int.tmod k n))) n) == 0) then K (.b true)
 else (bif decide ((cosE k n).lo < (cosE k n).hi) then (bif decide ((sinE k n).lo < (sinE k n).hi) then K (.b true)
 else K (.b false))
 else K (.b false)))
 else K (.b false)) else False) else False)
 else (bif (((sinE k n).lo == (sinE k n).hi) == false) then (bif ((Int.tmod (IntKind.i64.wrap (12 * (Int.tmod k n))) n) == 0) then K (.b true)
 else (bif decide ((cosE k n).lo < (cosE k n).hi) then (bif decide ((sinE k n).lo < (sinE k n).hi) then K (.b true)
 else K (.b false))
 else K (.b false)))
 else K (.b false)))
 else (bif ((Int.tmod (IntKind.i64.wrap (12 * (Int.tmod k n))) n) == 0) then (bif decide (n ≠ 0) then (bif decide (n ≠ 0) then (bif (false == ((Int.tmod (IntKind.i64.wrap (4 * (Int.tmod k n))) n) == 0)) then (bif ((Int.tmod (IntKind.i64.wrap (12 * (Int.tmod k n))) n) == 0) then K (.b true)
 else (bif decide ((cosE k n).lo < (cosE k n).hi) then (bif decide ((sinE k n).lo < (sinE k n).hi) then K (.b true)
 else K (.b false))
 else K (.b false)))
 else K (.b false)) else False) else False)
 else (bif ((Int.tmod (IntKind.i64.wrap (12 * (Int.tmod k n))) n) == 0) then K (.b true)
 else (bif decide ((cosE k n).lo < (cosE k n).hi) then (bif decide ((sinE k n).lo < (sinE k n).hi) then K (.b true)
 else K (.b false))
 else K (.b false))))) else False) else False)))))
 else (bif ((Int.tmod n 4) == 0) then ((I64 (IntKind.i64.wrap (k + (IntKind.i64.wrap (Int.tdiv n 4)))) ∧ I64 n) ∧
 (bif ((sinE (IntKind.i64.wrap (k + (IntKind.i64.wrap (Int.tdiv n 4)))) n).e != 0) then K (.b false)
 else (bif (!(((sinE (IntKind.i64.wrap (k + (IntKind.i64.wrap (Int.tdiv n 4)))) n).lo == (cosE k n).lo) && (((sinE (IntKind.i64.wrap (k + (IntKind.i64.wrap (Int.tdiv n 4)))) n).hi == (cosE k n).hi) && true))) then K (.b false)
 else (bif decide (n ≠ 0) then (bif decide (n ≠ 0) then (bif ((cosE k n).lo == (cosE k n).hi) then (bif ((Int.tmod (IntKind.i64.wrap (12 * (Int.tmod k n))) n) == 0) then (bif decide (n ≠ 0) then (bif decide (n ≠ 0) then (bif (((sinE k n).lo == (sinE k n).hi) == ((Int.tmod (IntKind.i64.wrap (4 * (Int.tmod k n))) n) == 0)) then (bif ((Int.tmod (IntKind.i64.wrap (12 * (Int.tmod k n))) n) == 0) then K (.b true)
 else (bif decide ((cosE k n).lo < (cosE k n).hi) then (bif decide ((sinE k n).lo < (sinE k n).hi) then K (.b true)
 else K (.b false))
 else K (.b false)))
 else K (.b false)) else False) else False)
 else (bif (((sinE k n).lo == (sinE k n).hi) == false) then (bif ((Int.tmod (IntKind.i64.wrap (12 * (Int.tmod k n))) n) == 0) then K (.b true)
 else (bif decide ((cosE k n).lo < (cosE k n).hi) then (bif decide ((sinE k n).lo < (sinE k n).hi) then K (.b true)
 else K (.b false))
 else K (.b false)))
 else K (.b false)))
 else (bif ((Int.tmod (IntKind.i64.wrap (12 * (Int.tmod k n))) n) == 0) then (bif decide (n ≠ 0) then (bif decide (n ≠ 0) then (bif (false == ((Int.tmod (IntKind.i64.wrap (4 * (Int.tmod k n))) n) == 0)) then (bif ((Int.tmod (IntKind.i64.wrap (12 * (Int.tmod k n))) n) == 0) then K (.b true)
 else (bif decide ((cosE k n).lo < (cosE k n).hi) then (bif decide ((sinE k n).lo < (sinE k n).hi) then K (.b true)
 else K (.b false))
 else K (.b false)))
 else K (.b false)) else False) else False)
 else (bif ((Int.tmod (IntKind.i64.wrap (12 * (Int.tmod k n))) n) == 0) then K (.b true)
 else (bif decide ((cosE k n).lo < (cosE k n).hi) then (bif decide ((sinE k n).lo < (sinE k n).hi) then K (.b true)
 else K (.b false))
 else K (.b false))))) else False) else False))))
 else (bif decide (n ≠ 0) then (bif decide (n ≠ 0) then (bif ((cosE k n).lo == (cosE k n).hi) then (bif ((Int.tmod (IntKind.i64.wrap (12 * (Int.tmod k n))) n) == 0) then (bif decide (n ≠ 0) then (bif decide (n ≠ 0) then (bif (((sinE k n).lo == (sinE k n).hi) == ((Int.tmod (IntKind.i64.wrap (4 * (Int.tmod k n))) n) == 0)) then (bif ((Int.tmod (IntKind.i64.wrap (12 * (Int.tmod k n))) n) == 0) then K (.b true)
 else (bif decide ((cosE k n).lo < (cosE k n).hi) then (bif decide ((sinE k n).lo < (sinE k n).hi) then K (.b true)
 else K (.b false))
 else K (.b false)))
 else K (.b false)) else False) else False)
 else (bif (((sinE k n).lo == (sinE k n).hi) == false) then (bif ((Int.tmod (IntKind.i64.wrap (12 * (Int.tmod k n))) n) == 0) then K (.b true)
 else (bif decide ((cosE k n).lo < (cosE k n).hi) then (bif decide ((sinE k n).lo < (sinE k n).hi) then K (.b true)
 else K (.b false))
 else K (.b false)))
 else K (.b false)))
 else (bif ((Int.tmod (IntKind.i64.wrap (12 * (Int.tmod k n))) n) == 0) then (bif decide (n ≠ 0) then (bif decide (n ≠ 0) then (bif (false == ((Int.tmod (IntKind.i64.wrap (4 * (Int.tmod k n))) n) == 0)) then (bif ((Int.tmod (IntKind.i64.wrap (12 * (Int.tmod k n))) n) == 0) then K (.b true)
 else (bif decide ((cosE k n).lo < (cosE k n).hi) then (bif decide ((sinE k n).lo < (sinE k n).hi) then K (.b true)
 else K (.b false))
 else K (.b false)))
 else K (.b false)) else False) else False)
 else (bif ((Int.tmod (IntKind.i64.wrap (12 * (Int.tmod k n))) n) == 0) then K (.b true)
 else (bif decide ((cosE k n).lo < (cosE k n).hi) then (bif decide ((sinE k n).lo < (sinE k n).hi) then K (.b true)
 else K (.b false))
 else K (.b false))))) else False) else False)))))))))))))))))))))))))))))))))
theorem nf_law05_SineCircle (k : Int) (n : Int) (K : AV → Prop) : WFR 9 G_law05_SineCircle 1 FM_law05_SineCircle [(.i .i64 k), (.i .i64 n)] [] (fun a _ => K a) = NF_law05_SineCircle k n K := by kernel_rfl
theorem key_law05_SineCircle (k : Int) (n : Int) {K : AV → Prop} (hp : I64 k ∧ I64 n) (hk : K (.b true)) : NF_law05_SineCircle k n K := by
  unfold NF_law05_SineCircle
  obtain ⟨hk1, hn1⟩ := hp
  refine bif_i (fun _ => hk) (fun g1 => bif_i (fun _ => hk) (fun g2 => bif_i (fun _ => hk) (fun g3 => bif_i (fun _ => hk) (fun g4 => ?_))))
  simp only [decide_eq_false_iff_not] at g1 g2 g3 g4
  have h1 : 1 ≤ n := by omega
  have h2 : n ≤ 720 := by omega
  have wk : IntKind.i64.wrap (k + n) = k + n := wrap_i64 (by omega) (by omega)
  have wm : IntKind.i64.wrap (0 - k) = -k := by rw [wrap_i64 (by omega) (by omega)]; omega
  have t2 : Int.tdiv n 2 = n / 2 := tdiv_pos (by omega)
  have t4 : Int.tdiv n 4 = n / 4 := tdiv_pos (by omega)
  have w2 : IntKind.i64.wrap (k + IntKind.i64.wrap (n / 2)) = k + n / 2 := by rw [wrap_i64 (n := n / 2) (by omega) (by omega), wrap_i64 (by omega) (by omega)]
  have w4 : IntKind.i64.wrap (k + IntKind.i64.wrap (n / 4)) = k + n / 4 := by rw [wrap_i64 (n := n / 4) (by omega) (by omega), wrap_i64 (by omega) (by omega)]
  have ce2 : cosE (k + n) n = cosE k n := by rw [cosE_ok h1 h2, cosE_ok h1 h2, show 4 * (k + n) = 4 * k + 4 * n * 1 by omega, cosF_shift]
  have se2 : sinE (-k) n = ⟨-(cosF (4 * k - n) (4 * n)).2, -(cosF (4 * k - n) (4 * n)).1, 0⟩ := by
    rw [sinE_ok h1 h2, show 4 * -k - n = -(4 * k + n) by omega, cosF_neg (by omega), show 4 * k + n = (4 * k - n) + 2 * n by omega, cosF_half (by omega)]; rfl
  have ce4 : n % 2 = 0 → cosE (k + n / 2) n = ⟨-(cosF (4 * k) (4 * n)).2, -(cosF (4 * k) (4 * n)).1, 0⟩ := by
    intro e
    rw [cosE_ok h1 h2, show 4 * (k + n / 2) = 4 * k + 2 * n by omega, cosF_half (by omega)]; rfl
  have se4 : n % 4 = 0 → sinE (k + n / 4) n = cosE k n := by
    intro e
    rw [sinE_ok h1 h2, cosE_ok h1 h2, show 4 * (k + n / 4) - n = 4 * k by omega]
  have i2 : I64 (k + n / 2) ∧ I64 n := ⟨⟨by omega, by omega⟩, hn1⟩
  have i4 : I64 (k + n / 4) ∧ I64 n := ⟨⟨by omega, by omega⟩, hn1⟩
  have co := circ_all (u := 4 * k) h1 h2
  simp only [wk, wm, t2, t4, w2, w4, ce2, se2]
  have ceq := cosE_ok (k := k) h1 h2
  have seq := sinE_ok (k := k) h1 h2
  rw [ceq] at se4
  simp only [ceq, seq]
  generalize cosF (4 * k) (4 * n) = c at *
  generalize cosF (4 * k - n) (4 * n) = s at *
  obtain ⟨cl, ch⟩ := c
  obtain ⟨sl, sh⟩ := s
  obtain ⟨q1, q2, q3, q4, q5, q6, q7, q8, ⟨l, h, l', h', e1, e2, q9, q10, q11, q12⟩, q13, q14⟩ := co
  simp only at q1 q2 q3 q4 q5 q6 q7 q8 e1 e2 q13 q14 ce4 se4
  obtain ⟨b1, b2, w, q, f1, f2, f3, f4, f5, f6, f7, f8⟩ := circ_bools h1 h2 q1 q5 q13 q14
  have E : sAdd l h l' h' = ⟨l + l', h + h', 0⟩ := by
    unfold sAdd mkS
    rw [if_pos (by unfold spanOk; omega), if_pos (by unfold spanOk; omega)]
  have hn : decide (n ≠ 0) = true := by rw [decide_eq_true_eq]; omega
  have x1 : IntKind.i64.wrap (ch - cl) = ch - cl := wrap_i64 (by omega) (by omega)
  have x2 : IntKind.i64.wrap (sh - sl) = sh - sl := wrap_i64 (by omega) (by omega)
  have x3 : IntKind.i64.wrap (0 - ch) = -ch := by rw [wrap_i64 (by omega) (by omega)]; omega
  have x4 : IntKind.i64.wrap (0 - cl) = -cl := by rw [wrap_i64 (by omega) (by omega)]; omega
  have x5 : IntKind.i64.wrap (0 - sh) = -sh := by rw [wrap_i64 (by omega) (by omega)]; omega
  have x6 : IntKind.i64.wrap (0 - sl) = -sl := by rw [wrap_i64 (by omega) (by omega)]; omega
  simp only [e1, e2, E, hn, x1, x2, x3, x4, x5, x6, f1, f2, f3, f4, f5, f6, cond_true]
  have ic : I64 cl ∧ I64 ch := ⟨⟨by omega, by omega⟩, by omega, by omega⟩
  have is : I64 sl ∧ I64 sh := ⟨⟨by omega, by omega⟩, by omega, by omega⟩
  have il : I64 l ∧ I64 h := ⟨⟨by omega, by omega⟩, by omega, by omega⟩
  have il' : I64 l' ∧ I64 h' := ⟨⟨by omega, by omega⟩, by omega, by omega⟩
  have ik : I64 (k + n) ∧ I64 n := ⟨⟨by omega, by omega⟩, hn1⟩
  have im : I64 (-k) ∧ I64 n := ⟨⟨by omega, by omega⟩, hn1⟩
  refine ⟨⟨hk1, hn1⟩, ⟨hk1, hn1⟩, bif_f rfl (bif_f rfl (bif_f (decide_eq_false (by omega)) (bif_f (decide_eq_false (by omega)) (bif_f (decide_eq_false (by omega)) (bif_f (decide_eq_false (by omega)) (bif_f (decide_eq_false (by omega)) (bif_f (decide_eq_false (by omega)) (bif_f (decide_eq_false (by omega)) (bif_f (decide_eq_false (by omega)) ⟨⟨ic, ic⟩, ⟨is, is⟩, ⟨il, il'⟩, ik, im, bif_f rfl (bif_f rfl (bif_f rfl (bif_f (decide_eq_false (by omega)) (bif_f (decide_eq_false (by omega)) (bif_f rfl (bif_f (by simp) (bif_f rfl (bif_f (by simp) (bif_i (fun e => ?_) (fun e => bif_i (fun e' => ?_) (fun e' => ?_)))))))))))⟩)))))))))⟩
  · have e0 : n % 2 = 0 := by rw [tmod_pos (by omega)] at e; simpa using e
    rw [ce4 e0]
    refine ⟨i2, bif_f rfl (bif_f (by simp) (bif_i (fun e' => ?_) (fun e' => ?_)))⟩
    · have e4 : n % 4 = 0 := by rw [tmod_pos (by omega)] at e'; simpa using e'
      rw [se4 e4]
      refine ⟨i4, bif_f rfl (bif_f (by simp) ?_)⟩
      cases b1 <;> cases b2 <;> cases w <;> cases q <;> simp at f7 f8 ⊢ <;> exact hk
    · cases b1 <;> cases b2 <;> cases w <;> cases q <;> simp at f7 f8 ⊢ <;> exact hk
  · have e4 : n % 4 = 0 := by rw [tmod_pos (by omega)] at e'; simpa using e'
    rw [se4 e4]
    refine ⟨i4, bif_f rfl (bif_f (by simp) ?_)⟩
    cases b1 <;> cases b2 <;> cases w <;> cases q <;> simp at f7 f8 ⊢ <;> exact hk
  · cases b1 <;> cases b2 <;> cases w <;> cases q <;> simp at f7 f8 ⊢ <;> exact hk
theorem ok_law05_SineCircle : SoundN Go.Proofs.Try.prog 5 S_law05_SineCircle := by
  refine soundN_of sg_law05_SineCircle fun args H K hS => ?_
  unfold S_law05_SineCircle at hS
  split at hS
  · rename_i k n
    have hS1 := key_law05_SineCircle k n (K := fun a => plainA a = true ∧ K a) hS.1 ⟨by simp [plainA, plainL], hS.2⟩
    refine ⟨by simp [plainA, plainL], ?_⟩
    refine WFR_imp (D := 9) ?_
    rw [nf_law05_SineCircle k n fun a => plainA a = true ∧ K a]
    exact hS1
  · exact hS.elim

def FM_law05_common : FM := ⟨17, [(RV.tmp 4)], (MC.seq (MC.ops [⟨(some 2), none, (MI.box 23 (MO.t 0))⟩, ⟨(some 3), none, (MI.box 23 (MO.t 1))⟩, ⟨(some 4), none, (MI.mv (MO.c (AV.b false)))⟩]) (MC.seq (MC.ops [⟨(some 5), none, (MI.faddr 0 (MO.t 2))⟩, ⟨(some 6), none, (MI.load (MO.t 5))⟩, ⟨(some 7), none, (MI.faddr 1 (MO.t 3))⟩, ⟨(some 8), none, (MI.load (MO.t 7))⟩, ⟨(some 9), none, (MI.bin .leq (MO.t 6) (MO.t 8))⟩, ⟨(some 10), none, (MI.mv (MO.t 9))⟩, ⟨(some 11), (some (10, true)), (MI.faddr 0 (MO.t 3))⟩, ⟨(some 12), (some (10, true)), (MI.load (MO.t 11))⟩, ⟨(some 13), (some (10, true)), (MI.faddr 1 (MO.t 2))⟩, ⟨(some 14), (some (10, true)), (MI.load (MO.t 13))⟩, ⟨(some 15), (some (10, true)), (MI.bin .leq (MO.t 12) (MO.t 14))⟩, ⟨(some 16), none, (MI.pick (MO.t 10) (MO.t 15) (MO.c (AV.b false)))⟩, ⟨(some 4), none, (MI.mv (MO.t 16))⟩]) MC.ret))⟩
theorem FMc_law05_common : compF Go.Proofs.Try.prog (eqsP Go.Proofs.Try.prog) (neutOf []) (neutOf []) 23 = some FM_law05_common := by kernel_rfl
def G_law05_common : Gam := mkG [] []
theorem sg_law05_common : SoundG Go.Proofs.Try.prog 23 (WF G_law05_common 0 FM_law05_common) := WF_sound (allD_ok (n := G_law05_common.n) (l := []) trivial) mixP (mkG_ok (n := []) (g := []) trivial trivial) eqsP_ok FMc_law05_common
def S_law05_common : NSpec := fun args _ K => match args with
  | [(.agg [(.i .i64 a), (.i .i64 b)]), (.agg [(.i .i64 c), (.i .i64 d)])] => K (.b (decide (a ≤ d ∧ c ≤ b)))
  | _ => False
theorem det_law05_common : DetN S_law05_common := by
  intro args H K h
  unfold S_law05_common at h
  split at h
  · exact ⟨_, h, fun H' K' _ k => k⟩
  · exact h.elim

def NF_law05_common (a : Int) (b : Int) (c : Int) (d : Int) (K : AV → Prop) : Prop :=
 (bif decide (a ≤ d) then K (.b (decide (c ≤ b)))
 else K (.b false))
theorem nf_law05_common (a : Int) (b : Int) (c : Int) (d : Int) (K : AV → Prop) : WF G_law05_common 0 FM_law05_common [(.agg [(.i .i64 a), (.i .i64 b)]), (.agg [(.i .i64 c), (.i .i64 d)])] [] (fun a _ => K a) = NF_law05_common a b c d K := by kernel_rfl
theorem key_law05_common (a : Int) (b : Int) (c : Int) (d : Int) {K : AV → Prop} (hk : K (.b (decide (a ≤ d ∧ c ≤ b)))) : NF_law05_common a b c d K := by
  unfold NF_law05_common
  refine bif_i (fun h => K_of hk ?_) (fun h => K_of hk ?_) <;> simp only [decide_eq_true_eq, decide_eq_false_iff_not] at h <;> congr 1
  · simp [h]
  · simp [h]
theorem ok_law05_common : SoundN Go.Proofs.Try.prog 23 S_law05_common := by
  refine soundN_of sg_law05_common fun args H K hS => ?_
  unfold S_law05_common at hS
  split at hS
  · rename_i a b c d
    have hS1 := key_law05_common a b c d (K := fun a => plainA a = true ∧ K a) ⟨by simp [plainA, plainL], hS⟩
    refine ⟨by simp [plainA, plainL], ?_⟩
    rw [nf_law05_common a b c d fun a => plainA a = true ∧ K a]
    exact hS1
  · exact hS.elim

end Go.Proofs.Ytkmhmabkahaekaa.V
