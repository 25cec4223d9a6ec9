/-
  Contracts, printed by a program of this session (wip/tool/sym.py) from the unit text si5: what each function comes to, and its proof.
-/
import Derived.Test.YtkmhmabkahaekaaSi4
import Derived.Test.YtkmhmabkahaekaaProg
import Derived.Test.YtkmhmabkahaekaaVo
set_option linter.unusedVariables false
set_option linter.unusedSimpArgs false
set_option maxRecDepth 100000
namespace Go.Proofs.Ytkmhmabkahaekaa.V
open Go Go.RowKit


/-! ### Turns -/
theorem negP_negP (p : Int × Int) : negP (negP p) = p := by unfold negP; simp
theorem octF_scale {c k n : Int} {s : Bool} (hc : 0 < c) (hk : 0 ≤ k) (hn : 0 ≤ n) : octF (c * k) (c * n) s = octF k n s := by
  by_cases z : k = 0
  · subst z; rw [Int.mul_zero]; cases s
    · rw [octF_f0, octF_f0]
    · rw [octF_t0, octF_t0]
  · have z2 : c * k ≠ 0 := Int.mul_ne_zero (by omega) z
    cases s
    · rw [octF_f z, octF_f z2, angP_scale hc hk hn]
    · rw [octF_t z, octF_t z2, angP_scale hc hk hn]
      have : 12 * (c * k) = c * n ↔ 12 * k = n := by
        rw [Int.mul_left_comm]
        exact ⟨fun e => Int.eq_of_mul_eq_mul_left (by omega) e, fun e => by rw [e]⟩
      by_cases h : 12 * k = n
      · rw [if_pos h, if_pos (this.2 h)]
      · rw [if_neg h, if_neg (mt this.1 h)]
theorem cosQ_scale {c q n : Int} (hc : 0 < c) (hq : 0 ≤ q) (h2 : 2 * q ≤ n) : cosQ (c * q) (c * n) = cosQ q n := by
  unfold cosQ
  have e1 : 3 * (c * n) < 8 * (c * q) ↔ 3 * n < 8 * q := by
    rw [Int.mul_left_comm 3, Int.mul_left_comm 8]
    exact ⟨fun h => Int.lt_of_mul_lt_mul_left h (by omega), fun h => Int.mul_lt_mul_of_pos_left h hc⟩
  have e2 : 2 * (c * n) < 8 * (c * q) ↔ 2 * n < 8 * q := by
    rw [Int.mul_left_comm 2, Int.mul_left_comm 8]
    exact ⟨fun h => Int.lt_of_mul_lt_mul_left h (by omega), fun h => Int.mul_lt_mul_of_pos_left h hc⟩
  have e3 : c * n < 8 * (c * q) ↔ n < 8 * q := by
    rw [Int.mul_left_comm 8]
    exact ⟨fun h => Int.lt_of_mul_lt_mul_left h (by omega), fun h => Int.mul_lt_mul_of_pos_left h hc⟩
  simp only [e1, e2, e3]
  have f1 : 4 * (c * n) - 8 * (c * q) = c * (4 * n - 8 * q) := by rw [Int.mul_sub, Int.mul_left_comm c 4, Int.mul_left_comm c 8]
  have f2 : 8 * (c * q) - 2 * (c * n) = c * (8 * q - 2 * n) := by rw [Int.mul_sub, Int.mul_left_comm c 2, Int.mul_left_comm c 8]
  have f3 : 2 * (c * n) - 8 * (c * q) = c * (2 * n - 8 * q) := by rw [Int.mul_sub, Int.mul_left_comm c 2, Int.mul_left_comm c 8]
  have f4 : 8 * (c * q) = c * (8 * q) := Int.mul_left_comm ..
  have f5 : 8 * (c * n) = c * (8 * n) := Int.mul_left_comm ..
  by_cases A : 3 * n < 8 * q
  · rw [if_pos A, if_pos A, f1, f5, octF_scale hc (by omega) (by omega)]
  · rw [if_neg A, if_neg A]
    by_cases B : 2 * n < 8 * q
    · rw [if_pos B, if_pos B, f2, f5, octF_scale hc (by omega) (by omega)]
    · rw [if_neg B, if_neg B]
      by_cases C : n < 8 * q
      · rw [if_pos C, if_pos C, f3, f5, octF_scale hc (by omega) (by omega)]
      · rw [if_neg C, if_neg C, f4, f5, octF_scale hc (by omega) (by omega)]
theorem cosF_scale {c k n : Int} (hc : 0 < c) (hn : 0 < n) : cosF (c * k) (c * n) = cosF k n := by
  unfold cosF
  have m0 := Int.emod_nonneg k (b := n) (by omega)
  have m1 := Int.emod_lt_of_pos k hn
  have e : c * k % (c * n) = c * (k % n) := Int.mul_emod_mul_of_pos _ _ hc
  have e2 : min (c * (k % n)) (c * n - c * (k % n)) = c * min (k % n) (n - k % n) := by
    rw [← Int.mul_sub]
    by_cases h : k % n ≤ n - k % n
    · rw [Int.min_eq_left h, Int.min_eq_left (Int.mul_le_mul_of_nonneg_left h (by omega))]
    · have hle : n - k % n ≤ k % n := by omega
      have hle2 : c * (n - k % n) ≤ c * (k % n) := Int.mul_le_mul_of_nonneg_left hle (by omega)
      rw [Int.min_eq_right hle, Int.min_eq_right hle2]
  rw [e, e2]
  exact cosQ_scale hc (by omega) (by omega)
theorem cosF_neg {k n : Int} (hn : 0 < n) : cosF (-k) n = cosF k n := by
  unfold cosF; rw [min_neg hn]
theorem cosF_low {k n : Int} (h0 : 0 ≤ k) (h : 2 * k ≤ n) (hn : 0 < n) : cosF k n = cosQ k n := by
  unfold cosF
  rw [Int.emod_eq_of_lt h0 (by omega), show min k (n - k) = k by omega]
theorem oct_mid {m : Int} (hm : 0 < m) : octF m (8 * m) false = octF m (8 * m) true := by
  rw [octF_f (by omega), octF_t (by omega), if_neg (by omega), (ang_eighth hm).1, mid_val.1, mid_val.2.2]
theorem cosQ_refl {q m : Int} (h0 : 0 ≤ q) (h : q ≤ 2 * m) (hm : 0 < m) : cosQ (2 * m - q) (4 * m) = negP (cosQ q (4 * m)) := by
  have mid := oct_mid (m := 4 * m) (by omega)
  unfold cosQ
  by_cases A : 3 * (4 * m) < 8 * q
  · rw [if_pos A, if_neg (by omega), if_neg (by omega), if_neg (by omega), negP_negP]
    congr 1; omega
  · rw [if_neg A]
    by_cases B : 2 * (4 * m) < 8 * q
    · rw [if_pos B, if_neg (by omega), if_neg (by omega), negP_negP]
      by_cases B2 : 8 * q = 3 * (4 * m)
      · rw [if_neg (by omega), show 8 * (2 * m - q) = 4 * m by omega, show 8 * q - 2 * (4 * m) = 4 * m by omega, mid]
      · rw [if_pos (by omega)]; congr 1; omega
    · rw [if_neg B]
      by_cases C : 4 * m < 8 * q
      · rw [if_pos C, if_neg (by omega)]
        by_cases C2 : q = m
        · rw [if_neg (by omega), if_pos (by omega), show 2 * (4 * m) - 8 * (2 * m - q) = 0 by omega, show 2 * (4 * m) - 8 * q = 0 by omega, octF_t0]; rfl
        · rw [if_pos (by omega)]; congr 2; omega
      · rw [if_neg C]
        by_cases D : 8 * q = 4 * m
        · rw [if_neg (by omega), if_pos (by omega), show 8 * (2 * m - q) - 2 * (4 * m) = 4 * m by omega, D, mid]
        · rw [if_pos (by omega)]; congr 2; omega
theorem cosF_half {u m : Int} (hm : 0 < m) : cosF (u + 2 * m) (4 * m) = negP (cosF u (4 * m)) := by
  have m0 := Int.emod_nonneg u (b := 4 * m) (by omega)
  have m1 := Int.emod_lt_of_pos u (show 0 < 4 * m by omega)
  have d := Int.mul_ediv_add_emod u (4 * m)
  have key : ∀ q, q = min (u % (4 * m)) (4 * m - u % (4 * m)) → min ((u + 2 * m) % (4 * m)) (4 * m - (u + 2 * m) % (4 * m)) = 2 * m - q := by
    intro q hq
    by_cases h : u % (4 * m) < 2 * m
    · have : (u + 2 * m) % (4 * m) = u % (4 * m) + 2 * m := by
        rw [show u + 2 * m = (u % (4 * m) + 2 * m) + 4 * m * (u / (4 * m)) by omega, Int.add_mul_emod_self_left, Int.emod_eq_of_lt (by omega) (by omega)]
      omega
    · have : (u + 2 * m) % (4 * m) = u % (4 * m) - 2 * m := by
        rw [show u + 2 * m = (u % (4 * m) - 2 * m) + 4 * m * (u / (4 * m) + 1) by rw [Int.mul_add]; omega, Int.add_mul_emod_self_left, Int.emod_eq_of_lt (by omega) (by omega)]
      omega
  unfold cosF
  rw [key _ rfl]
  exact cosQ_refl (by omega) (by omega) hm
/-- A cosine and the sine to it: of one octant, but for signs and order. -/
def PairJ (u m j : Int) (c s : Int × Int) : Prop := (0 ≤ j ∧ 2 * j ≤ m) ∧ (m ∣ u - j ∨ m ∣ u + j) ∧
  (((c = octF (8 * j) (32 * m) false ∨ c = negP (octF (8 * j) (32 * m) false)) ∧ (s = octF (8 * j) (32 * m) true ∨ s = negP (octF (8 * j) (32 * m) true))) ∨
   ((c = octF (8 * j) (32 * m) true ∨ c = negP (octF (8 * j) (32 * m) true)) ∧ (s = octF (8 * j) (32 * m) false ∨ s = negP (octF (8 * j) (32 * m) false))))
theorem pair_q {q m : Int} (h0 : 0 ≤ q) (h : q ≤ 2 * m) (hm : 0 < m) : ∃ j, PairJ q m j (cosQ q (4 * m)) (cosF (q - m) (4 * m)) := by
  have mid := oct_mid (m := 4 * m) (by omega)
  rw [show 8 * (4 * m) = 32 * m by omega] at mid
  by_cases hq : q ≤ m
  · have es : cosF (q - m) (4 * m) = cosQ (m - q) (4 * m) := by
      rw [show q - m = -(m - q) by omega, cosF_neg (by omega), cosF_low (by omega) (by omega) (by omega)]
    rw [es]
    unfold cosQ
    rw [if_neg (show ¬ 3 * (4 * m) < 8 * q by omega), if_neg (show ¬ 2 * (4 * m) < 8 * q by omega), if_neg (show ¬ 3 * (4 * m) < 8 * (m - q) by omega), if_neg (show ¬ 2 * (4 * m) < 8 * (m - q) by omega), show 8 * (4 * m) = 32 * m by omega]
    by_cases D : 8 * q ≤ 4 * m
    · refine ⟨q, ⟨by omega, by omega⟩, .inl (by simp), .inl ⟨.inl ?_, .inl ?_⟩⟩
      · rw [if_neg (by omega)]
      · by_cases E : 8 * q = 4 * m
        · rw [if_neg (by omega), show 8 * (m - q) = 4 * m by omega, E, mid]
        · rw [if_pos (by omega)]; congr 1; omega
    · refine ⟨m - q, ⟨by omega, by omega⟩, .inr (by rw [show q + (m - q) = m by omega]; exact Int.dvd_refl _), .inr ⟨.inl ?_, .inl ?_⟩⟩
      · rw [if_pos (by omega)]; congr 1; omega
      · rw [if_neg (by omega)]
  · have es : cosF (q - m) (4 * m) = cosQ (q - m) (4 * m) := cosF_low (by omega) (by omega) (by omega)
    rw [es]
    unfold cosQ
    rw [if_neg (show ¬ 3 * (4 * m) < 8 * (q - m) by omega), if_neg (show ¬ 2 * (4 * m) < 8 * (q - m) by omega), show 8 * (4 * m) = 32 * m by omega]
    by_cases A : 3 * (4 * m) < 8 * q
    · refine ⟨2 * m - q, ⟨by omega, by omega⟩, .inr (by rw [show q + (2 * m - q) = m * 2 by omega]; exact Int.dvd_mul_right _ _), .inl ⟨.inr ?_, .inl ?_⟩⟩
      · rw [if_pos A]; congr 2; omega
      · rw [if_pos (by omega)]; congr 1; omega
    · refine ⟨q - m, ⟨by omega, by omega⟩, .inl (by rw [show q - (q - m) = m by omega]; exact Int.dvd_refl _), .inr ⟨.inr ?_, .inl ?_⟩⟩
      · rw [if_neg A, if_pos (by omega)]; congr 2; omega
      · rw [if_neg (by omega)]
theorem pair_all {u m : Int} (hm : 0 < m) : ∃ j, PairJ u m j (cosF u (4 * m)) (cosF (u - m) (4 * m)) := by
  have m0 := Int.emod_nonneg u (b := 4 * m) (by omega)
  have m1 := Int.emod_lt_of_pos u (show 0 < 4 * m by omega)
  have d := Int.mul_ediv_add_emod u (4 * m)
  by_cases h : u % (4 * m) ≤ 2 * m
  · obtain ⟨j, h1, h2, h3⟩ := pair_q m0 h hm
    refine ⟨j, h1, ?_, ?_⟩
    · have t : m ∣ 4 * m * (u / (4 * m)) := by rw [Int.mul_comm 4 m, Int.mul_assoc]; exact Int.dvd_mul_right _ _
      rcases h2 with h2 | h2
      · refine .inl ?_
        rw [show u - j = 4 * m * (u / (4 * m)) + (u % (4 * m) - j) by omega]; exact Int.dvd_add t h2
      · refine .inr ?_
        rw [show u + j = 4 * m * (u / (4 * m)) + (u % (4 * m) + j) by omega]; exact Int.dvd_add t h2
    · have e1 : cosF u (4 * m) = cosQ (u % (4 * m)) (4 * m) := by
        unfold cosF; rw [show min (u % (4 * m)) (4 * m - u % (4 * m)) = u % (4 * m) by omega]
      have e2 : cosF (u - m) (4 * m) = cosF (u % (4 * m) - m) (4 * m) := by
        rw [show u - m = (u % (4 * m) - m) + 4 * m * (u / (4 * m)) by omega, cosF_shift]
      rw [e1, e2]; exact h3
  · obtain ⟨j, h1, h2, h3⟩ := pair_q (q := 4 * m - u % (4 * m)) (m := m) (by omega) (by omega) hm
    refine ⟨j, h1, ?_, ?_⟩
    · have t : m ∣ 4 * m * (u / (4 * m) + 1) := by rw [Int.mul_comm 4 m, Int.mul_assoc]; exact Int.dvd_mul_right _ _
      rw [Int.mul_add] at t
      rcases h2 with h2 | h2
      · refine .inr ?_
        rw [show u + j = (4 * m * (u / (4 * m)) + 4 * m * 1) - (4 * m - u % (4 * m) - j) by omega]; exact Int.dvd_sub t h2
      · refine .inl ?_
        rw [show u - j = (4 * m * (u / (4 * m)) + 4 * m * 1) - (4 * m - u % (4 * m) + j) by omega]; exact Int.dvd_sub t h2
    · have e1 : cosF u (4 * m) = cosQ (4 * m - u % (4 * m)) (4 * m) := by
        unfold cosF; rw [show min (u % (4 * m)) (4 * m - u % (4 * m)) = 4 * m - u % (4 * m) by omega]
      have e2 : cosF (u - m) (4 * m) = negP (cosF (4 * m - u % (4 * m) - m) (4 * m)) := by
        rw [← cosF_half hm, ← cosF_neg (k := u - m) (by omega)]
        rw [show -(u - m) = (4 * m - u % (4 * m) - m + 2 * m) + 4 * m * -(u / (4 * m) + 1) by rw [Int.mul_neg, Int.mul_add]; omega, cosF_shift]
      rw [e1, e2]
      have fl : ∀ {a x : Int × Int}, (a = x ∨ a = negP x) → (negP a = x ∨ negP a = negP x) := by
        rintro a x (rfl | rfl)
        · exact .inr rfl
        · exact .inl (negP_negP x)
      rcases h3 with ⟨a, b⟩ | ⟨a, b⟩
      · exact .inl ⟨a, fl b⟩
      · exact .inr ⟨a, fl b⟩
/-! ### What an octant's enclosures are -/
theorem sinMP_le {k n : Int} (h : FirstP k n) : Fin.sinMP (Fin.angP k.toNat n.toNat) ≤ 785398 := by
  obtain ⟨_, h1⟩ := first_ang h
  have hs := sinPs_le (Fin.sqP (Fin.angP k.toNat n.toNat))
  have e : Fin.sinMP (Fin.angP k.toNat n.toNat) = Fin.sinPs (Fin.sqP (Fin.angP k.toNat n.toNat)) * Fin.angP k.toNat n.toNat / 1000000000000000000 / 1000000000000 := rfl
  rw [e]
  have m := Nat.mul_le_mul hs h1
  omega
theorem circ_iff {a b : Nat} (h : Fin.circ a b = true) : a * a + b * b ≤ 1000000000000 ∧ 1000000000000 ≤ (a + 1) * (a + 1) + (b + 1) * (b + 1) ∧ a < 1000000 := by
  unfold Fin.circ at h
  simp only [Bool.and_eq_true] at h
  obtain ⟨⟨h1, h2⟩, h3⟩ := h
  exact ⟨Nat.le_of_ble_eq_true h1, Nat.le_of_ble_eq_true h2, by simpa [Nat.blt_eq] using h3⟩
structure OctOk (m j : Int) (x y : Int × Int) : Prop where
  x0 : 0 ≤ x.1
  xx : x.1 ≤ x.2
  x1 : x.2 ≤ x.1 + 1
  xt : x.2 ≤ 1000000
  y0 : 0 ≤ y.1
  yy : y.1 ≤ y.2
  y1 : y.2 ≤ y.1 + 1
  yt : y.2 ≤ 1000000
  lo : x.1 * x.1 + y.1 * y.1 ≤ 1000000000000
  hi : 1000000000000 ≤ x.2 * x.2 + y.2 * y.2
  xe : x.1 = x.2 ↔ j = 0
  ye : y.1 = y.2 ↔ j = 0 ∨ 3 * j = m
theorem oct_ok {m j : Int} (h1 : 1 ≤ m) (h2 : m ≤ 720) (j0 : 0 ≤ j) (jm : 2 * j ≤ m) : OctOk m j (octF (8 * j) (32 * m) false) (octF (8 * j) (32 * m) true) := by
  by_cases z : j = 0
  · subst z
    rw [Int.mul_zero, octF_f0, octF_t0]
    constructor <;> simp
  · have ck := chkF_of h1 h2 (show 0 < j by omega) jm
    have fp : FirstP j (4 * m) := ⟨by omega, by omega, by omega, by omega⟩
    have sl := sinMP_le fp
    rw [octF_f (by omega), octF_t (by omega), show 32 * m = 8 * (4 * m) by omega, angP_scale (by omega) (by omega) (by omega)]
    obtain ⟨_, _, hc⟩ := ck
    obtain ⟨c1, c2, c3⟩ := circ_iff hc
    by_cases T : 12 * (8 * j) = 8 * (4 * m)
    · rw [if_pos T]
      have e : Fin.angP j.toNat (4 * m).toNat = 523598775598298873 := by
        obtain ⟨i, rfl⟩ := Int.eq_ofNat_of_zero_le j0
        rw [show Int.toNat (4 * m) = 12 * i by omega, Int.toNat_natCast]
        show 6283185307179586477 * i / (12 * i) = _
        rw [Nat.mul_div_mul_right _ _ (by omega)]
      have e2 : Fin.cosMP 523598775598298873 = 866025 := by decide +kernel
      rw [e, e2]
      have j3 : 3 * j = m := by omega
      show OctOk m j (866025, 866026) (500000, 500000)
      exact ⟨by decide, by decide, by decide, by decide, by decide, by decide, by decide, by decide, by decide, by decide, ⟨fun h => absurd h (by decide), fun h => absurd h z⟩, ⟨fun _ => .inr j3, fun _ => rfl⟩⟩
    · rw [if_neg T]
      generalize Fin.cosMP (Fin.angP j.toNat (4 * m).toNat) = a at *
      generalize Fin.sinMP (Fin.angP j.toNat (4 * m).toNat) = b at *
      have d1 : (a : Int) * (a : Int) + (b : Int) * (b : Int) ≤ 1000000000000 := by
        rw [← Int.natCast_mul, ← Int.natCast_mul]; omega
      have d2 : (1000000000000 : Int) ≤ ((a : Int) + 1) * ((a : Int) + 1) + ((b : Int) + 1) * ((b : Int) + 1) := by
        rw [show ((a : Int) + 1) = ((a + 1 : Nat) : Int) by omega, show ((b : Int) + 1) = ((b + 1 : Nat) : Int) by omega, ← Int.natCast_mul, ← Int.natCast_mul]; omega
      refine ⟨?_, ?_, ?_, ?_, ?_, ?_, ?_, ?_, d1, d2, ?_, ?_⟩ <;> simp only <;> omega
/-! ### Squares -/
theorem imin_le (p q : Int) : imin p q = p ∨ imin p q = q := by unfold imin; split <;> simp
/-- The square of an enclosure. -/
theorem sMul_sq {x y : Int} (h0 : 0 ≤ x) (h1 : x ≤ y) (h2 : y ≤ 1000000) {p : Int × Int} (hp : p = (x, y) ∨ p = negP (x, y)) :
    ∃ l h, sMul p.1 p.2 p.1 p.2 = ⟨l, h, 0⟩ ∧ 0 ≤ l ∧ l ≤ h ∧ h ≤ 1000000 ∧ l * 1000000 ≤ x * x ∧ y * y ≤ h * 1000000 := by
  have m1 : x * x ≤ x * y := Int.mul_le_mul_of_nonneg_left h1 h0
  have m2 : x * y ≤ y * y := Int.mul_le_mul_of_nonneg_right h1 (by omega)
  have m3 : y * y ≤ 1000000 * y := Int.mul_le_mul_of_nonneg_right h2 (by omega)
  have m0 : 0 ≤ x * x := Int.mul_nonneg h0 h0
  have key : ∀ a b c d : Int, (a = x * x ∧ d = y * y ∨ a = y * y ∧ d = x * x) → b = x * y → c = x * y → mn4 a b c d = x * x ∧ mx4 a b c d = y * y := by
    rintro a b c d (⟨rfl, rfl⟩ | ⟨rfl, rfl⟩) rfl rfl
    · have a := mn4_mem (x * x) (x * y) (x * y) (y * y)
      have b := mx4_mem (x * x) (x * y) (x * y) (y * y)
      omega
    · have a := mn4_mem (y * y) (x * y) (x * y) (x * x)
      have b := mx4_mem (y * y) (x * y) (x * y) (x * x)
      omega
  have fin : mkS (x * x / 1000000) (-(-(y * y) / 1000000)) = ⟨x * x / 1000000, -(-(y * y) / 1000000), 0⟩ := by
    unfold mkS; rw [if_pos]; unfold spanOk; omega
  refine ⟨x * x / 1000000, -(-(y * y) / 1000000), ?_, by omega, by omega, by omega, by omega, by omega⟩
  rcases hp with rfl | rfl
  · unfold sMul
    obtain ⟨k1, k2⟩ := key (x * x) (x * y) (y * x) (y * y) (.inl ⟨rfl, rfl⟩) rfl (Int.mul_comm ..)
    rw [if_pos (by unfold spanOk; simp only; omega)]
    simp only
    rw [k1, k2, fin]
  · unfold sMul negP
    obtain ⟨k1, k2⟩ := key (-y * -y) (-y * -x) (-x * -y) (-x * -x) (.inr ⟨Int.neg_mul_neg .., Int.neg_mul_neg ..⟩) (by rw [Int.neg_mul_neg, Int.mul_comm]) (Int.neg_mul_neg ..)
    rw [if_pos (by unfold spanOk; simp only; omega)]
    simp only
    rw [k1, k2, fin]
/-- What SineCircle says of a cosine and a sine. -/
structure CircOk (u m : Int) (c s : Int × Int) : Prop where
  cc : c.1 ≤ c.2
  c1 : c.2 ≤ c.1 + 1
  cl : -1000000 ≤ c.1
  ch : c.2 ≤ 1000000
  ss : s.1 ≤ s.2
  s1 : s.2 ≤ s.1 + 1
  sl : -1000000 ≤ s.1
  sh : s.2 ≤ 1000000
  sq : ∃ l h l' h', sMul c.1 c.2 c.1 c.2 = ⟨l, h, 0⟩ ∧ sMul s.1 s.2 s.1 s.2 = ⟨l', h', 0⟩ ∧ (0 ≤ l ∧ l ≤ h ∧ h ≤ 1000000) ∧ (0 ≤ l' ∧ l' ≤ h' ∧ h' ≤ 1000000) ∧ l + l' ≤ 1000000 ∧ 1000000 ≤ h + h'
  both : (c.1 = c.2 ∧ s.1 = s.2) ↔ m ∣ u
  any : (c.1 = c.2 ∨ s.1 = s.2) → m ∣ 3 * u
theorem neg_sides {x p : Int × Int} (h : p = x ∨ p = negP x) : (p.1 = p.2 ↔ x.1 = x.2) ∧ (x.1 ≤ x.2 → p.1 ≤ p.2) ∧ (x.2 ≤ x.1 + 1 → p.2 ≤ p.1 + 1) ∧ (0 ≤ x.1 → x.1 ≤ x.2 → x.2 ≤ 1000000 → -1000000 ≤ p.1 ∧ p.2 ≤ 1000000) := by
  rcases h with rfl | rfl
  · omega
  · unfold negP; simp only; omega
theorem dvd_small {m j : Int} (h0 : 0 ≤ j) (h : 2 * j ≤ m) (hm : 0 < m) : m ∣ j ↔ j = 0 := by
  constructor
  · rintro ⟨c, hc⟩
    rcases Int.lt_trichotomy c 0 with q | q | q
    · have := Int.mul_neg_of_pos_of_neg hm q; omega
    · rw [hc, q, Int.mul_zero]
    · have := Int.mul_le_mul_of_nonneg_left (show 1 ≤ c by omega) (show 0 ≤ m by omega); omega
  · rintro rfl; exact Int.dvd_zero _
theorem circ_all {u m : Int} (h1 : 1 ≤ m) (h2 : m ≤ 720) : CircOk u m (cosF u (4 * m)) (cosF (u - m) (4 * m)) := by
  obtain ⟨j, ⟨j0, jm⟩, hd, hp⟩ := pair_all (u := u) (m := m) (by omega)
  have ok := oct_ok h1 h2 j0 jm
  generalize octF (8 * j) (32 * m) false = x at *
  generalize octF (8 * j) (32 * m) true = y at *
  generalize cosF u (4 * m) = c at *
  generalize cosF (u - m) (4 * m) = s at *
  have du : m ∣ u ↔ j = 0 := by
    rw [← dvd_small j0 jm (by omega)]
    rcases hd with hd | hd
    · constructor
      · intro h; have := Int.dvd_sub h hd; rwa [show u - (u - j) = j by omega] at this
      · intro h; have := Int.dvd_add hd h; rwa [show u - j + j = u by omega] at this
    · constructor
      · intro h; have := Int.dvd_sub hd h; rwa [show u + j - u = j by omega] at this
      · intro h; have := Int.dvd_sub hd h; rwa [show u + j - j = u by omega] at this
  have d3 : j = 0 ∨ 3 * j = m → m ∣ 3 * u := by
    intro h
    have hj : m ∣ 3 * j := by
      rcases h with h | h
      · rw [h]; exact Int.dvd_zero _
      · rw [h]; exact Int.dvd_refl _
    rcases hd with hd | hd
    · have := Int.dvd_add (Int.dvd_trans hd (Int.dvd_mul_left 3 _)) hj; rwa [show 3 * (u - j) + 3 * j = 3 * u by omega] at this
    · have := Int.dvd_sub (Int.dvd_trans hd (Int.dvd_mul_left 3 _)) hj; rwa [show 3 * (u + j) - 3 * j = 3 * u by omega] at this
  obtain ⟨x0, xx, x1, xt, y0, yy, y1, yt, lo, hi, xe, ye⟩ := ok
  rcases hp with ⟨hc, hs⟩ | ⟨hc, hs⟩
  · obtain ⟨a1, a2, a3, a4⟩ := neg_sides hc
    obtain ⟨b1, b2, b3, b4⟩ := neg_sides hs
    have a5 := a4 x0 xx xt
    have b5 := b4 y0 yy yt
    obtain ⟨l, h, e1, g1, g2, g3, g4, g5⟩ := sMul_sq x0 xx xt hc
    obtain ⟨l', h', e2, k1, k2, k3, k4, k5⟩ := sMul_sq y0 yy yt hs
    refine ⟨a2 xx, a3 x1, a5.1, a5.2, b2 yy, b3 y1, b5.1, b5.2, ⟨l, h, l', h', e1, e2, ⟨g1, g2, g3⟩, ⟨k1, k2, k3⟩, by omega, by omega⟩, ?_, fun q => d3 ?_⟩
    · rw [du, a1, b1, xe, ye]; omega
    · rw [a1, b1, xe, ye] at q; omega
  · obtain ⟨a1, a2, a3, a4⟩ := neg_sides hc
    obtain ⟨b1, b2, b3, b4⟩ := neg_sides hs
    have a5 := a4 y0 yy yt
    have b5 := b4 x0 xx xt
    obtain ⟨l, h, e1, g1, g2, g3, g4, g5⟩ := sMul_sq y0 yy yt hc
    obtain ⟨l', h', e2, k1, k2, k3, k4, k5⟩ := sMul_sq x0 xx xt hs
    refine ⟨a2 yy, a3 y1, a5.1, a5.2, b2 xx, b3 x1, b5.1, b5.2, ⟨l, h, l', h', e1, e2, ⟨g1, g2, g3⟩, ⟨k1, k2, k3⟩, by omega, by omega⟩, ?_, fun q => d3 ?_⟩
    · rw [du, a1, b1, xe, ye]; omega
    · rw [a1, b1, xe, ye] at q; omega
theorem cosE_ok {k n : Int} (h1 : 1 ≤ n) (h2 : n ≤ 720) : cosE k n = ⟨(cosF (4 * k) (4 * n)).1, (cosF (4 * k) (4 * n)).2, 0⟩ := by
  unfold cosE; rw [if_neg (by omega), cosF_scale (by omega) (by omega)]
theorem sinE_ok {k n : Int} (h1 : 1 ≤ n) (h2 : n ≤ 720) : sinE k n = ⟨(cosF (4 * k - n) (4 * n)).1, (cosF (4 * k - n) (4 * n)).2, 0⟩ := by
  unfold sinE; rw [if_neg (by omega)]

theorem bif_f {c : Bool} {A B : Prop} (h : c = false) (hb : B) : bif c then A else B := by rw [h]; exact hb
theorem bif_t {c : Bool} {A B : Prop} (h : c = true) (ha : A) : bif c then A else B := by rw [h]; exact ha
def isS (r : SE) (lo hi : Int) : Bool := decide (r.e = 0 ∧ r.lo = lo ∧ r.hi = hi)
theorem tmod_dvd {x n : Int} : (Int.tmod x n == 0) = decide (n ∣ x) := by
  by_cases h : n ∣ x
  · rw [decide_eq_true h, Int.tmod_eq_zero_of_dvd h]; rfl
  · rw [decide_eq_false h]
    have : Int.tmod x n ≠ 0 := fun e => h (Int.dvd_of_tmod_eq_zero e)
    simpa using this
theorem dvd_tmod {c k n : Int} : n ∣ c * Int.tmod k n ↔ n ∣ c * k := by
  have q := Int.tmod_add_mul_tdiv k n
  have e : c * k = c * Int.tmod k n + n * (c * Int.tdiv k n) := by
    rw [Int.mul_left_comm, ← Int.mul_add, q]
  rw [e]
  constructor
  · intro h; exact Int.dvd_add h (Int.dvd_mul_right _ _)
  · intro h
    have := Int.dvd_sub h (Int.dvd_mul_right n (c * Int.tdiv k n))
    rwa [Int.add_sub_cancel] at this
theorem circ_bools {cl ch sl sh : Int} {n k : Int} (h1 : 1 ≤ n) (h2 : n ≤ 720) (cc : cl ≤ ch) (ss : sl ≤ sh) (both : (cl = ch ∧ sl = sh) ↔ n ∣ 4 * k) (any : (cl = ch ∨ sl = sh) → n ∣ 3 * (4 * k)) :
    ∃ b1 b2 w q : Bool, (cl == ch) = b1 ∧ (sl == sh) = b2 ∧ (Int.tmod (IntKind.i64.wrap (12 * (Int.tmod k n))) n == 0) = w ∧ (Int.tmod (IntKind.i64.wrap (4 * (Int.tmod k n))) n == 0) = q ∧ decide (cl < ch) = !b1 ∧ decide (sl < sh) = !b2 ∧ (b1 && b2) = q ∧ ((b1 || b2) = true → w = true) := by
  obtain ⟨t1, t2, _⟩ := tmod_cases (k := k) h1
  refine ⟨_, _, _, _, rfl, rfl, rfl, rfl, ?_, ?_, ?_, ?_⟩
  · by_cases e : cl = ch
    · subst e; simp
    · have : cl < ch := by omega
      simp [e, this]
  · by_cases e : sl = sh
    · subst e; simp
    · have : sl < sh := by omega
      simp [e, this]
  · rw [wrap_i64 (by omega) (by omega), tmod_dvd, decide_eq_decide.2 dvd_tmod, show decide (n ∣ 4 * k) = decide (cl = ch ∧ sl = sh) from decide_eq_decide.2 both.symm]
    by_cases a : cl = ch <;> by_cases b : sl = sh <;> simp [a, b]
  · rw [wrap_i64 (by omega) (by omega), tmod_dvd, decide_eq_decide.2 dvd_tmod]
    intro h
    rw [decide_eq_true_eq, show 12 * k = 3 * (4 * k) by omega]
    simp at h
    exact any h

def FM_law05_is : FM := ⟨18, [(RV.tmp 8)], (MC.seq (MC.ops [⟨(some 4), none, (MI.box 23 (MO.t 0))⟩, ⟨(some 8), none, (MI.mv (MO.c (AV.b false)))⟩]) (MC.seq (MC.ops [⟨(some 9), none, (MI.mv (MO.t 1))⟩, ⟨(some 10), none, (MI.bin .eql (MO.t 9) (MO.c (AV.i .i64 0)))⟩, ⟨(some 11), none, (MI.mv (MO.t 10))⟩, ⟨(some 12), (some (11, true)), (MI.loadn 2 (MO.t 4))⟩, ⟨(some 13), (some (11, true)), (MI.mv (MO.t 2))⟩, ⟨(some 14), (some (11, true)), (MI.mv (MO.t 3))⟩, ⟨(some 15), (some (11, true)), (MI.build [(AV.i .i64 0), (AV.i .i64 0)] [(0, 1, (MO.t 13)), (1, 1, (MO.t 14))])⟩, ⟨(some 16), (some (11, true)), (MI.eqa false [(SK.i .i64), (SK.i .i64)] (MO.t 12) (MO.t 15))⟩, ⟨(some 17), none, (MI.pick (MO.t 11) (MO.t 16) (MO.c (AV.b false)))⟩, ⟨(some 8), none, (MI.mv (MO.t 17))⟩]) MC.ret))⟩
theorem FMc_law05_is : compF Go.Proofs.Try.prog (eqsP Go.Proofs.Try.prog) (neutOf []) (neutOf []) 35 = some FM_law05_is := by kernel_rfl
def G_law05_is : Gam := mkG [] []
theorem sg_law05_is : SoundG Go.Proofs.Try.prog 35 (WF G_law05_is 0 FM_law05_is) := WF_sound (allD_ok (n := G_law05_is.n) (l := []) trivial) mixP (mkG_ok (n := []) (g := []) trivial trivial) eqsP_ok FMc_law05_is
def S_law05_is : NSpec := fun args _ K => match args with
  | [(.agg [(.i .i64 a), (.i .i64 b)]), (.i .i64 e), (.i .i64 lo), (.i .i64 hi)] => K (.b (decide (e = 0 ∧ a = lo ∧ b = hi)))
  | _ => False
theorem det_law05_is : DetN S_law05_is := by
  intro args H K h
  unfold S_law05_is at h
  split at h
  · exact ⟨_, h, fun H' K' _ k => k⟩
  · exact h.elim

def NF_law05_is (a b e lo hi : Int) (K : AV → Prop) : Prop :=
 (bif (e == 0) then K (.b ((a == lo) && ((b == hi) && true)))
 else K (.b false))
theorem nf_law05_is (a b e lo hi : Int) (K : AV → Prop) : WF G_law05_is 0 FM_law05_is [(.agg [(.i .i64 a), (.i .i64 b)]), (.i .i64 e), (.i .i64 lo), (.i .i64 hi)] [] (fun a _ => K a) = NF_law05_is a b e lo hi K := by kernel_rfl
theorem key_law05_is (a b e lo hi : Int) {K : AV → Prop} (hk : K (.b (decide (e = 0 ∧ a = lo ∧ b = hi)))) : NF_law05_is a b e lo hi K := by
  unfold NF_law05_is
  refine bif_i (fun h => K_of hk ?_) (fun h => K_of hk ?_) <;> simp at h <;> congr 1
  · by_cases h1 : a = lo <;> by_cases h2 : b = hi <;> simp [h, h1, h2]
  · simp [h]
theorem ok_law05_is : SoundN Go.Proofs.Try.prog 35 S_law05_is := by
  refine soundN_of sg_law05_is fun args H K hS => ?_
  unfold S_law05_is at hS
  split at hS
  · rename_i a b e lo hi
    have hS1 := key_law05_is a b e lo hi (K := fun a => plainA a = true ∧ K a) ⟨by simp [plainA, plainL], hS⟩
    refine ⟨by simp [plainA, plainL], ?_⟩
    rw [nf_law05_is a b e lo hi fun a => plainA a = true ∧ K a]
    exact hS1
  · exact hS.elim

def FM_law05_cos : FM := ⟨22, [(RV.tmp 8)], (MC.seq (MC.ops [⟨(some 8), none, (MI.mv (MO.c (AV.b false)))⟩]) (MC.seq (MC.ops [⟨(some 12), none, (MI.mv (MO.t 0))⟩, ⟨(some 13), none, (MI.mv (MO.t 1))⟩, ⟨(some 14), none, (MI.callN 14 [(MO.t 12), (MO.t 13)])⟩, ⟨(some 11), none, (MI.mv (MO.t 14))⟩, ⟨(some 15), none, (MI.ext (MO.t 11) 0)⟩, ⟨(some 16), none, (MI.ext (MO.t 11) 1)⟩, ⟨(some 9), none, (MI.alloc 23 [(AV.i .i64 0), (AV.i .i64 0)])⟩, ⟨none, none, (MI.store 2 (MO.t 9) (MO.t 15))⟩, ⟨(some 10), none, (MI.mv (MO.t 16))⟩]) (MC.seq (MC.ops [⟨(some 17), none, (MI.loadn 2 (MO.t 9))⟩, ⟨(some 18), none, (MI.mv (MO.t 10))⟩, ⟨(some 19), none, (MI.mv (MO.t 2))⟩, ⟨(some 20), none, (MI.mv (MO.t 3))⟩, ⟨(some 21), none, (MI.callN 35 [(MO.t 17), (MO.t 18), (MO.t 19), (MO.t 20)])⟩, ⟨(some 8), none, (MI.mv (MO.t 21))⟩]) MC.ret)))⟩
theorem FMc_law05_cos : compF Go.Proofs.Try.prog (eqsP Go.Proofs.Try.prog) (neutOf [14, 35]) (neutOf [14, 35]) 33 = some FM_law05_cos := by kernel_rfl
def G_law05_cos : Gam := mkG [(14, S_sine_Cos), (35, S_law05_is)] []
theorem sg_law05_cos : SoundG Go.Proofs.Try.prog 33 (WF G_law05_cos 0 FM_law05_cos) := WF_sound (allD_ok (n := G_law05_cos.n) (l := [14, 35]) ⟨det_sine_Cos, det_law05_is, trivial⟩) mixP (mkG_ok (n := [(14, S_sine_Cos), (35, S_law05_is)]) (g := []) ⟨ok_sine_Cos, ok_law05_is, trivial⟩ trivial) eqsP_ok FMc_law05_cos
def S_law05_cos : NSpec := fun args _ K => match args with
  | [(.i .i64 k), (.i .i64 n), (.i .i64 lo), (.i .i64 hi)] => (I64 k ∧ I64 n) ∧ K (.b (isS (cosE k n) lo hi))
  | _ => False
theorem det_law05_cos : DetN S_law05_cos := by
  intro args H K h
  unfold S_law05_cos at h
  split at h
  · exact ⟨_, h.2, fun H' K' _ k => ⟨h.1, k⟩⟩
  · exact h.elim

def NF_law05_cos (k n lo hi : Int) (K : AV → Prop) : Prop :=
 ((I64 k ∧ I64 n) ∧
 K (.b (decide ((cosE k n).e = 0 ∧ (cosE k n).lo = lo ∧ (cosE k n).hi = hi))))
theorem nf_law05_cos (k n lo hi : Int) (K : AV → Prop) : WF G_law05_cos 0 FM_law05_cos [(.i .i64 k), (.i .i64 n), (.i .i64 lo), (.i .i64 hi)] [] (fun a _ => K a) = NF_law05_cos k n lo hi K := by kernel_rfl
theorem key_law05_cos (k n lo hi : Int) {K : AV → Prop} (hp : I64 k ∧ I64 n) (hk : K (.b (isS (cosE k n) lo hi))) : NF_law05_cos k n lo hi K := by
  unfold NF_law05_cos
  exact ⟨hp, hk⟩
theorem ok_law05_cos : SoundN Go.Proofs.Try.prog 33 S_law05_cos := by
  refine soundN_of sg_law05_cos fun args H K hS => ?_
  unfold S_law05_cos at hS
  split at hS
  · rename_i k n lo hi
    have hS1 := key_law05_cos k n lo hi (K := fun a => plainA a = true ∧ K a) hS.1 ⟨by simp [plainA, plainL], hS.2⟩
    refine ⟨by simp [plainA, plainL], ?_⟩
    rw [nf_law05_cos k n lo hi fun a => plainA a = true ∧ K a]
    exact hS1
  · exact hS.elim

def FM_law05_sin : FM := ⟨22, [(RV.tmp 8)], (MC.seq (MC.ops [⟨(some 8), none, (MI.mv (MO.c (AV.b false)))⟩]) (MC.seq (MC.ops [⟨(some 12), none, (MI.mv (MO.t 0))⟩, ⟨(some 13), none, (MI.mv (MO.t 1))⟩, ⟨(some 14), none, (MI.callN 16 [(MO.t 12), (MO.t 13)])⟩, ⟨(some 11), none, (MI.mv (MO.t 14))⟩, ⟨(some 15), none, (MI.ext (MO.t 11) 0)⟩, ⟨(some 16), none, (MI.ext (MO.t 11) 1)⟩, ⟨(some 9), none, (MI.alloc 23 [(AV.i .i64 0), (AV.i .i64 0)])⟩, ⟨none, none, (MI.store 2 (MO.t 9) (MO.t 15))⟩, ⟨(some 10), none, (MI.mv (MO.t 16))⟩]) (MC.seq (MC.ops [⟨(some 17), none, (MI.loadn 2 (MO.t 9))⟩, ⟨(some 18), none, (MI.mv (MO.t 10))⟩, ⟨(some 19), none, (MI.mv (MO.t 2))⟩, ⟨(some 20), none, (MI.mv (MO.t 3))⟩, ⟨(some 21), none, (MI.callN 35 [(MO.t 17), (MO.t 18), (MO.t 19), (MO.t 20)])⟩, ⟨(some 8), none, (MI.mv (MO.t 21))⟩]) MC.ret)))⟩
theorem FMc_law05_sin : compF Go.Proofs.Try.prog (eqsP Go.Proofs.Try.prog) (neutOf [16, 35]) (neutOf [16, 35]) 34 = some FM_law05_sin := by kernel_rfl
def G_law05_sin : Gam := mkG [(16, S_sine_Sin), (35, S_law05_is)] []
theorem sg_law05_sin : SoundG Go.Proofs.Try.prog 34 (WF G_law05_sin 0 FM_law05_sin) := WF_sound (allD_ok (n := G_law05_sin.n) (l := [16, 35]) ⟨det_sine_Sin, det_law05_is, trivial⟩) mixP (mkG_ok (n := [(16, S_sine_Sin), (35, S_law05_is)]) (g := []) ⟨ok_sine_Sin, ok_law05_is, trivial⟩ trivial) eqsP_ok FMc_law05_sin
def S_law05_sin : NSpec := fun args _ K => match args with
  | [(.i .i64 k), (.i .i64 n), (.i .i64 lo), (.i .i64 hi)] => (I64 k ∧ I64 n) ∧ K (.b (isS (sinE k n) lo hi))
  | _ => False
theorem det_law05_sin : DetN S_law05_sin := by
  intro args H K h
  unfold S_law05_sin at h
  split at h
  · exact ⟨_, h.2, fun H' K' _ k => ⟨h.1, k⟩⟩
  · exact h.elim

def NF_law05_sin (k n lo hi : Int) (K : AV → Prop) : Prop :=
 ((I64 k ∧ I64 n) ∧
 K (.b (decide ((sinE k n).e = 0 ∧ (sinE k n).lo = lo ∧ (sinE k n).hi = hi))))
theorem nf_law05_sin (k n lo hi : Int) (K : AV → Prop) : WF G_law05_sin 0 FM_law05_sin [(.i .i64 k), (.i .i64 n), (.i .i64 lo), (.i .i64 hi)] [] (fun a _ => K a) = NF_law05_sin k n lo hi K := by kernel_rfl
theorem key_law05_sin (k n lo hi : Int) {K : AV → Prop} (hp : I64 k ∧ I64 n) (hk : K (.b (isS (sinE k n) lo hi))) : NF_law05_sin k n lo hi K := by
  unfold NF_law05_sin
  exact ⟨hp, hk⟩
theorem ok_law05_sin : SoundN Go.Proofs.Try.prog 34 S_law05_sin := by
  refine soundN_of sg_law05_sin fun args H K hS => ?_
  unfold S_law05_sin at hS
  split at hS
  · rename_i k n lo hi
    have hS1 := key_law05_sin k n lo hi (K := fun a => plainA a = true ∧ K a) hS.1 ⟨by simp [plainA, plainL], hS.2⟩
    refine ⟨by simp [plainA, plainL], ?_⟩
    rw [nf_law05_sin k n lo hi fun a => plainA a = true ∧ K a]
    exact hS1
  · exact hS.elim

def FM_law05_alive : FM := ⟨74, [(RV.tmp 0)], (MC.seq (MC.ops [⟨(some 0), none, (MI.mv (MO.c (AV.b false)))⟩]) (MC.seq (MC.ops [⟨(some 12), none, (MI.build [(AV.i .i64 0), (AV.i .i64 0)] [(0, 1, (MO.c (AV.i .i64 1))), (1, 1, (MO.c (AV.i .i64 3)))])⟩, ⟨(some 13), none, (MI.callN 27 [(MO.t 12)])⟩, ⟨(some 11), none, (MI.mv (MO.t 13))⟩, ⟨(some 14), none, (MI.ext (MO.t 11) 0)⟩, ⟨(some 15), none, (MI.ext (MO.t 11) 1)⟩, ⟨(some 1), none, (MI.alloc 23 [(AV.i .i64 0), (AV.i .i64 0)])⟩, ⟨none, none, (MI.store 2 (MO.t 1) (MO.t 14))⟩, ⟨(some 2), none, (MI.mv (MO.t 15))⟩]) (MC.seq (MC.ops [⟨(some 17), none, (MI.build [(AV.i .i64 0), (AV.i .i64 0)] [(0, 1, (MO.c (AV.i .i64 (-1)))), (1, 1, (MO.c (AV.i .i64 3)))])⟩, ⟨(some 18), none, (MI.callN 27 [(MO.t 17)])⟩, ⟨(some 16), none, (MI.mv (MO.t 18))⟩, ⟨(some 19), none, (MI.ext (MO.t 16) 0)⟩, ⟨(some 20), none, (MI.ext (MO.t 16) 1)⟩, ⟨(some 3), none, (MI.alloc 23 [(AV.i .i64 0), (AV.i .i64 0)])⟩, ⟨none, none, (MI.store 2 (MO.t 3) (MO.t 19))⟩, ⟨(some 4), none, (MI.mv (MO.t 20))⟩]) (MC.seq (MC.ops [⟨(some 22), none, (MI.loadn 2 (MO.t 1))⟩, ⟨(some 23), none, (MI.loadn 2 (MO.t 3))⟩, ⟨(some 24), none, (MI.callN 19 [(MO.t 22), (MO.t 23)])⟩, ⟨(some 21), none, (MI.mv (MO.t 24))⟩, ⟨(some 25), none, (MI.ext (MO.t 21) 0)⟩, ⟨(some 26), none, (MI.ext (MO.t 21) 1)⟩, ⟨(some 5), none, (MI.alloc 23 [(AV.i .i64 0), (AV.i .i64 0)])⟩, ⟨none, none, (MI.store 2 (MO.t 5) (MO.t 25))⟩, ⟨(some 6), none, (MI.mv (MO.t 26))⟩]) (MC.seq (MC.ops [⟨(some 28), none, (MI.loadn 2 (MO.t 3))⟩, ⟨(some 29), none, (MI.callN 31 [(MO.t 28)])⟩, ⟨(some 27), none, (MI.mv (MO.t 29))⟩, ⟨(some 30), none, (MI.ext (MO.t 27) 0)⟩, ⟨(some 31), none, (MI.ext (MO.t 27) 1)⟩, ⟨(some 7), none, (MI.mv (MO.t 30))⟩, ⟨(some 8), none, (MI.mv (MO.t 31))⟩]) (MC.seq (MC.ops [⟨(some 33), none, (MI.build [(AV.i .i64 0), (AV.i .i64 0)] [(0, 1, (MO.c (AV.i .i64 (-1)))), (1, 1, (MO.c (AV.i .i64 2)))])⟩, ⟨(some 34), none, (MI.callN 31 [(MO.t 33)])⟩, ⟨(some 32), none, (MI.mv (MO.t 34))⟩, ⟨(some 35), none, (MI.ext (MO.t 32) 0)⟩, ⟨(some 36), none, (MI.ext (MO.t 32) 1)⟩, ⟨(some 9), none, (MI.mv (MO.t 35))⟩, ⟨(some 10), none, (MI.mv (MO.t 36))⟩]) (MC.seq (MC.ops [⟨(some 37), none, (MI.callN 33 [(MO.c (AV.i .i64 1)), (MO.c (AV.i .i64 8)), (MO.c (AV.i .i64 707106)), (MO.c (AV.i .i64 707107))])⟩, ⟨(some 38), none, (MI.mv (MO.t 37))⟩, ⟨(some 39), (some (38, true)), (MI.callN 33 [(MO.c (AV.i .i64 1)), (MO.c (AV.i .i64 6)), (MO.c (AV.i .i64 500000)), (MO.c (AV.i .i64 500000))])⟩, ⟨(some 40), none, (MI.pick (MO.t 38) (MO.t 39) (MO.c (AV.b false)))⟩, ⟨(some 41), none, (MI.mv (MO.t 40))⟩, ⟨(some 42), (some (41, true)), (MI.callN 34 [(MO.c (AV.i .i64 1)), (MO.c (AV.i .i64 6)), (MO.c (AV.i .i64 866025)), (MO.c (AV.i .i64 866026))])⟩, ⟨(some 43), none, (MI.pick (MO.t 41) (MO.t 42) (MO.c (AV.b false)))⟩, ⟨(some 44), none, (MI.mv (MO.t 43))⟩, ⟨(some 45), (some (44, true)), (MI.callN 34 [(MO.c (AV.i .i64 3)), (MO.c (AV.i .i64 4)), (MO.c (AV.i .i64 (-1000000))), (MO.c (AV.i .i64 (-1000000)))])⟩, ⟨(some 46), none, (MI.pick (MO.t 44) (MO.t 45) (MO.c (AV.b false)))⟩, ⟨(some 47), none, (MI.mv (MO.t 46))⟩, ⟨(some 48), (some (47, true)), (MI.loadn 2 (MO.t 1))⟩, ⟨(some 49), (some (47, true)), (MI.mv (MO.t 2))⟩, ⟨(some 50), (some (47, true)), (MI.callN 35 [(MO.t 48), (MO.t 49), (MO.c (AV.i .i64 333333)), (MO.c (AV.i .i64 333334))])⟩, ⟨(some 51), none, (MI.pick (MO.t 47) (MO.t 50) (MO.c (AV.b false)))⟩, ⟨(some 52), none, (MI.mv (MO.t 51))⟩, ⟨(some 53), (some (52, true)), (MI.loadn 2 (MO.t 3))⟩, ⟨(some 54), (some (52, true)), (MI.mv (MO.t 4))⟩, ⟨(some 55), (some (52, true)), (MI.callN 35 [(MO.t 53), (MO.t 54), (MO.c (AV.i .i64 (-333334))), (MO.c (AV.i .i64 (-333333)))])⟩, ⟨(some 56), none, (MI.pick (MO.t 52) (MO.t 55) (MO.c (AV.b false)))⟩, ⟨(some 57), none, (MI.mv (MO.t 56))⟩, ⟨(some 58), (some (57, true)), (MI.loadn 2 (MO.t 5))⟩, ⟨(some 59), (some (57, true)), (MI.mv (MO.t 6))⟩, ⟨(some 60), (some (57, true)), (MI.callN 35 [(MO.t 58), (MO.t 59), (MO.c (AV.i .i64 (-111112))), (MO.c (AV.i .i64 (-111110)))])⟩, ⟨(some 61), none, (MI.pick (MO.t 57) (MO.t 60) (MO.c (AV.b false)))⟩, ⟨(some 62), none, (MI.mv (MO.t 61))⟩, ⟨(some 63), (some (62, true)), (MI.mv (MO.t 8))⟩, ⟨(some 64), (some (62, true)), (MI.bin .eql (MO.t 63) (MO.c (AV.i .i64 0)))⟩, ⟨(some 65), none, (MI.pick (MO.t 62) (MO.t 64) (MO.c (AV.b false)))⟩, ⟨(some 66), none, (MI.mv (MO.t 65))⟩, ⟨(some 67), (some (66, true)), (MI.mv (MO.t 7))⟩, ⟨(some 68), (some (66, true)), (MI.bin .eql (MO.t 67) (MO.c (AV.i .i64 (-1))))⟩, ⟨(some 69), none, (MI.pick (MO.t 66) (MO.t 68) (MO.c (AV.b false)))⟩, ⟨(some 70), none, (MI.mv (MO.t 69))⟩, ⟨(some 71), (some (70, true)), (MI.mv (MO.t 10))⟩, ⟨(some 72), (some (70, true)), (MI.bin .eql (MO.t 71) (MO.c (AV.i .i64 24)))⟩, ⟨(some 73), none, (MI.pick (MO.t 70) (MO.t 72) (MO.c (AV.b false)))⟩, ⟨(some 0), none, (MI.mv (MO.t 73))⟩]) MC.ret)))))))⟩
theorem FMc_law05_alive : compF Go.Proofs.Try.prog (eqsP Go.Proofs.Try.prog) (neutOf [19, 27, 31, 33, 34, 35]) (neutOf [19, 27, 31, 33, 34, 35]) 18 = some FM_law05_alive := by kernel_rfl
def G_law05_alive : Gam := mkG [(19, S_sine_Mul), (27, S_sine_Of), (31, S_sine_Sign), (33, S_law05_cos), (34, S_law05_sin), (35, S_law05_is)] []
theorem sg_law05_alive : SoundG Go.Proofs.Try.prog 18 (WF G_law05_alive 0 FM_law05_alive) := WF_sound (allD_ok (n := G_law05_alive.n) (l := [19, 27, 31, 33, 34, 35]) ⟨det_sine_Mul, det_sine_Of, det_sine_Sign, det_law05_cos, det_law05_sin, det_law05_is, trivial⟩) mixP (mkG_ok (n := [(19, S_sine_Mul), (27, S_sine_Of), (31, S_sine_Sign), (33, S_law05_cos), (34, S_law05_sin), (35, S_law05_is)]) (g := []) ⟨ok_sine_Mul, ok_sine_Of, ok_sine_Sign, ok_law05_cos, ok_law05_sin, ok_law05_is, trivial⟩ trivial) eqsP_ok FMc_law05_alive
def S_law05_alive : NSpec := fun args _ K => match args with
  | [] => K (.b true)
  | _ => False
theorem det_law05_alive : DetN S_law05_alive := by
  intro args H K h
  unfold S_law05_alive at h
  split at h
  · exact ⟨_, h, fun H' K' _ k => k⟩
  · exact h.elim

def NF_law05_alive  (K : AV → Prop) : Prop :=
 ((I64 (1 : Int) ∧ I64 (3 : Int)) ∧
 ((I64 (-1 : Int) ∧ I64 (3 : Int)) ∧
 (((I64 (sOf (1 : Int) (3 : Int)).lo ∧ I64 (sOf (1 : Int) (3 : Int)).hi) ∧ I64 (sOf (-1 : Int) (3 : Int)).lo ∧ I64 (sOf (-1 : Int) (3 : Int)).hi) ∧
 ((I64 (sOf (-1 : Int) (3 : Int)).lo ∧ I64 (sOf (-1 : Int) (3 : Int)).hi) ∧
 ((I64 (-1 : Int) ∧ I64 (2 : Int)) ∧
 ((I64 (1 : Int) ∧ I64 (8 : Int)) ∧
 (bif (isS (cosE (1 : Int) (8 : Int)) (707106 : Int) (707107 : Int)) then ((I64 (1 : Int) ∧ I64 (6 : Int)) ∧
 (bif (isS (cosE (1 : Int) (6 : Int)) (500000 : Int) (500000 : Int)) then ((I64 (1 : Int) ∧ I64 (6 : Int)) ∧
 (bif (isS (sinE (1 : Int) (6 : Int)) (866025 : Int) (866026 : Int)) then ((I64 (3 : Int) ∧ I64 (4 : Int)) ∧
 (bif (isS (sinE (3 : Int) (4 : Int)) (-1000000 : Int) (-1000000 : Int)) then (bif (decide ((sOf (1 : Int) (3 : Int)).e = 0 ∧ (sOf (1 : Int) (3 : Int)).lo = (333333 : Int) ∧ (sOf (1 : Int) (3 : Int)).hi = (333334 : Int))) then (bif (decide ((sOf (-1 : Int) (3 : Int)).e = 0 ∧ (sOf (-1 : Int) (3 : Int)).lo = (-333334 : Int) ∧ (sOf (-1 : Int) (3 : Int)).hi = (-333333 : Int))) then (bif (decide ((sMul (sOf (1 : Int) (3 : Int)).lo (sOf (1 : Int) (3 : Int)).hi (sOf (-1 : Int) (3 : Int)).lo (sOf (-1 : Int) (3 : Int)).hi).e = 0 ∧ (sMul (sOf (1 : Int) (3 : Int)).lo (sOf (1 : Int) (3 : Int)).hi (sOf (-1 : Int) (3 : Int)).lo (sOf (-1 : Int) (3 : Int)).hi).lo = (-111112 : Int) ∧ (sMul (sOf (1 : Int) (3 : Int)).lo (sOf (1 : Int) (3 : Int)).hi (sOf (-1 : Int) (3 : Int)).lo (sOf (-1 : Int) (3 : Int)).hi).hi = (-111110 : Int))) then (bif ((ssign (sOf (-1 : Int) (3 : Int)).lo (sOf (-1 : Int) (3 : Int)).hi).e == 0) then (bif ((ssign (sOf (-1 : Int) (3 : Int)).lo (sOf (-1 : Int) (3 : Int)).hi).v == (-1)) then K (.b ((ssign (-1 : Int) (2 : Int)).e == 24))
 else K (.b false))
 else K (.b false))
 else K (.b false))
 else K (.b false))
 else K (.b false))
 else K (.b false)))
 else K (.b false)))
 else K (.b false)))
 else K (.b false))))))))
theorem nf_law05_alive  (K : AV → Prop) : WF G_law05_alive 0 FM_law05_alive [] [] (fun a _ => K a) = NF_law05_alive  K := by kernel_rfl
theorem key_law05_alive  {K : AV → Prop} (hk : K (.b true)) : NF_law05_alive  K := by
  unfold NF_law05_alive
  have e1 : sOf 1 3 = ⟨333333, 333334, 0⟩ := by kernel_rfl
  have e2 : sOf (-1) 3 = ⟨-333334, -333333, 0⟩ := by kernel_rfl
  have e3 : sMul 333333 333334 (-333334) (-333333) = ⟨-111112, -111110, 0⟩ := by kernel_rfl
  have e4 : ssign (-333334) (-333333) = ⟨-1, 0⟩ := by kernel_rfl
  have e5 : ssign (-1) 2 = ⟨0, 24⟩ := by kernel_rfl
  have a1 : isS (cosE 1 8) 707106 707107 = true := by kernel_rfl
  have a2 : isS (cosE 1 6) 500000 500000 = true := by kernel_rfl
  have a3 : isS (sinE 1 6) 866025 866026 = true := by kernel_rfl
  have a4 : isS (sinE 3 4) (-1000000) (-1000000) = true := by kernel_rfl
  simp only [e1, e2, e3, e4, e5, a1, a2, a3, a4, I64]
  simpa using hk
theorem ok_law05_alive : SoundN Go.Proofs.Try.prog 18 S_law05_alive := by
  refine soundN_of sg_law05_alive fun args H K hS => ?_
  unfold S_law05_alive at hS
  split at hS
  · skip
    have hS1 := key_law05_alive  (K := fun a => plainA a = true ∧ K a) ⟨by simp [plainA, plainL], hS⟩
    refine ⟨by simp [plainA, plainL], ?_⟩
    rw [nf_law05_alive  fun a => plainA a = true ∧ K a]
    exact hS1
  · exact hS.elim

def FM_law05_common : FM := ⟨17, [(RV.tmp 4)], (MC.seq (MC.ops [⟨(some 2), none, (MI.box 23 (MO.t 0))⟩, ⟨(some 3), none, (MI.box 23 (MO.t 1))⟩, ⟨(some 4), none, (MI.mv (MO.c (AV.b false)))⟩]) (MC.seq (MC.ops [⟨(some 5), none, (MI.faddr 0 (MO.t 2))⟩, ⟨(some 6), none, (MI.load (MO.t 5))⟩, ⟨(some 7), none, (MI.faddr 1 (MO.t 3))⟩, ⟨(some 8), none, (MI.load (MO.t 7))⟩, ⟨(some 9), none, (MI.bin .leq (MO.t 6) (MO.t 8))⟩, ⟨(some 10), none, (MI.mv (MO.t 9))⟩, ⟨(some 11), (some (10, true)), (MI.faddr 0 (MO.t 3))⟩, ⟨(some 12), (some (10, true)), (MI.load (MO.t 11))⟩, ⟨(some 13), (some (10, true)), (MI.faddr 1 (MO.t 2))⟩, ⟨(some 14), (some (10, true)), (MI.load (MO.t 13))⟩, ⟨(some 15), (some (10, true)), (MI.bin .leq (MO.t 12) (MO.t 14))⟩, ⟨(some 16), none, (MI.pick (MO.t 10) (MO.t 15) (MO.c (AV.b false)))⟩, ⟨(some 4), none, (MI.mv (MO.t 16))⟩]) MC.ret))⟩
theorem FMc_law05_common : compF Go.Proofs.Try.prog (eqsP Go.Proofs.Try.prog) (neutOf []) (neutOf []) 23 = some FM_law05_common := by kernel_rfl
def G_law05_common : Gam := mkG [] []
theorem sg_law05_common : SoundG Go.Proofs.Try.prog 23 (WF G_law05_common 0 FM_law05_common) := WF_sound (allD_ok (n := G_law05_common.n) (l := []) trivial) mixP (mkG_ok (n := []) (g := []) trivial trivial) eqsP_ok FMc_law05_common
def S_law05_common : NSpec := fun args _ K => match args with
  | [(.agg [(.i .i64 a), (.i .i64 b)]), (.agg [(.i .i64 c), (.i .i64 d)])] => K (.b (decide (a ≤ d ∧ c ≤ b)))
  | _ => False
theorem det_law05_common : DetN S_law05_common := by
  intro args H K h
  unfold S_law05_common at h
  split at h
  · exact ⟨_, h, fun H' K' _ k => k⟩
  · exact h.elim

def NF_law05_common (a b c d : Int) (K : AV → Prop) : Prop :=
 (bif decide (a ≤ d) then K (.b (decide (c ≤ b)))
 else K (.b false))
theorem nf_law05_common (a b c d : Int) (K : AV → Prop) : WF G_law05_common 0 FM_law05_common [(.agg [(.i .i64 a), (.i .i64 b)]), (.agg [(.i .i64 c), (.i .i64 d)])] [] (fun a _ => K a) = NF_law05_common a b c d K := by kernel_rfl
theorem key_law05_common (a b c d : Int) {K : AV → Prop} (hk : K (.b (decide (a ≤ d ∧ c ≤ b)))) : NF_law05_common a b c d K := by
  unfold NF_law05_common
  refine bif_i (fun h => K_of hk ?_) (fun h => K_of hk ?_) <;> simp only [decide_eq_true_eq, decide_eq_false_iff_not] at h <;> congr 1
  · simp [h]
  · simp [h]
theorem ok_law05_common : SoundN Go.Proofs.Try.prog 23 S_law05_common := by
  refine soundN_of sg_law05_common fun args H K hS => ?_
  unfold S_law05_common at hS
  split at hS
  · rename_i a b c d
    have hS1 := key_law05_common a b c d (K := fun a => plainA a = true ∧ K a) ⟨by simp [plainA, plainL], hS⟩
    refine ⟨by simp [plainA, plainL], ?_⟩
    rw [nf_law05_common a b c d fun a => plainA a = true ∧ K a]
    exact hS1
  · exact hS.elim

end Go.Proofs.Ytkmhmabkahaekaa.V
