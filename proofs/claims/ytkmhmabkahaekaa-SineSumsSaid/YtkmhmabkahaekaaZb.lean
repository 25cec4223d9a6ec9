/-
  For each number of parts a rational point of the circle whose powers are near the cosines and sines that are computed.
-/
import Derived.Test.YtkmhmabkahaekaaZa
import Derived.Test.YtkmhmabkahaekaaFin8
import Derived.Test.YtkmhmabkahaekaaFin9
set_option linter.unusedVariables false
namespace Go.Proofs.Ytkmhmabkahaekaa.V
namespace Zz
theorem le_of_mulD {a b D : Rat} (hD : 0 < D) (h : a * D ≤ b * D) : a ≤ b := by
  apply Classical.byContradiction
  intro hn
  have : 0 < (a - b) * D := Rat.mul_pos (by grind) hD
  grind
theorem nat_le {a b : Nat} (h : a ≤ b) : (a : Rat) ≤ (b : Rat) := by exact_mod_cast h
structure Pt (A B D : Nat) (c s : Rat) : Prop where
  d : 0 < (D : Rat)
  a : c * (D : Rat) = (A : Rat)
  b : s * (D : Rat) = (B : Rat)
  u : c * c + s * s = 1
theorem ex_pt {p : Nat} (hp : p ≤ 1000000000000000) : ∃ c s, Pt (Fin.aOf p) (Fin.bOf p) (Fin.dOf p) c s := by
  have hd : 0 < Fin.dOf p := by show 0 < 1000000000000000000000000000000 + p * p; omega
  have hD : (0 : Rat) < ((Fin.dOf p : Nat) : Rat) := by exact_mod_cast hd
  have hpp : p * p ≤ 1000000000000000 * 1000000000000000 := Nat.mul_le_mul hp hp
  have eA : ((Fin.aOf p : Nat) : Rat) = 1000000000000000000000000000000 - (p : Rat) * (p : Rat) := by
    have : Fin.aOf p + p * p = 1000000000000000000000000000000 := by show 1000000000000000000000000000000 - p * p + p * p = _; omega
    have h2 : ((Fin.aOf p + p * p : Nat) : Rat) = ((1000000000000000000000000000000 : Nat) : Rat) := by rw [this]
    push_cast at h2
    grind
  have eB : ((Fin.bOf p : Nat) : Rat) = 2000000000000000 * (p : Rat) := by
    have : Fin.bOf p = 2000000000000000 * p := rfl
    rw [this]; push_cast; rfl
  have eD : ((Fin.dOf p : Nat) : Rat) = 1000000000000000000000000000000 + (p : Rat) * (p : Rat) := by
    have : Fin.dOf p = 1000000000000000000000000000000 + p * p := rfl
    rw [this]; push_cast; rfl
  have hne : ((Fin.dOf p : Nat) : Rat) ≠ 0 := by grind
  refine ⟨((Fin.aOf p : Nat) : Rat) / ((Fin.dOf p : Nat) : Rat), ((Fin.bOf p : Nat) : Rat) / ((Fin.dOf p : Nat) : Rat), hD, by grind, by grind, ?_⟩
  generalize ((Fin.aOf p : Nat) : Rat) = A at *
  generalize ((Fin.bOf p : Nat) : Rat) = B at *
  generalize ((Fin.dOf p : Nat) : Rat) = D at *
  have hs : A * A + B * B = D * D := by grind
  grind
theorem step_facts {A B D wc ws : Nat} {c s : Rat} (P : Pt A B D c s) (h : ws * B ≤ wc * A) :
    (((Fin.stC A B D wc ws : Nat) : Rat) ≤ wc * c - ws * s ∧ wc * c - ws * s ≤ ((Fin.stC A B D wc ws : Nat) : Rat) + 1) ∧ ((Fin.stS A B D wc ws : Nat) : Rat) ≤ ws * c + wc * s ∧ ws * c + wc * s ≤ ((Fin.stS A B D wc ws : Nat) : Rat) + 1 := by
  obtain ⟨hD, ha, hb, _⟩ := P
  have hd : 0 < D := by exact_mod_cast hD
  have key : ∀ (X : Nat) (y : Rat), y * (D : Rat) = (X : Rat) → ((X / D : Nat) : Rat) ≤ y ∧ y ≤ ((X / D : Nat) : Rat) + 1 := by
    intro X y hy
    have h1 : X / D * D ≤ X := Nat.div_mul_le_self X D
    have h2 : X ≤ (X / D + 1) * D := by
      have := Nat.div_add_mod X D
      have := Nat.mod_lt X hd
      rw [Nat.add_mul, Nat.mul_comm]; omega
    have r1 := nat_le h1
    have r2 := nat_le h2
    push_cast at r1 r2
    exact ⟨le_of_mulD hD (by rw [hy]; exact r1), le_of_mulD hD (by rw [hy]; exact r2)⟩
  constructor
  · refine key (wc * A - ws * B) _ ?_
    have e : wc * A - ws * B + ws * B = wc * A := by omega
    have e2 : ((wc * A - ws * B + ws * B : Nat) : Rat) = ((wc * A : Nat) : Rat) := by rw [e]
    push_cast at e2
    grind
  · refine key (ws * A + wc * B) _ ?_
    push_cast
    grind
theorem runW_spec {n A B D : Nat} {c s : Rat} (P : Pt A B D c s) : ∀ (k j wc ws : Nat), Fin.runW n A B D k j wc ws = true → Err c s 1000000000000000 j (wc : Rat) (ws : Rat) →
    (∀ i, j ≤ i → i ≤ j + k → ∃ vc vs : Nat, Err c s 1000000000000000 i (vc : Rat) (vs : Rat) ∧ Fin.chkJ n i vc vs = true) ∧ ∃ vc vs : Nat, Err c s 1000000000000000 (j + k) (vc : Rat) (vs : Rat) ∧ Fin.endB A B D vc vs = true
  | 0, j, wc, ws, h, e => by
    have h' : (Fin.chkJ n j wc ws && Fin.endB A B D wc ws) = true := h
    rw [Bool.and_eq_true] at h'
    refine ⟨fun i h1 h2 => ?_, wc, ws, e, h'.2⟩
    have : i = j := by omega
    subst this
    exact ⟨wc, ws, e, h'.1⟩
  | k + 1, j, wc, ws, h, e => by
    have h' : (Fin.chkJ n j wc ws && Nat.ble (Nat.mul ws B) (Nat.mul wc A) && Fin.runW n A B D k (Nat.succ j) (Fin.stC A B D wc ws) (Fin.stS A B D wc ws)) = true := h
    rw [Bool.and_eq_true, Bool.and_eq_true] at h'
    obtain ⟨⟨g1, g2⟩, g3⟩ := h'
    have hle : ws * B ≤ wc * A := Nat.le_of_ble_eq_true g2
    obtain ⟨⟨f1, f2⟩, f3, f4⟩ := step_facts P hle
    obtain ⟨q1, q2⟩ := runW_spec P k (j + 1) _ _ g3 (e.succ P.u f1 f2 f3 f4)
    refine ⟨fun i h1 h2 => ?_, ?_⟩
    · by_cases hi : i = j
      · subst hi; exact ⟨wc, ws, e, g1⟩
      · exact q1 i (by omega) (by omega)
    · rw [show j + (k + 1) = j + 1 + k by omega]; exact q2
/-- A number of millionths that lies between two, but for a little. -/
def Near (lo hi : Rat) (x t : Rat) : Prop := lo - t ≤ 1000000 * x ∧ 1000000 * x ≤ hi + t
theorem near_of {lo hi w j : Nat} {x : Rat} (hj : j ≤ 720) (h : Fin.nearB lo hi w = true) (e : -(2 * (j : Rat)) ≤ 1000000000000000 * x - (w : Rat) ∧ 1000000000000000 * x - (w : Rat) ≤ 2 * (j : Rat)) : Near (lo : Rat) (hi : Rat) x (1/500) := by
  unfold Fin.nearB at h
  rw [Bool.and_eq_true] at h
  have h1 : lo * 1000000000 ≤ w + 1000000 := Nat.le_of_ble_eq_true h.1
  have h2 : w ≤ hi * 1000000000 + 1000000 := Nat.le_of_ble_eq_true h.2
  have r1 := nat_le h1
  have r2 := nat_le h2
  have r3 := nat_le hj
  push_cast at r1 r2 r3
  unfold Near
  grind
/-- What the finite check gives. -/
structure Turns (n : Nat) (c s : Rat) : Prop where
  u : c * c + s * s = 1
  co : ∀ j : Nat, 0 < j → 2 * j ≤ n → Near ((Fin.cosMP (Fin.angP j (4 * n)) : Nat) : Rat) (((Fin.cosMP (Fin.angP j (4 * n)) : Nat) : Rat) + 1) (pw c s j).1 (1/500)
  si : ∀ j : Nat, 0 < j → 2 * j ≤ n → 3 * j ≠ n → Near ((Fin.sinMP (Fin.angP j (4 * n)) : Nat) : Rat) (((Fin.sinMP (Fin.angP j (4 * n)) : Nat) : Rat) + 1) (pw c s j).2 (1/500)
  si3 : ∀ j : Nat, 0 < j → 3 * j = n → Near 500000 500000 (pw c s j).2 (1/500)
  q1 : -(1/300000000) ≤ (pw c s n).1 ∧ (pw c s n).1 ≤ 1/300000000
  q2 : -(1/300000000) ≤ (pw c s n).2 - 1 ∧ (pw c s n).2 - 1 ≤ 1/300000000
theorem rec_all {f : Nat → Bool} : ∀ (k : Nat), (Nat.rec true (fun j r => f j && r) k : Bool) = true → ∀ j, j < k → f j = true
  | 0, _, j, h => absurd h (by omega)
  | k + 1, h, j, hj => by
    have h' : (f k && (Nat.rec true (fun j r => f j && r) k : Bool)) = true := h
    rw [Bool.and_eq_true] at h'
    by_cases e : j = k
    · subst e; exact h'.1
    · exact rec_all k h'.2 j (by omega)
theorem chkW_all {n : Nat} (h1 : 1 ≤ n) (h2 : n ≤ 720) : Fin.chkW n = true := by
  have key : ∀ {a k : Nat}, Fin.chkV a k = true → a ≤ n → n < a + k → Fin.chkW n = true := by
    intro a k h ha hk
    have := rec_all (f := fun i => Fin.chkW (Nat.add a i)) k h (n - a) (by omega)
    have e : Nat.add a (n - a) = n := by show a + (n - a) = n; omega
    rwa [e] at this
  by_cases a1 : n < 530
  · exact key Fin.part8 h1 a1
  · exact key Fin.part9 (by omega) (by omega)
theorem endV {x1 x2 c s A B D : Rat} (hD : 0 < D) (ha : c * D = A) (hb : s * D = B) (u1 : x1 * A ≤ x2 * B + 2000000 * D) (u2 : x2 * B ≤ x1 * A + 2000000 * D) (u3 : x2 * A + x1 * B ≤ 1000000002000000 * D) (u4 : 999999998000000 * D ≤ x2 * A + x1 * B) :
    x1 * c - x2 * s ≤ 2000000 ∧ -2000000 ≤ x1 * c - x2 * s ∧ x2 * c + x1 * s ≤ 1000000002000000 ∧ 999999998000000 ≤ x2 * c + x1 * s := by
  subst ha hb
  exact ⟨le_of_mulD hD (by grind), le_of_mulD hD (by grind), le_of_mulD hD (by grind), le_of_mulD hD (by grind)⟩
theorem turns {n : Nat} (h1 : 1 ≤ n) (h2 : n ≤ 720) : ∃ c s, Turns n c s := by
  have h := chkW_all h1 h2
  unfold Fin.chkW at h
  rw [Bool.and_eq_true] at h
  have hp : Fin.pOf n ≤ 1000000000000000 := Nat.le_of_ble_eq_true h.1
  obtain ⟨c, s, P⟩ := ex_pt hp
  have e0 := Err.zero c s 1000000000000000
  obtain ⟨q, vc, vs, ee, he⟩ := runW_spec (n := n) P (Nat.sub n 1) 0 1000000000000000 0 h.2 (by exact_mod_cast e0)
  have hn : 0 + Nat.sub n 1 = n - 1 := by show 0 + (n - 1) = _; omega
  rw [hn] at ee
  have get : ∀ j : Nat, 0 < j → 2 * j ≤ n → ∃ vc vs : Nat, Err c s 1000000000000000 j (vc : Rat) (vs : Rat) ∧ Fin.nearB (Fin.cosMP (Fin.angP j (4 * n))) (Nat.succ (Fin.cosMP (Fin.angP j (4 * n)))) vc = true ∧ cond (Nat.beq (3 * j) n) (Fin.nearB 500000 500000 vs) (Fin.nearB (Fin.sinMP (Fin.angP j (4 * n))) (Nat.succ (Fin.sinMP (Fin.angP j (4 * n)))) vs) = true := by
    intro j j0 hj
    obtain ⟨vc, vs, e, ck⟩ := q j (by omega) (by rw [hn]; omega)
    refine ⟨vc, vs, e, ?_⟩
    unfold Fin.chkJ at ck
    have b1 : Nat.beq j 0 = false := by cases e : Nat.beq j 0 with
      | false => rfl
      | true => have := Nat.eq_of_beq_eq_true e; omega
    have b2 : Nat.blt n (Nat.mul 2 j) = false := by cases e : Nat.blt n (Nat.mul 2 j) with
      | false => rfl
      | true => have : n < 2 * j := by simpa [Nat.blt_eq] using e
                omega
    rw [b1, b2, Bool.false_or, Bool.false_or, Bool.and_eq_true] at ck
    exact ck
  have b3 : ∀ j, 3 * j ≠ n → Nat.beq (3 * j) n = false := fun j hj => by cases e : Nat.beq (3 * j) n with
    | false => rfl
    | true => exact absurd (Nat.eq_of_beq_eq_true e) hj
  have fin : (-(1/300000000) ≤ (pw c s n).1 ∧ (pw c s n).1 ≤ 1/300000000) ∧ -(1/300000000) ≤ (pw c s n).2 - 1 ∧ (pw c s n).2 - 1 ≤ 1/300000000 := by
    have rot := ee.rot P.u
    have en : n - 1 + 1 = n := by omega
    rw [en] at rot
    unfold Fin.endB at he
    simp only [Bool.and_eq_true] at he
    obtain ⟨⟨⟨u1, u2⟩, u3⟩, u4⟩ := he
    have u1 := nat_le (Nat.le_of_ble_eq_true u1)
    have u2 := nat_le (Nat.le_of_ble_eq_true u2)
    have u3 := nat_le (Nat.le_of_ble_eq_true u3)
    have u4 := nat_le (Nat.le_of_ble_eq_true u4)
    simp only [Nat.mul_eq, Nat.add_eq] at u1 u2 u3 u4
    push_cast at u1 u2 u3 u4
    obtain ⟨hD, ha, hb, _⟩ := P
    clear get q e0 ee b3 h hp
    generalize ((Fin.aOf (Fin.pOf n) : Nat) : Rat) = A at *
    generalize ((Fin.bOf (Fin.pOf n) : Nat) : Rat) = B at *
    generalize ((Fin.dOf (Fin.pOf n) : Nat) : Rat) = D at *
    generalize (vc : Rat) = x1 at *
    generalize (vs : Rat) = x2 at *
    have jn : ((n - 1 : Nat) : Rat) ≤ 720 := by exact_mod_cast nat_le (show n - 1 ≤ 720 by omega)
    have j0 : (0 : Rat) ≤ ((n - 1 : Nat) : Rat) := by exact_mod_cast nat_le (Nat.zero_le (n - 1))
    generalize ((n - 1 : Nat) : Rat) = J at *
    generalize (pw c s n).1 = x at *
    generalize (pw c s n).2 = y at *
    obtain ⟨v1, v2, v3, v4⟩ := endV hD ha hb u1 u2 u3 u4
    have w1 := abs_of_sq (x := 1000000000000000 * x - (x1 * c - x2 * s)) (r := 2 * J) (by grind) (by have := sq_nonneg (1000000000000000 * y - (x2 * c + x1 * s)); grind)
    have w2 := abs_of_sq (x := 1000000000000000 * y - (x2 * c + x1 * s)) (r := 2 * J) (by grind) (by have := sq_nonneg (1000000000000000 * x - (x1 * c - x2 * s)); grind)
    refine ⟨⟨?_, ?_⟩, ?_, ?_⟩ <;> grind
  refine ⟨c, s, P.u, fun j j0 hj => ?_, fun j j0 hj h3 => ?_, fun j j0 h3 => ?_, fin.1, fin.2⟩
  · obtain ⟨vc, vs, e, g1, g2⟩ := get j j0 hj
    have := near_of (hi := Fin.cosMP (Fin.angP j (4 * n)) + 1) (by omega) g1 e.near.1
    push_cast at this
    exact this
  · obtain ⟨vc, vs, e, g1, g2⟩ := get j j0 hj
    rw [b3 j h3, cond_false] at g2
    have := near_of (hi := Fin.sinMP (Fin.angP j (4 * n)) + 1) (by omega) g2 e.near.2
    push_cast at this
    exact this
  · obtain ⟨vc, vs, e, g1, g2⟩ := get j j0 (by omega)
    have b4 : Nat.beq (3 * j) n = true := by rw [h3]; exact Nat.beq_refl n
    rw [b4, cond_true] at g2
    have := near_of (by omega) g2 e.near.2
    exact_mod_cast this
end Zz
end Go.Proofs.Ytkmhmabkahaekaa.V
