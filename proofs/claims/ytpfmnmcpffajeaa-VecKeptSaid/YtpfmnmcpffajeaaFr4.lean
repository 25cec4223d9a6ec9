/-
  Contracts, printed by a program of this session (wip/tool/sym.py) from the unit text fr4: what each function comes to, and its proof.
-/
import Derived.Test.YtpfmnmcpffajeaaFr3
import Derived.Test.YtpfmnmcpffajeaaProg
set_option linter.unusedVariables false
set_option linter.unusedSimpArgs false
set_option maxRecDepth 100000
namespace Go.Proofs.Ytpfmnmcpffajeaa.V
open Go Go.RowKit
open Go.IntKind (u64 i64 u8 i32 u32)


/-! ### Sums and products -/
theorem natAbs_div {x g : Int} (hg : 0 < g) (h : g ∣ x) : ((x / g).natAbs : Int) = x.natAbs / g := by
  obtain ⟨k, rfl⟩ := h
  rw [Int.mul_ediv_cancel_left _ (by omega), Int.natAbs_mul, Int.natCast_mul, show (g.natAbs : Int) = g by omega, Int.mul_ediv_cancel_left _ (by omega)]
theorem mul_lowest {a b c d : Int} (h1 : okF a b) (h2 : okF c d) : ∃ g h p q r s : Int, g = (Int.gcd a d : Nat) ∧ h = (Int.gcd c b : Nat) ∧ 0 < g ∧ 0 < h ∧ a = g * p ∧ d = g * s ∧ c = h * r ∧ b = h * q ∧ 0 < q ∧ 0 < s ∧ Int.gcd (p * r) (q * s) = 1 ∧ rat a b * rat c d = rat (p * r) (q * s) := by
  obtain ⟨⟨b1, _⟩, g1⟩ := h1
  obtain ⟨⟨d1, _⟩, g2⟩ := h2
  obtain ⟨g, p, s, hg, g0, ha, hd, k1⟩ := gcd_lowest (n := a) (d := d) (by omega)
  obtain ⟨h, r, q, hh, h0, hc, hb, k2⟩ := gcd_lowest (n := c) (d := b) (by omega)
  have q0 : 0 < q := by
    rcases Int.lt_or_le 0 q with x | x
    · exact x
    · have := Int.mul_nonpos_of_nonneg_of_nonpos (show 0 ≤ h by omega) x; omega
  have s0 : 0 < s := by
    rcases Int.lt_or_le 0 s with x | x
    · exact x
    · have := Int.mul_nonpos_of_nonneg_of_nonpos (show 0 ≤ g by omega) x; omega
  refine ⟨g, h, p, q, r, s, hg, hh, g0, h0, ha, hd, hc, hb, q0, s0, ?_, ?_⟩
  · have e1 : Nat.Coprime p.natAbs q.natAbs := by
      have : Nat.Coprime a.natAbs b.natAbs := g1
      rw [ha, hb, Int.natAbs_mul, Int.natAbs_mul] at this
      exact (this.coprime_mul_left).coprime_mul_left_right
    have e2 : Nat.Coprime p.natAbs s.natAbs := k1
    have e3 : Nat.Coprime r.natAbs q.natAbs := k2
    have e4 : Nat.Coprime r.natAbs s.natAbs := by
      have : Nat.Coprime c.natAbs d.natAbs := g2
      rw [hc, hd, Int.natAbs_mul, Int.natAbs_mul] at this
      exact (this.coprime_mul_left).coprime_mul_left_right
    show Nat.gcd _ _ = 1
    rw [Int.natAbs_mul, Int.natAbs_mul]
    exact Nat.Coprime.mul_left (Nat.Coprime.mul_right e1 e2) (Nat.Coprime.mul_right e3 e4)
  · have hgr : (g : Rat) ≠ 0 := by exact_mod_cast (show g ≠ 0 by omega)
    have hhr : (h : Rat) ≠ 0 := by exact_mod_cast (show h ≠ 0 by omega)
    have hqr : (q : Rat) ≠ 0 := by exact_mod_cast (show q ≠ 0 by omega)
    have hsr : (s : Rat) ≠ 0 := by exact_mod_cast (show s ≠ 0 by omega)
    unfold rat
    rw [ha, hb, hc, hd]
    simp only [Rat.intCast_mul]
    grind
theorem add_lowest {a b c d : Int} (h1 : okF a b) (h2 : okF c d) : ∃ g p q : Int, g = (Int.gcd b d : Nat) ∧ 0 < g ∧ b = g * p ∧ d = g * q ∧ 0 < p ∧ 0 < q ∧
    ∃ h X G : Int, h = (Int.gcd (a * q + c * p) g : Nat) ∧ 0 < h ∧ a * q + c * p = h * X ∧ g = h * G ∧ 0 < G ∧ Int.gcd X (p * (q * G)) = 1 ∧ rat a b + rat c d = rat X (p * (q * G)) := by
  obtain ⟨⟨b1, _⟩, g1⟩ := h1
  obtain ⟨⟨d1, _⟩, g2⟩ := h2
  obtain ⟨g, p, q, hg, g0, hb, hd, k1⟩ := gcd_lowest (n := b) (d := d) (by omega)
  have p0 : 0 < p := by
    rcases Int.lt_or_le 0 p with x | x
    · exact x
    · have := Int.mul_nonpos_of_nonneg_of_nonpos (show 0 ≤ g by omega) x; omega
  have q0 : 0 < q := by
    rcases Int.lt_or_le 0 q with x | x
    · exact x
    · have := Int.mul_nonpos_of_nonneg_of_nonpos (show 0 ≤ g by omega) x; omega
  obtain ⟨h, X, G, hh, h0, hX, hG, k2⟩ := gcd_lowest (n := a * q + c * p) (d := g) (by omega)
  have G0 : 0 < G := by
    rcases Int.lt_or_le 0 G with x | x
    · exact x
    · have := Int.mul_nonpos_of_nonneg_of_nonpos (show 0 ≤ h by omega) x; omega
  refine ⟨g, p, q, hg, g0, hb, hd, p0, q0, h, X, G, hh, h0, hX, hG, G0, ?_, ?_⟩
  · -- what is added has nothing in common with either part
    have cop : ∀ {u v p q : Int}, Int.gcd u (g * p) = 1 → Int.gcd p q = 1 → Int.gcd (u * q + v * p) p = 1 := by
      intro u v p q e1 e2
      have e3 : Nat.Coprime u.natAbs p.natAbs := by
        have : Nat.Coprime u.natAbs (g * p).natAbs := e1
        rw [Int.natAbs_mul] at this
        exact this.coprime_mul_left_right
      have e4 : Nat.Coprime q.natAbs p.natAbs := Nat.Coprime.symm e2
      rw [Int.gcd_add_mul_right_left]
      show Nat.gcd _ _ = 1
      rw [Int.natAbs_mul]
      exact Nat.Coprime.mul_left e3 e4
    have c1 : Int.gcd (a * q + c * p) p = 1 := cop (by rw [← hb]; exact g1) k1
    have c2 : Int.gcd (a * q + c * p) q = 1 := by
      rw [Int.add_comm]
      exact cop (by rw [← hd]; exact g2) (by rw [Int.gcd_comm]; exact k1)
    have d1 : Nat.Coprime X.natAbs p.natAbs := by
      have : Nat.Coprime (a * q + c * p).natAbs p.natAbs := c1
      rw [hX, Int.natAbs_mul] at this
      exact this.coprime_mul_left
    have d2 : Nat.Coprime X.natAbs q.natAbs := by
      have : Nat.Coprime (a * q + c * p).natAbs q.natAbs := c2
      rw [hX, Int.natAbs_mul] at this
      exact this.coprime_mul_left
    have d3 : Nat.Coprime X.natAbs G.natAbs := k2
    show Nat.gcd _ _ = 1
    rw [Int.natAbs_mul, Int.natAbs_mul]
    exact Nat.Coprime.mul_right d1 (Nat.Coprime.mul_right d2 d3)
  · have hgr : (h : Rat) ≠ 0 := by exact_mod_cast (show h ≠ 0 by omega)
    have hG : (G : Rat) ≠ 0 := by exact_mod_cast (show G ≠ 0 by omega)
    have hp : (p : Rat) ≠ 0 := by exact_mod_cast (show p ≠ 0 by omega)
    have hq : (q : Rat) ≠ 0 := by exact_mod_cast (show q ≠ 0 by omega)
    have e : (a : Rat) * q + c * p = h * X := by exact_mod_cast hX
    unfold rat
    rw [hb, hd, show g = h * G by assumption]
    simp only [Rat.intCast_mul]
    grind
def mulF (a b c d : Int) : FR := if okF a b ∧ okF c d then ofRat (rat a b * rat c d) else ⟨0, 0, 8⟩
def addF (a b c d : Int) : FR := if okF a b ∧ okF c d then ofRat (rat a b + rat c d) else ⟨0, 0, 8⟩
def subF (a b c d : Int) : FR := if okF a b ∧ okF c d then ofRat (rat a b - rat c d) else ⟨0, 0, 8⟩
def divF (a b c d : Int) : FR := if okF a b ∧ okF c d then (if c = 0 then ⟨0, 0, 18⟩ else ofRat (rat a b / rat c d)) else ⟨0, 0, 8⟩
theorem madeF_signed {m : Bool} {x N D : Int} (hN : N = x.natAbs) (hD : 0 < D) (hg : Int.gcd x D = 1) (hm : x ≠ 0 → (m = true ↔ x < 0)) : madeF m N D = ofRat (rat x D) := by
  rw [madeF_lowest (by omega) hD (by rw [hN]; simpa [Int.gcd] using hg)]
  congr 2
  by_cases h0 : x = 0
  · subst h0; simp at hN; subst hN; simp
  · have := hm h0
    cases m
    · simp at this ⊢; omega
    · simp at this ⊢; omega
theorem mul_made {a b c d : Int} (h1 : okF a b) (h2 : okF c d) : mulF a b c d = madeF (!(decide (a < 0) == decide (c < 0))) ((a.natAbs : Int) / (Int.gcd a d : Nat) * ((c.natAbs : Int) / (Int.gcd c b : Nat))) (b / (Int.gcd c b : Nat) * (d / (Int.gcd a d : Nat))) := by
  obtain ⟨g, h, p, q, r, s, hg, hh, g0, h0, ha, hd, hc, hb, q0, s0, k1, k2⟩ := mul_lowest h1 h2
  simp only [mulF, if_pos (And.intro h1 h2)]
  rw [← hg, ← hh, k2]
  have e1 : (a.natAbs : Int) / g = p.natAbs := by
    rw [ha, Int.natAbs_mul, Int.natCast_mul, show (g.natAbs : Int) = g by omega, Int.mul_ediv_cancel_left _ (by omega)]
  have e2 : (c.natAbs : Int) / h = r.natAbs := by
    rw [hc, Int.natAbs_mul, Int.natCast_mul, show (h.natAbs : Int) = h by omega, Int.mul_ediv_cancel_left _ (by omega)]
  have e3 : b / h = q := by rw [hb, Int.mul_ediv_cancel_left _ (by omega)]
  have e4 : d / g = s := by rw [hd, Int.mul_ediv_cancel_left _ (by omega)]
  rw [e1, e2, e3, e4]
  refine (madeF_signed (x := p * r) (by rw [Int.natAbs_mul, Int.natCast_mul]) (Int.mul_pos q0 s0) k1 ?_).symm
  intro hne
  have p0 : p ≠ 0 := fun h => hne (by rw [h, Int.zero_mul])
  have r0 : r ≠ 0 := fun h => hne (by rw [h, Int.mul_zero])
  have s1 : (a < 0) ↔ p < 0 := by
    rw [ha]
    constructor
    · intro h; exact Int.lt_of_mul_lt_mul_left (a := g) (by simpa using h) (by omega)
    · intro h; exact Int.mul_neg_of_pos_of_neg g0 h
  have s2 : (c < 0) ↔ r < 0 := by
    rw [hc]
    constructor
    · intro h'; exact Int.lt_of_mul_lt_mul_left (a := h) (by simpa using h') (by omega)
    · intro h'; exact Int.mul_neg_of_pos_of_neg h0 h'
  have d1 : decide (a < 0) = decide (p < 0) := decide_eq_decide.2 s1
  have d2 : decide (c < 0) = decide (r < 0) := decide_eq_decide.2 s2
  rw [d1, d2]
  by_cases x : p < 0 <;> by_cases y : r < 0 <;> simp only [x, y, decide_true, decide_false]
  · have := Int.mul_pos_of_neg_of_neg x y; simp; omega
  · have := Int.mul_neg_of_neg_of_pos x (show 0 < r by omega); simp; omega
  · have := Int.mul_neg_of_pos_of_neg (show 0 < p by omega) y; simp; omega
  · have := Int.mul_pos (show 0 < p by omega) (show 0 < r by omega); simp; omega
theorem add_zero_made {a b c d : Int} (h1 : okF a b) (h2 : okF c d) (hz : a * (d / (Int.gcd b d : Nat)) + c * (b / (Int.gcd b d : Nat)) = 0) : addF a b c d = ⟨0, 1, 0⟩ := by
  obtain ⟨g, p, q, hg, g0, hb, hd, p0, q0, h, X, G, hh, h0, hX, hG, G0, k1, k2⟩ := add_lowest h1 h2
  simp only [addF, if_pos (And.intro h1 h2)]
  rw [← hg] at hz
  have e3 : b / g = p := by rw [hb, Int.mul_ediv_cancel_left _ (by omega)]
  have e4 : d / g = q := by rw [hd, Int.mul_ediv_cancel_left _ (by omega)]
  rw [e3, e4, hX] at hz
  have hX0 : X = 0 := by
    rcases Int.mul_eq_zero.1 hz with h | h
    · omega
    · exact h
  subst hX0
  have hone : p * (q * G) = 1 := by
    have : (p * (q * G)).natAbs = 1 := by simpa [Int.gcd] using k1
    have : 0 < p * (q * G) := Int.mul_pos p0 (Int.mul_pos q0 G0)
    omega
  rw [k2, hone, ofRat_lowest (by omega) (by simp), if_pos (by unfold inR; omega)]
theorem add_made {a b c d : Int} {m : Bool} (h1 : okF a b) (h2 : okF c d) (hz : a * (d / (Int.gcd b d : Nat)) + c * (b / (Int.gcd b d : Nat)) ≠ 0) (hm : m = true ↔ a * (d / (Int.gcd b d : Nat)) + c * (b / (Int.gcd b d : Nat)) < 0) :
    0 < (Int.gcd (((a * (d / (Int.gcd b d : Nat)) + c * (b / (Int.gcd b d : Nat))).natAbs : Int) % (Int.gcd b d : Nat)) (Int.gcd b d : Nat)) ∧ ((Int.gcd (((a * (d / (Int.gcd b d : Nat)) + c * (b / (Int.gcd b d : Nat))).natAbs : Int) % (Int.gcd b d : Nat)) (Int.gcd b d : Nat) : Nat) : Int) ∣ d ∧
    addF a b c d = madeF m (((a * (d / (Int.gcd b d : Nat)) + c * (b / (Int.gcd b d : Nat))).natAbs : Int) / (Int.gcd (((a * (d / (Int.gcd b d : Nat)) + c * (b / (Int.gcd b d : Nat))).natAbs : Int) % (Int.gcd b d : Nat)) (Int.gcd b d : Nat) : Nat)) (b / (Int.gcd b d : Nat) * (d / (Int.gcd (((a * (d / (Int.gcd b d : Nat)) + c * (b / (Int.gcd b d : Nat))).natAbs : Int) % (Int.gcd b d : Nat)) (Int.gcd b d : Nat) : Nat))) := by
  obtain ⟨g, p, q, hg, g0, hb, hd, p0, q0, h, X, G, hh, h0, hX, hG, G0, k1, k2⟩ := add_lowest h1 h2
  have e3 : b / g = p := by rw [hb, Int.mul_ediv_cancel_left _ (by omega)]
  have e4 : d / g = q := by rw [hd, Int.mul_ediv_cancel_left _ (by omega)]
  rw [← hg, e3, e4] at hz hm ⊢
  rw [hX] at hz hm ⊢
  have eh : ((Int.gcd (((h * X).natAbs : Int) % g) g : Nat) : Int) = h := by
    rw [Int.gcd_comm, gcd_mod (by omega) (by omega)]
    have e : Int.gcd (((h * X).natAbs : Nat) : Int) g = Int.gcd (h * X) g := by simp [Int.gcd]
    rw [e, ← hX, ← hh]
  have hp : 0 < Int.gcd (((h * X).natAbs : Int) % g) g := by omega
  refine ⟨hp, ?_, ?_⟩
  · rw [eh, hd, hG]
    exact ⟨G * q, by rw [Int.mul_assoc]⟩
  rw [eh]
  have e1 : ((h * X).natAbs : Int) / h = X.natAbs := by
    rw [Int.natAbs_mul, Int.natCast_mul, show (h.natAbs : Int) = h by omega, Int.mul_ediv_cancel_left _ (by omega)]
  have e2 : d / h = q * G := by
    rw [hd, hG, show h * G * q = h * (q * G) by rw [Int.mul_assoc, Int.mul_comm G]]
    exact Int.mul_ediv_cancel_left _ (by omega)
  rw [e1, e2]
  simp only [addF, if_pos (And.intro h1 h2)]
  rw [k2]
  refine (madeF_signed (x := X) rfl (Int.mul_pos p0 (Int.mul_pos q0 G0)) k1 fun hx => ?_).symm
  rw [hm]
  constructor
  · intro hn; exact Int.lt_of_mul_lt_mul_left (a := h) (by simpa using hn) (by omega)
  · intro hn; exact Int.mul_neg_of_pos_of_neg h0 hn

end Go.Proofs.Ytpfmnmcpffajeaa.V
