/-
  Contracts, printed by a program of this session (wip/tool/sym.py) from the unit text vc4: what each function comes to, and its proof.
-/
import Derived.Test.YtpfmnmcpffajeaaVc6
import Derived.Test.YtpfmnmcpffajeaaProg
import Derived.Test.YtpfmnmcpffajeaaVo
set_option linter.unusedVariables false
set_option linter.unusedSimpArgs false
set_option maxRecDepth 100000
namespace Go.Proofs.Ytpfmnmcpffajeaa.V
open Go Go.RowKit
open Go.IntKind (u64 i64 u8 i32 u32)


def okS (n d : Int) : Prop := okF n d ∧ -1000 ≤ n ∧ n ≤ 1000 ∧ d ≤ 20
instance (n d : Int) : Decidable (okS n d) := by unfold okS; infer_instance
theorem small_step {F R : Prop} {a b : Int} (hr : I64 a ∧ I64 b) (hno : ¬ okS a b → F) (hyes : okS a b → R) :
    (I64 a ∧ I64 b) ∧ bif ((okE a b) != 0) then F else (bif decide (1000 < a) then F else (bif decide (a < (-1000)) then F else (bif decide (20 < b) then F else R))) := by
  refine ⟨hr, bif_i (fun h => hno fun k => ?_) (fun h => bif_i (fun h2 => hno fun k => ?_) (fun h2 => bif_i (fun h3 => hno fun k => ?_) (fun h3 => bif_i (fun h4 => hno fun k => ?_) (fun h4 => hyes ?_))))⟩
  · simp [okE, k.1] at h
  · have := k.2.2.1; simp at h2; omega
  · have := k.2.1; simp at h3; omega
  · have := k.2.2.2; simp at h4; omega
  · simp only [decide_eq_false_iff_not] at h2 h3 h4
    refine ⟨?_, by omega, by omega, by omega⟩
    rcases okE_cases a b with ⟨k, _⟩ | ⟨_, e⟩
    · exact k
    · rw [e] at h; simp at h
theorem bif_f {c : Bool} {A B : Prop} (h : c = false) (hb : B) : bif c then A else B := by rw [h]; exact hb
theorem bif_t {c : Bool} {A B : Prop} (h : c = true) (ha : A) : bif c then A else B := by rw [h]; exact ha
/-! ### Values of results -/
theorem ofRat_ok {q : Rat} (h : (ofRat q).e = 0) : rat (ofRat q).n (ofRat q).d = q ∧ okF (ofRat q).n (ofRat q).d := by
  by_cases hr : inR q.num q.den
  · have e : ofRat q = ⟨q.num, q.den, 0⟩ := by unfold ofRat; rw [if_pos hr]
    rw [e]
    refine ⟨rat_num_den q, ⟨?_, ?_⟩⟩
    · obtain ⟨h1, h2, h3⟩ := hr
      have := q.den_nz
      simp only
      omega
    · simpa [Int.gcd] using q.reduced
  · have e : ofRat q = ⟨0, 0, 16⟩ := by unfold ofRat; rw [if_neg hr]
    rw [e] at h; simp at h
theorem ofRat_neg {q : Rat} : (ofRat (-q)).n = -(ofRat q).n ∧ (ofRat (-q)).d = (ofRat q).d ∧ (ofRat (-q)).e = (ofRat q).e := by
  unfold ofRat
  rw [Rat.neg_num, Rat.neg_den]
  by_cases hr : inR q.num q.den
  · have : inR (-q.num) q.den := by unfold inR at *; omega
    rw [if_pos hr, if_pos this]; exact ⟨rfl, rfl, rfl⟩
  · have : ¬ inR (-q.num) q.den := by unfold inR at *; omega
    rw [if_neg hr, if_neg this]; simp
def Val (f : FR) (q : Rat) : Prop := (f = ofRat q ∧ f.e = 0) ∨ f = ⟨0, 0, 16⟩
theorem val_ofRat (q : Rat) : Val (ofRat q) q := by
  by_cases hr : inR q.num q.den
  · have e : ofRat q = ⟨q.num, q.den, 0⟩ := by unfold ofRat; rw [if_pos hr]
    exact .inl ⟨rfl, by rw [e]⟩
  · exact .inr (by unfold ofRat; rw [if_neg hr])
theorem val_mul {a b c d : Int} (h1 : okF a b) (h2 : okF c d) : Val (mulF a b c d) (rat a b * rat c d) := by
  unfold mulF; rw [if_pos ⟨h1, h2⟩]; exact val_ofRat _
theorem val_step {s p : FR} {x y : Rat} (hs : Val s x) (hp : Val p y) : Val (stepF s p) (x + y) := by
  rcases hs with ⟨rfl, e1⟩ | rfl
  · rcases hp with ⟨rfl, e2⟩ | rfl
    · obtain ⟨r1, o1⟩ := ofRat_ok e1
      obtain ⟨r2, o2⟩ := ofRat_ok e2
      have e : addF (ofRat x).n (ofRat x).d (ofRat y).n (ofRat y).d = ofRat (x + y) := by unfold addF; rw [if_pos ⟨o1, o2⟩, r1, r2]
      unfold stepF
      rw [if_neg (by simp [e1]), if_neg (by simp [e2]), e]
      rcases val_ofRat (x + y) with ⟨_, k⟩ | k
      · rw [if_neg (by simp [k])]; exact .inl ⟨rfl, k⟩
      · rw [k]; right; simp
    · right; unfold stepF; rw [if_neg (by simp [e1]), if_pos (by simp)]
  · right; unfold stepF; rw [if_pos (by simp)]
theorem val_zero : Val ⟨0, 1, 0⟩ 0 := .inl ⟨by kernel_rfl, rfl⟩
theorem val_dot {a b c d e f p q r s t u : Int} (h : okV a b c d e f) (k : okV p q r s t u) : Val (dotF a b c d e f p q r s t u) (0 + rat a b * rat p q + rat c d * rat r s + rat e f * rat t u) :=
  val_step (val_step (val_step val_zero (val_mul h.1 k.1)) (val_mul h.2.1 k.2.1)) (val_mul h.2.2 k.2.2)
theorem okF_neg {a b : Int} (h : okF a b) : okF (-a) b := by
  obtain ⟨⟨h1, h2, h3, h4⟩, h5⟩ := h
  exact ⟨by omega, by rw [Int.neg_gcd]; exact h5⟩
theorem rat_neg (a b : Int) : rat (-a) b = -rat a b := by
  unfold rat; rw [Rat.intCast_neg]; grind
theorem val_two {a b p q c d r s : Int} (h1 : okF a b) (h2 : okF p q) (h3 : okF c d) (h4 : okF r s) : Val (twoF a b p q (-c) d r s) (0 + rat a b * rat p q + -rat c d * rat r s) := by
  have := val_step (val_step val_zero (val_mul h1 h2)) (val_mul (okF_neg h3) h4)
  rw [rat_neg] at this
  exact this
theorem Val.ok {f : FR} {q : Rat} (h : Val f q) (e : f.e = 0) : f = ofRat q ∧ rat f.n f.d = q ∧ okF f.n f.d := by
  rcases h with ⟨rfl, _⟩ | rfl
  · exact ⟨rfl, ofRat_ok e⟩
  · simp at e
theorem Val.e {f : FR} {q : Rat} (h : Val f q) : f.e = 0 ∨ f.e = 16 := by
  rcases h with ⟨_, e⟩ | rfl
  · exact .inl e
  · exact .inr rfl
/-! ### Sizes -/
theorem ofRat_bound {N D : Int} (hD : 0 < D) (hN : -1000000000000000000 ≤ N ∧ N ≤ 1000000000000000000) (hD2 : D ≤ 1000000000000000000) : (ofRat (rat N D)).e = 0 ∧ (ofRat (rat N D)).n.natAbs ≤ N.natAbs ∧ 0 < (ofRat (rat N D)).d ∧ (ofRat (rat N D)).d ≤ D := by
  obtain ⟨g, p, q, hg, g0, hn, hd, h1⟩ := gcd_lowest (n := N) (d := D) (by omega)
  have q0 : 0 < q := by
    rcases Int.lt_or_le 0 q with h | h
    · exact h
    · have := Int.mul_nonpos_of_nonneg_of_nonpos (show 0 ≤ g by omega) h; omega
  have hp : p.natAbs ≤ N.natAbs := by
    rw [hn, Int.natAbs_mul]; exact Nat.le_mul_of_pos_left _ (by omega)
  have hq : q ≤ D := by
    rw [hd]
    have := Int.mul_le_mul_of_nonneg_right (show 1 ≤ g by omega) (show 0 ≤ q by omega)
    omega
  have e : ofRat (rat N D) = ⟨p, q, 0⟩ := by
    rw [hn, hd, rat_mul_div (by omega), ofRat_lowest q0 h1, if_pos (by unfold inR; omega)]
  rw [e]
  exact ⟨rfl, hp, q0, hq⟩
theorem rat_mul2 {a b c d : Int} (hb : b ≠ 0) (hd : d ≠ 0) : rat a b * rat c d = rat (a * c) (b * d) := by
  have h1 : (b : Rat) ≠ 0 := by exact_mod_cast hb
  have h2 : (d : Rat) ≠ 0 := by exact_mod_cast hd
  unfold rat; rw [Rat.intCast_mul, Rat.intCast_mul]; grind
theorem rat_add2 {a b c d : Int} (hb : b ≠ 0) (hd : d ≠ 0) : rat a b + rat c d = rat (a * d + c * b) (b * d) := by
  have h1 : (b : Rat) ≠ 0 := by exact_mod_cast hb
  have h2 : (d : Rat) ≠ 0 := by exact_mod_cast hd
  unfold rat; rw [Rat.intCast_add, Rat.intCast_mul, Rat.intCast_mul, Rat.intCast_mul]; grind
theorem natAbs_mul_le {a b : Int} {A B : Nat} (ha : a.natAbs ≤ A) (hb : b.natAbs ≤ B) : (a * b).natAbs ≤ A * B := by
  rw [Int.natAbs_mul]; exact Nat.mul_le_mul ha hb
theorem pos_mul_le {b d B D : Int} (hb : 0 < b) (hB : b ≤ B) (hd : 0 < d) (hD : d ≤ D) : 0 < b * d ∧ b * d ≤ B * D :=
  ⟨Int.mul_pos hb hd, Int.mul_le_mul hB hD (by omega) (by omega)⟩
theorem mul_sm {a b c d : Int} (h1 : okS a b) (h2 : okS c d) : (mulF a b c d).e = 0 ∧ (mulF a b c d).n.natAbs ≤ 1000000 ∧ 0 < (mulF a b c d).d ∧ (mulF a b c d).d ≤ 400 := by
  obtain ⟨o1, a1, a2, b2⟩ := h1
  obtain ⟨o2, c1, c2, d2⟩ := h2
  have b1 := o1.1.1
  have d1 := o2.1.1
  unfold mulF; rw [if_pos ⟨o1, o2⟩, rat_mul2 (by omega) (by omega)]
  have n := natAbs_mul_le (a := a) (b := c) (A := 1000) (B := 1000) (by omega) (by omega)
  obtain ⟨p1, p2⟩ := pos_mul_le (b := b) (d := d) (B := 20) (D := 20) (by omega) b2 (by omega) d2
  obtain ⟨k1, k2, k3, k4⟩ := ofRat_bound p1 (by omega) (by omega) (N := a * c)
  exact ⟨k1, by omega, k3, by omega⟩
theorem add_sm {s p : FR} {x y : Rat} {A C : Nat} {B D : Int} (hs : Val s x) (hp : Val p y) (e1 : s.e = 0) (e2 : p.e = 0) (n1 : s.n.natAbs ≤ A) (n2 : p.n.natAbs ≤ C) (d1 : s.d ≤ B) (d2 : p.d ≤ D) (hB : 0 < B) (hD : 0 < D) (hA : A * D.toNat + C * B.toNat ≤ 1000000000000000000) (hBD : B * D ≤ 1000000000000000000) :
    (stepF s p).e = 0 ∧ (stepF s p).n.natAbs ≤ A * D.toNat + C * B.toNat ∧ (stepF s p).d ≤ B * D := by
  obtain ⟨_, r1, o1⟩ := hs.ok e1
  obtain ⟨_, r2, o2⟩ := hp.ok e2
  have b0 := o1.1.1
  have d0 := o2.1.1
  have e : addF s.n s.d p.n p.d = ofRat (rat (s.n * p.d + p.n * s.d) (s.d * p.d)) := by unfold addF; rw [if_pos ⟨o1, o2⟩, rat_add2 (by omega) (by omega)]
  have m1 := natAbs_mul_le (a := s.n) (b := p.d) (A := A) (B := D.toNat) n1 (by omega)
  have m2 := natAbs_mul_le (a := p.n) (b := s.d) (A := C) (B := B.toNat) n2 (by omega)
  obtain ⟨p1, p2⟩ := pos_mul_le (b := s.d) (d := p.d) (B := B) (D := D) (by omega) d1 (by omega) d2
  obtain ⟨k1, k2, k3, k4⟩ := ofRat_bound p1 (by omega) (by omega) (N := s.n * p.d + p.n * s.d)
  unfold stepF
  rw [if_neg (by simp [e1]), if_neg (by simp [e2]), e, if_neg (by simp [k1])]
  exact ⟨k1, by omega, by omega⟩
theorem okS_neg {a b : Int} (h : okS a b) : okS (-a) b := ⟨okF_neg h.1, by have := h.2; omega, by have := h.2; omega, h.2.2.2⟩
theorem two_sm {a b p q c d r s : Int} (h1 : okS a b) (h2 : okS p q) (h3 : okS c d) (h4 : okS r s) : (twoF a b p q (-c) d r s).e = 0 := by
  obtain ⟨x1, x2, x3, x4⟩ := mul_sm h1 h2
  obtain ⟨y1, y2, y3, y4⟩ := mul_sm (okS_neg h3) h4
  have v1 := val_mul h1.1 h2.1
  have v2 := val_mul (okF_neg h3.1) h4.1
  obtain ⟨s1, s2, s3⟩ := add_sm (A := 0) (B := 1) (C := 1000000) (D := 400) val_zero v1 rfl x1 (by simp) x2 (by simp) x4 (by omega) (by omega) (by decide) (by decide)
  have sv := val_step val_zero v1
  obtain ⟨t1, t2, t3⟩ := add_sm (A := 1000000) (B := 400) (C := 1000000) (D := 400) sv v2 s1 y1 (by simpa using s2) y2 (by simpa using s3) y4 (by omega) (by omega) (by decide) (by decide)
  exact t1
def okSV (a b c d e f : Int) : Prop := okS a b ∧ okS c d ∧ okS e f
theorem okSV.v {a b c d e f : Int} (h : okSV a b c d e f) : okV a b c d e f := ⟨h.1.1, h.2.1.1, h.2.2.1⟩
structure CrossOk (a b c d e f p q r s t u : Int) : Prop where
  er : (crossF a b c d e f p q r s t u).er = 0
  x : (crossF a b c d e f p q r s t u).a = (ofRat (0 + rat c d * rat t u + -rat e f * rat r s)).n ∧ (crossF a b c d e f p q r s t u).b = (ofRat (0 + rat c d * rat t u + -rat e f * rat r s)).d ∧ (ofRat (0 + rat c d * rat t u + -rat e f * rat r s)).e = 0
  y : (crossF a b c d e f p q r s t u).c = (ofRat (0 + rat e f * rat p q + -rat a b * rat t u)).n ∧ (crossF a b c d e f p q r s t u).d = (ofRat (0 + rat e f * rat p q + -rat a b * rat t u)).d ∧ (ofRat (0 + rat e f * rat p q + -rat a b * rat t u)).e = 0
  z : (crossF a b c d e f p q r s t u).e = (ofRat (0 + rat a b * rat r s + -rat c d * rat p q)).n ∧ (crossF a b c d e f p q r s t u).f = (ofRat (0 + rat a b * rat r s + -rat c d * rat p q)).d ∧ (ofRat (0 + rat a b * rat r s + -rat c d * rat p q)).e = 0
theorem cross_ok {a b c d e f p q r s t u : Int} (h : okSV a b c d e f) (k : okSV p q r s t u) : CrossOk a b c d e f p q r s t u := by
  have e1 := two_sm h.2.1 k.2.2 h.2.2 k.2.1
  have e2 := two_sm h.2.2 k.1 h.1 k.2.2
  have e3 := two_sm h.1 k.2.1 h.2.1 k.1
  obtain ⟨v1, _⟩ := (val_two h.2.1.1 k.2.2.1 h.2.2.1 k.2.1.1).ok e1
  obtain ⟨v2, _⟩ := (val_two h.2.2.1 k.1.1 h.1.1 k.2.2.1).ok e2
  obtain ⟨v3, _⟩ := (val_two h.1.1 k.2.1.1 h.2.1.1 k.1.1).ok e3
  have hc : crossF a b c d e f p q r s t u = each3 (twoF c d t u (-e) f r s) (twoF e f p q (-a) b t u) (twoF a b r s (-c) d p q) := by unfold crossF; rw [if_pos ⟨h.v, k.v⟩]
  have he : each3 (twoF c d t u (-e) f r s) (twoF e f p q (-a) b t u) (twoF a b r s (-c) d p q) = ⟨(twoF c d t u (-e) f r s).n, (twoF c d t u (-e) f r s).d, (twoF e f p q (-a) b t u).n, (twoF e f p q (-a) b t u).d, (twoF a b r s (-c) d p q).n, (twoF a b r s (-c) d p q).d, 0⟩ := by
    unfold each3; rw [if_neg (by simp [e1]), if_neg (by simp [e2]), if_neg (by simp [e3])]
  rw [v1] at e1
  rw [v2] at e2
  rw [v3] at e3
  constructor <;> rw [hc, he] <;> simp only [v1, v2, v3, e1, e2, e3, and_self]
theorem CrossOk.v {a b c d e f p q r s t u : Int} (h : CrossOk a b c d e f p q r s t u) : okV (crossF a b c d e f p q r s t u).a (crossF a b c d e f p q r s t u).b (crossF a b c d e f p q r s t u).c (crossF a b c d e f p q r s t u).d (crossF a b c d e f p q r s t u).e (crossF a b c d e f p q r s t u).f := by
  obtain ⟨_, ⟨x1, x2, x3⟩, ⟨y1, y2, y3⟩, z1, z2, z3⟩ := h
  rw [x1, x2, y1, y2, z1, z2]
  exact ⟨(ofRat_ok x3).2, (ofRat_ok y3).2, (ofRat_ok z3).2⟩

theorem CrossOk.r {a b c d e f p q r s t u : Int} (h : CrossOk a b c d e f p q r s t u) : rat (crossF a b c d e f p q r s t u).a (crossF a b c d e f p q r s t u).b = 0 + rat c d * rat t u + -rat e f * rat r s ∧ rat (crossF a b c d e f p q r s t u).c (crossF a b c d e f p q r s t u).d = 0 + rat e f * rat p q + -rat a b * rat t u ∧ rat (crossF a b c d e f p q r s t u).e (crossF a b c d e f p q r s t u).f = 0 + rat a b * rat r s + -rat c d * rat p q := by
  obtain ⟨_, ⟨x1, x2, x3⟩, ⟨y1, y2, y3⟩, z1, z2, z3⟩ := h
  rw [x1, x2, y1, y2, z1, z2]
  exact ⟨(ofRat_ok x3).1, (ofRat_ok y3).1, (ofRat_ok z3).1⟩
theorem CrossOk.anti {a b c d e f p q r s t u : Int} (h : CrossOk a b c d e f p q r s t u) (k : CrossOk p q r s t u a b c d e f) :
    ((crossF p q r s t u a b c d e f).a = -(crossF a b c d e f p q r s t u).a ∧ (crossF p q r s t u a b c d e f).b = (crossF a b c d e f p q r s t u).b) ∧ ((crossF p q r s t u a b c d e f).c = -(crossF a b c d e f p q r s t u).c ∧ (crossF p q r s t u a b c d e f).d = (crossF a b c d e f p q r s t u).d) ∧ (crossF p q r s t u a b c d e f).e = -(crossF a b c d e f p q r s t u).e ∧ (crossF p q r s t u a b c d e f).f = (crossF a b c d e f p q r s t u).f := by
  obtain ⟨_, ⟨x1, x2, x3⟩, ⟨y1, y2, y3⟩, z1, z2, z3⟩ := h
  obtain ⟨_, ⟨u1, u2, u3⟩, ⟨v1, v2, v3⟩, w1, w2, w3⟩ := k
  have q1 : 0 + rat r s * rat e f + -rat t u * rat c d = -(0 + rat c d * rat t u + -rat e f * rat r s) := by grind
  have q2 : 0 + rat t u * rat a b + -rat p q * rat e f = -(0 + rat e f * rat p q + -rat a b * rat t u) := by grind
  have q3 : 0 + rat p q * rat c d + -rat r s * rat a b = -(0 + rat a b * rat r s + -rat c d * rat p q) := by grind
  rw [q1] at u1 u2
  rw [q2] at v1 v2
  rw [q3] at w1 w2
  obtain ⟨a1, a2, _⟩ := @ofRat_neg (0 + rat c d * rat t u + -rat e f * rat r s)
  obtain ⟨b1, b2, _⟩ := @ofRat_neg (0 + rat e f * rat p q + -rat a b * rat t u)
  obtain ⟨c1, c2, _⟩ := @ofRat_neg (0 + rat a b * rat r s + -rat c d * rat p q)
  rw [u1, u2, v1, v2, w1, w2, x1, x2, y1, y2, z1, z2, a1, a2, b1, b2, c1, c2]
  exact ⟨⟨rfl, rfl⟩, ⟨rfl, rfl⟩, rfl, rfl⟩
theorem dotV_ok {a b c d e f p q r s t u : Int} (h : okV a b c d e f) (k : okV p q r s t u) : dotV a b c d e f p q r s t u = dotF a b c d e f p q r s t u := by unfold dotV; rw [if_pos ⟨h, k⟩]
theorem val_zero_or {f : FR} {q : Rat} (h : Val f q) (hq : q = 0) : f = ⟨0, 1, 0⟩ ∨ f = ⟨0, 0, 16⟩ := by
  rcases h with ⟨e, _⟩ | e
  · left; rw [e, hq]; kernel_rfl
  · exact .inr e
/-- What VecCross says, of the results. -/
theorem cross_law {a b c d e f p q r s t u g h i j k l : Int} (hv : okSV a b c d e f) (hw : okSV p q r s t u) (hu : okSV g h i j k l) :
    ((dotV (crossF a b c d e f p q r s t u).a (crossF a b c d e f p q r s t u).b (crossF a b c d e f p q r s t u).c (crossF a b c d e f p q r s t u).d (crossF a b c d e f p q r s t u).e (crossF a b c d e f p q r s t u).f a b c d e f = ⟨0, 1, 0⟩ ∨ dotV (crossF a b c d e f p q r s t u).a (crossF a b c d e f p q r s t u).b (crossF a b c d e f p q r s t u).c (crossF a b c d e f p q r s t u).d (crossF a b c d e f p q r s t u).e (crossF a b c d e f p q r s t u).f a b c d e f = ⟨0, 0, 16⟩)) ∧
    ((dotV (crossF a b c d e f p q r s t u).a (crossF a b c d e f p q r s t u).b (crossF a b c d e f p q r s t u).c (crossF a b c d e f p q r s t u).d (crossF a b c d e f p q r s t u).e (crossF a b c d e f p q r s t u).f p q r s t u = ⟨0, 1, 0⟩ ∨ dotV (crossF a b c d e f p q r s t u).a (crossF a b c d e f p q r s t u).b (crossF a b c d e f p q r s t u).c (crossF a b c d e f p q r s t u).d (crossF a b c d e f p q r s t u).e (crossF a b c d e f p q r s t u).f p q r s t u = ⟨0, 0, 16⟩)) ∧
    detF g h i j k l a b c d e f p q r s t u = dotV g h i j k l (crossF a b c d e f p q r s t u).a (crossF a b c d e f p q r s t u).b (crossF a b c d e f p q r s t u).c (crossF a b c d e f p q r s t u).d (crossF a b c d e f p q r s t u).e (crossF a b c d e f p q r s t u).f ∧
    ∃ W : FR, W.e = 0 ∧ (dotV g h i j k l (crossF a b c d e f p q r s t u).a (crossF a b c d e f p q r s t u).b (crossF a b c d e f p q r s t u).c (crossF a b c d e f p q r s t u).d (crossF a b c d e f p q r s t u).e (crossF a b c d e f p q r s t u).f = W ∨ dotV g h i j k l (crossF a b c d e f p q r s t u).a (crossF a b c d e f p q r s t u).b (crossF a b c d e f p q r s t u).c (crossF a b c d e f p q r s t u).d (crossF a b c d e f p q r s t u).e (crossF a b c d e f p q r s t u).f = ⟨0, 0, 16⟩) ∧ (detF g h a b p q i j c d r s k l e f t u = W ∨ detF g h a b p q i j c d r s k l e f t u = ⟨0, 0, 16⟩) := by
  have C := cross_ok hv hw
  have Cv := C.v
  obtain ⟨r1, r2, r3⟩ := C.r
  have hr2 : okSV i j c d r s := ⟨hu.2.1, hv.2.1, hw.2.1⟩
  have hr3 : okSV k l e f t u := ⟨hu.2.2, hv.2.2, hw.2.2⟩
  have hr1 : okSV g h a b p q := ⟨hu.1, hv.1, hw.1⟩
  have C' := cross_ok hr2 hr3
  have Cv' := C'.v
  obtain ⟨s1, s2, s3⟩ := C'.r
  rw [dotV_ok Cv hv.v, dotV_ok Cv hw.v, dotV_ok hu.v Cv]
  have vx := val_dot Cv hv.v
  have vy := val_dot Cv hw.v
  have vz := val_dot hu.v Cv
  have vt := val_dot hr1.v Cv'
  rw [r1, r2, r3] at vx vy vz
  rw [s1, s2, s3] at vt
  have e1 : detF g h i j k l a b c d e f p q r s t u = dotF g h i j k l (crossF a b c d e f p q r s t u).a (crossF a b c d e f p q r s t u).b (crossF a b c d e f p q r s t u).c (crossF a b c d e f p q r s t u).d (crossF a b c d e f p q r s t u).e (crossF a b c d e f p q r s t u).f := by
    unfold detF; rw [if_pos ⟨hu.v, hv.v, hw.v⟩]; unfold dotC; rw [if_neg (by simp [C.er])]
  have e2 : detF g h a b p q i j c d r s k l e f t u = dotF g h a b p q (crossF i j c d r s k l e f t u).a (crossF i j c d r s k l e f t u).b (crossF i j c d r s k l e f t u).c (crossF i j c d r s k l e f t u).d (crossF i j c d r s k l e f t u).e (crossF i j c d r s k l e f t u).f := by
    unfold detF; rw [if_pos ⟨hr1.v, hr2.v, hr3.v⟩]; unfold dotC; rw [if_neg (by simp [C'.er])]
  refine ⟨val_zero_or vx (by grind), val_zero_or vy (by grind), e1, ?_⟩
  rw [e2]
  have eq : 0 + rat g h * (0 + rat c d * rat t u + -rat r s * rat e f) + rat a b * (0 + rat r s * rat k l + -rat i j * rat t u) + rat p q * (0 + rat i j * rat e f + -rat c d * rat k l) = 0 + rat g h * (0 + rat c d * rat t u + -rat e f * rat r s) + rat i j * (0 + rat e f * rat p q + -rat a b * rat t u) + rat k l * (0 + rat a b * rat r s + -rat c d * rat p q) := by grind
  rw [eq] at vt
  rcases vz with ⟨z1, z2⟩ | z1
  · refine ⟨_, z2, .inl rfl, ?_⟩
    rcases vt with ⟨t1, _⟩ | t1
    · left; rw [t1, z1]
    · exact .inr t1
  · rcases vt with ⟨t1, t2⟩ | t1
    · exact ⟨_, t2, .inr z1, .inl rfl⟩
    · exact ⟨⟨0, 0, 0⟩, rfl, .inr z1, .inr t1⟩

def FM_law02_small : FM := ⟨59, [(RV.tmp 6)], (MC.seq (MC.ops [⟨(some 3), none, (MI.box 25 (MO.t 0))⟩, ⟨(some 4), none, (MI.box 25 (MO.t 1))⟩, ⟨(some 5), none, (MI.box 23 (MO.t 2))⟩, ⟨(some 6), none, (MI.mv (MO.c (AV.b false)))⟩]) (MC.seq (MC.ops [⟨(some 9), none, (MI.faddr 0 (MO.t 3))⟩, ⟨(some 10), none, (MI.loadn 2 (MO.t 9))⟩, ⟨(some 11), none, (MI.faddr 2 (MO.t 3))⟩, ⟨(some 12), none, (MI.loadn 2 (MO.t 11))⟩, ⟨(some 13), none, (MI.faddr 4 (MO.t 3))⟩, ⟨(some 14), none, (MI.loadn 2 (MO.t 13))⟩, ⟨(some 15), none, (MI.faddr 0 (MO.t 4))⟩, ⟨(some 16), none, (MI.loadn 2 (MO.t 15))⟩, ⟨(some 17), none, (MI.faddr 2 (MO.t 4))⟩, ⟨(some 18), none, (MI.loadn 2 (MO.t 17))⟩, ⟨(some 19), none, (MI.faddr 4 (MO.t 4))⟩, ⟨(some 20), none, (MI.loadn 2 (MO.t 19))⟩, ⟨(some 21), none, (MI.loadn 2 (MO.t 5))⟩, ⟨(some 22), none, (MI.bslice 23 7 [(AV.i .i64 0), (AV.i .i64 0), (AV.i .i64 0), (AV.i .i64 0), (AV.i .i64 0), (AV.i .i64 0), (AV.i .i64 0), (AV.i .i64 0), (AV.i .i64 0), (AV.i .i64 0), (AV.i .i64 0), (AV.i .i64 0), (AV.i .i64 0), (AV.i .i64 0)] [(0, 2, (MO.t 10)), (2, 2, (MO.t 12)), (4, 2, (MO.t 14)), (6, 2, (MO.t 16)), (8, 2, (MO.t 18)), (10, 2, (MO.t 20)), (12, 2, (MO.t 21))])⟩, ⟨(some 7), none, (MI.mv (MO.t 22))⟩]) (MC.seq (MC.seq (MC.ops [⟨(some 8), none, (MI.mv (MO.c (AV.i .i64 0)))⟩]) (MC.block 0 (MC.loop (MC.seq (MC.seq (MC.ops [⟨(some 23), none, (MI.mv (MO.t 8))⟩, ⟨(some 24), none, (MI.mv (MO.t 7))⟩, ⟨(some 25), none, (MI.len (MO.t 24))⟩, ⟨(some 26), none, (MI.bin .lss (MO.t 23) (MO.t 25))⟩]) (MC.cond (MO.t 26) MC.skip (MC.exit 0))) (MC.seq (MC.block 1 (MC.seq (MC.ops [⟨(some 29), none, (MI.mv (MO.t 7))⟩, ⟨(some 30), none, (MI.mv (MO.t 8))⟩, ⟨(some 31), none, (MI.iaddrS 2 (MO.t 29) (MO.t 30))⟩, ⟨(some 32), none, (MI.loadn 2 (MO.t 31))⟩, ⟨(some 33), none, (MI.callN 28 [(MO.t 32)])⟩, ⟨(some 34), none, (MI.bin .neq (MO.t 33) (MO.c (AV.i .i64 0)))⟩, ⟨(some 35), none, (MI.mv (MO.t 34))⟩, ⟨(some 36), (some (35, false)), (MI.mv (MO.t 7))⟩, ⟨(some 37), (some (35, false)), (MI.mv (MO.t 8))⟩, ⟨(some 38), (some (35, false)), (MI.iaddrS 2 (MO.t 36) (MO.t 37))⟩, ⟨(some 39), (some (35, false)), (MI.faddr 0 (MO.t 38))⟩, ⟨(some 40), (some (35, false)), (MI.load (MO.t 39))⟩, ⟨(some 41), (some (35, false)), (MI.bin .gtr (MO.t 40) (MO.c (AV.i .i64 1000)))⟩, ⟨(some 42), none, (MI.pick (MO.t 35) (MO.c (AV.b true)) (MO.t 41))⟩, ⟨(some 43), none, (MI.mv (MO.t 42))⟩, ⟨(some 44), (some (43, false)), (MI.mv (MO.t 7))⟩, ⟨(some 45), (some (43, false)), (MI.mv (MO.t 8))⟩, ⟨(some 46), (some (43, false)), (MI.iaddrS 2 (MO.t 44) (MO.t 45))⟩, ⟨(some 47), (some (43, false)), (MI.faddr 0 (MO.t 46))⟩, ⟨(some 48), (some (43, false)), (MI.load (MO.t 47))⟩, ⟨(some 49), (some (43, false)), (MI.bin .lss (MO.t 48) (MO.c (AV.i .i64 (-1000))))⟩, ⟨(some 50), none, (MI.pick (MO.t 43) (MO.c (AV.b true)) (MO.t 49))⟩, ⟨(some 51), none, (MI.mv (MO.t 50))⟩, ⟨(some 52), (some (51, false)), (MI.mv (MO.t 7))⟩, ⟨(some 53), (some (51, false)), (MI.mv (MO.t 8))⟩, ⟨(some 54), (some (51, false)), (MI.iaddrS 2 (MO.t 52) (MO.t 53))⟩, ⟨(some 55), (some (51, false)), (MI.faddr 1 (MO.t 54))⟩, ⟨(some 56), (some (51, false)), (MI.load (MO.t 55))⟩, ⟨(some 57), (some (51, false)), (MI.bin .gtr (MO.t 56) (MO.c (AV.i .i64 20)))⟩, ⟨(some 58), none, (MI.pick (MO.t 51) (MO.c (AV.b true)) (MO.t 57))⟩]) (MC.cond (MO.t 58) (MC.seq (MC.ops [⟨(some 6), none, (MI.mv (MO.c (AV.b false)))⟩]) MC.ret) MC.skip))) (MC.ops [⟨(some 27), none, (MI.mv (MO.t 8))⟩, ⟨(some 28), none, (MI.bin .add (MO.t 27) (MO.c (AV.i .i64 1)))⟩, ⟨(some 8), none, (MI.mv (MO.t 28))⟩])))))) (MC.seq (MC.ops [⟨(some 6), none, (MI.mv (MO.c (AV.b true)))⟩]) MC.ret))))⟩
theorem FMc_law02_small : compF Go.Proofs.Try.prog (eqsP Go.Proofs.Try.prog) (neutOf [28]) (neutOf [28]) 7 = some FM_law02_small := by kernel_rfl
def G_law02_small : Gam := mkG [(28, S_ref01_Check)] []
theorem sg_law02_small : SoundG Go.Proofs.Try.prog 7 (WF G_law02_small 9 FM_law02_small) := WF_sound (allD_ok (n := G_law02_small.n) (l := [28]) ⟨det_ref01_Check, trivial⟩) mixP (mkG_ok (n := [(28, S_ref01_Check)]) (g := []) ⟨ok_ref01_Check, trivial⟩ trivial) eqsP_ok FMc_law02_small
def S_law02_small : NSpec := fun args _ K => match args with
  | [(.agg [(.i .i64 a), (.i .i64 b), (.i .i64 c), (.i .i64 d), (.i .i64 e), (.i .i64 f)]), (.agg [(.i .i64 p), (.i .i64 q), (.i .i64 r), (.i .i64 s), (.i .i64 t), (.i .i64 u)]), (.agg [(.i .i64 n), (.i .i64 m)])] => ((I64 a ∧ I64 b) ∧ (I64 c ∧ I64 d) ∧ (I64 e ∧ I64 f) ∧ (I64 p ∧ I64 q) ∧ (I64 r ∧ I64 s) ∧ (I64 t ∧ I64 u) ∧ (I64 n ∧ I64 m)) ∧ K (.b (decide (okS a b ∧ okS c d ∧ okS e f ∧ okS p q ∧ okS r s ∧ okS t u ∧ okS n m)))
  | _ => False
theorem det_law02_small : DetN S_law02_small := by
  intro args H K h
  unfold S_law02_small at h
  split at h
  · exact ⟨_, h.2, fun H' K' _ k => ⟨h.1, k⟩⟩
  · exact h.elim

def NF_law02_small (a b c d e f p q r s t u n m : Int) (K : AV → Prop) : Prop :=
 ((I64 a ∧ I64 b) ∧
 (bif ((okE a b) != 0) then K (.b false)
 else (bif decide (1000 < a) then K (.b false)
 else (bif decide (a < (-1000)) then K (.b false)
 else (bif decide (20 < b) then K (.b false)
 else ((I64 c ∧ I64 d) ∧
 (bif ((okE c d) != 0) then K (.b false)
 else (bif decide (1000 < c) then K (.b false)
 else (bif decide (c < (-1000)) then K (.b false)
 else (bif decide (20 < d) then K (.b false)
 else ((I64 e ∧ I64 f) ∧
 (bif ((okE e f) != 0) then K (.b false)
 else (bif decide (1000 < e) then K (.b false)
 else (bif decide (e < (-1000)) then K (.b false)
 else (bif decide (20 < f) then K (.b false)
 else ((I64 p ∧ I64 q) ∧
 (bif ((okE p q) != 0) then K (.b false)
 else (bif decide (1000 < p) then K (.b false)
 else (bif decide (p < (-1000)) then K (.b false)
 else (bif decide (20 < q) then K (.b false)
 else ((I64 r ∧ I64 s) ∧
 (bif ((okE r s) != 0) then K (.b false)
 else (bif decide (1000 < r) then K (.b false)
 else (bif decide (r < (-1000)) then K (.b false)
 else (bif decide (20 < s) then K (.b false)
 else ((I64 t ∧ I64 u) ∧
 (bif ((okE t u) != 0) then K (.b false)
 else (bif decide (1000 < t) then K (.b false)
 else (bif decide (t < (-1000)) then K (.b false)
 else (bif decide (20 < u) then K (.b false)
 else ((I64 n ∧ I64 m) ∧
 (bif ((okE n m) != 0) then K (.b false)
 else (bif decide (1000 < n) then K (.b false)
 else (bif decide (n < (-1000)) then K (.b false)
 else (bif decide (20 < m) then K (.b false)
 else K (.b true))))))))))))))))))))))))))))))))))))
theorem nf_law02_small (a b c d e f p q r s t u n m : Int) (K : AV → Prop) : WF G_law02_small 9 FM_law02_small [(.agg [(.i .i64 a), (.i .i64 b), (.i .i64 c), (.i .i64 d), (.i .i64 e), (.i .i64 f)]), (.agg [(.i .i64 p), (.i .i64 q), (.i .i64 r), (.i .i64 s), (.i .i64 t), (.i .i64 u)]), (.agg [(.i .i64 n), (.i .i64 m)])] [] (fun a _ => K a) = NF_law02_small a b c d e f p q r s t u n m K := by kernel_rfl
theorem key_law02_small (a b c d e f p q r s t u n m : Int) {K : AV → Prop} (hp : (I64 a ∧ I64 b) ∧ (I64 c ∧ I64 d) ∧ (I64 e ∧ I64 f) ∧ (I64 p ∧ I64 q) ∧ (I64 r ∧ I64 s) ∧ (I64 t ∧ I64 u) ∧ (I64 n ∧ I64 m)) (hk : K (.b (decide (okS a b ∧ okS c d ∧ okS e f ∧ okS p q ∧ okS r s ∧ okS t u ∧ okS n m)))) : NF_law02_small a b c d e f p q r s t u n m K := by
  unfold NF_law02_small
  obtain ⟨i1, i2, i3, i4, i5, i6, i7⟩ := hp
  refine small_step i1 (fun h => K_of hk (by simp [h])) (fun h1 => small_step i2 (fun h => K_of hk (by simp [h])) (fun h2 => small_step i3 (fun h => K_of hk (by simp [h])) (fun h3 => small_step i4 (fun h => K_of hk (by simp [h])) (fun h4 => small_step i5 (fun h => K_of hk (by simp [h])) (fun h5 => small_step i6 (fun h => K_of hk (by simp [h])) (fun h6 => small_step i7 (fun h => K_of hk (by simp [h])) (fun h7 => K_of hk ?_)))))))
  simp [h1, h2, h3, h4, h5, h6, h7]
theorem ok_law02_small : SoundN Go.Proofs.Try.prog 7 S_law02_small := by
  refine soundN_of sg_law02_small fun args H K hS => ?_
  unfold S_law02_small at hS
  split at hS
  · rename_i a b c d e f p q r s t u n m
    have hS1 := key_law02_small a b c d e f p q r s t u n m (K := fun a => plainA a = true ∧ K a) hS.1 ⟨by simp [plainA, plainL], hS.2⟩
    refine ⟨by simp [plainA, plainL], ?_⟩
    rw [nf_law02_small a b c d e f p q r s t u n m fun a => plainA a = true ∧ K a]
    exact hS1
  · exact hS.elim

def FM_law02_alive : FM := ⟨92, [(RV.tmp 0)], (MC.seq (MC.ops [⟨(some 0), none, (MI.mv (MO.c (AV.b false)))⟩]) (MC.seq (MC.ops [⟨(some 14), none, (MI.callN 23 [(MO.c (AV.i .i64 1)), (MO.c (AV.i .i64 2)), (MO.c (AV.i .i64 3))])⟩, ⟨(some 15), none, (MI.callN 23 [(MO.c (AV.i .i64 4)), (MO.c (AV.i .i64 5)), (MO.c (AV.i .i64 6))])⟩, ⟨(some 16), none, (MI.callN 12 [(MO.t 14), (MO.t 15)])⟩, ⟨(some 13), none, (MI.mv (MO.t 16))⟩, ⟨(some 17), none, (MI.ext (MO.t 13) 0)⟩, ⟨(some 18), none, (MI.ext (MO.t 13) 1)⟩, ⟨(some 1), none, (MI.alloc 23 [(AV.i .i64 0), (AV.i .i64 0)])⟩, ⟨none, none, (MI.store 2 (MO.t 1) (MO.t 17))⟩, ⟨(some 2), none, (MI.mv (MO.t 18))⟩]) (MC.seq (MC.ops [⟨(some 20), none, (MI.callN 23 [(MO.c (AV.i .i64 1)), (MO.c (AV.i .i64 2)), (MO.c (AV.i .i64 3))])⟩, ⟨(some 21), none, (MI.callN 23 [(MO.c (AV.i .i64 4)), (MO.c (AV.i .i64 5)), (MO.c (AV.i .i64 6))])⟩, ⟨(some 22), none, (MI.callN 10 [(MO.t 20), (MO.t 21)])⟩, ⟨(some 19), none, (MI.mv (MO.t 22))⟩, ⟨(some 23), none, (MI.ext (MO.t 19) 0)⟩, ⟨(some 24), none, (MI.ext (MO.t 19) 1)⟩, ⟨(some 3), none, (MI.alloc 25 [(AV.i .i64 0), (AV.i .i64 0), (AV.i .i64 0), (AV.i .i64 0), (AV.i .i64 0), (AV.i .i64 0)])⟩, ⟨none, none, (MI.store 6 (MO.t 3) (MO.t 23))⟩, ⟨(some 4), none, (MI.mv (MO.t 24))⟩]) (MC.seq (MC.ops [⟨(some 26), none, (MI.build [(AV.i .i64 0), (AV.i .i64 0)] [(0, 1, (MO.c (AV.i .i64 1))), (1, 1, (MO.c (AV.i .i64 2)))])⟩, ⟨(some 27), none, (MI.callN 15 [(MO.c (AV.i .i64 2)), (MO.t 26)])⟩, ⟨(some 25), none, (MI.mv (MO.t 27))⟩, ⟨(some 28), none, (MI.ext (MO.t 25) 0)⟩, ⟨(some 29), none, (MI.ext (MO.t 25) 1)⟩, ⟨(some 5), none, (MI.alloc 37 [(AV.i .i64 0), (AV.i .i64 0), (AV.i .i64 0), (AV.i .i64 0), (AV.i .i64 0), (AV.i .i64 0), (AV.i .i64 0), (AV.i .i64 0), (AV.i .i64 0), (AV.i .i64 0), (AV.i .i64 0), (AV.i .i64 0), (AV.i .i64 0), (AV.i .i64 0), (AV.i .i64 0), (AV.i .i64 0), (AV.i .i64 0), (AV.i .i64 0)])⟩, ⟨none, none, (MI.store 18 (MO.t 5) (MO.t 28))⟩, ⟨(some 6), none, (MI.mv (MO.t 29))⟩]) (MC.seq (MC.dr (SchM.op ⟨(some 31), none, (MI.loadn 18 (MO.t 5))⟩ (SchM.op ⟨(some 32), none, (MI.callN 23 [(MO.c (AV.i .i64 1)), (MO.c (AV.i .i64 0)), (MO.c (AV.i .i64 0))])⟩ (SchM.op ⟨(some 33), none, (MI.callN 17 [(MO.t 31), (MO.t 32)])⟩ (SchM.op ⟨(some 30), none, (MI.mv (MO.t 33))⟩ (SchM.op ⟨(some 34), none, (MI.ext (MO.t 30) 0)⟩ (SchM.op ⟨(some 35), none, (MI.ext (MO.t 30) 1)⟩ (SchM.op ⟨(some 7), none, (MI.alloc 25 [(AV.i .i64 0), (AV.i .i64 0), (AV.i .i64 0), (AV.i .i64 0), (AV.i .i64 0), (AV.i .i64 0)])⟩ (SchM.op ⟨none, none, (MI.store 6 (MO.t 7) (MO.t 34))⟩ (SchM.op ⟨(some 8), none, (MI.mv (MO.t 35))⟩ SchM.done)))))))))) (MC.seq (MC.ops [⟨(some 37), none, (MI.callN 8 [(MO.c (AV.i .i64 1))])⟩, ⟨(some 38), none, (MI.callN 15 [(MO.c (AV.i .i64 2)), (MO.t 37)])⟩, ⟨(some 36), none, (MI.mv (MO.t 38))⟩, ⟨(some 39), none, (MI.ext (MO.t 36) 0)⟩, ⟨(some 40), none, (MI.ext (MO.t 36) 1)⟩, ⟨(some 9), none, (MI.alloc 37 [(AV.i .i64 0), (AV.i .i64 0), (AV.i .i64 0), (AV.i .i64 0), (AV.i .i64 0), (AV.i .i64 0), (AV.i .i64 0), (AV.i .i64 0), (AV.i .i64 0), (AV.i .i64 0), (AV.i .i64 0), (AV.i .i64 0), (AV.i .i64 0), (AV.i .i64 0), (AV.i .i64 0), (AV.i .i64 0), (AV.i .i64 0), (AV.i .i64 0)])⟩, ⟨none, none, (MI.store 18 (MO.t 9) (MO.t 39))⟩, ⟨(some 10), none, (MI.mv (MO.t 40))⟩]) (MC.seq (MC.dr (SchM.op ⟨(some 42), none, (MI.loadn 18 (MO.t 9))⟩ (SchM.op ⟨(some 43), none, (MI.callN 23 [(MO.c (AV.i .i64 1)), (MO.c (AV.i .i64 0)), (MO.c (AV.i .i64 0))])⟩ (SchM.op ⟨(some 44), none, (MI.callN 17 [(MO.t 42), (MO.t 43)])⟩ (SchM.op ⟨(some 41), none, (MI.mv (MO.t 44))⟩ (SchM.op ⟨(some 45), none, (MI.ext (MO.t 41) 0)⟩ (SchM.op ⟨(some 46), none, (MI.ext (MO.t 41) 1)⟩ (SchM.op ⟨(some 11), none, (MI.alloc 25 [(AV.i .i64 0), (AV.i .i64 0), (AV.i .i64 0), (AV.i .i64 0), (AV.i .i64 0), (AV.i .i64 0)])⟩ (SchM.op ⟨none, none, (MI.store 6 (MO.t 11) (MO.t 45))⟩ (SchM.op ⟨(some 12), none, (MI.mv (MO.t 46))⟩ SchM.done)))))))))) (MC.seq (MC.dr (SchM.op ⟨(some 47), none, (MI.mv (MO.t 2))⟩ (SchM.op ⟨(some 48), none, (MI.bin .eql (MO.t 47) (MO.c (AV.i .i64 0)))⟩ (SchM.op ⟨(some 49), none, (MI.mv (MO.t 48))⟩ (SchM.op ⟨(some 50), (some (49, true)), (MI.loadn 2 (MO.t 1))⟩ (SchM.op ⟨(some 51), (some (49, true)), (MI.callN 8 [(MO.c (AV.i .i64 32))])⟩ (SchM.op ⟨(some 52), (some (49, true)), (MI.eqa false [(SK.i .i64), (SK.i .i64)] (MO.t 50) (MO.t 51))⟩ (SchM.op ⟨(some 53), none, (MI.pick (MO.t 49) (MO.t 52) (MO.c (AV.b false)))⟩ (SchM.op ⟨(some 54), none, (MI.mv (MO.t 53))⟩ (SchM.op ⟨(some 55), (some (54, true)), (MI.mv (MO.t 4))⟩ (SchM.op ⟨(some 56), (some (54, true)), (MI.bin .eql (MO.t 55) (MO.c (AV.i .i64 0)))⟩ (SchM.op ⟨(some 57), none, (MI.pick (MO.t 54) (MO.t 56) (MO.c (AV.b false)))⟩ (SchM.op ⟨(some 58), none, (MI.mv (MO.t 57))⟩ (SchM.op ⟨(some 59), (some (58, true)), (MI.loadn 6 (MO.t 3))⟩ (SchM.op ⟨(some 60), (some (58, true)), (MI.callN 23 [(MO.c (AV.i .i64 (-3))), (MO.c (AV.i .i64 6)), (MO.c (AV.i .i64 (-3)))])⟩ (SchM.op ⟨(some 61), (some (58, true)), (MI.eqa false [(SK.i .i64), (SK.i .i64), (SK.i .i64), (SK.i .i64), (SK.i .i64), (SK.i .i64)] (MO.t 59) (MO.t 60))⟩ (SchM.op ⟨(some 62), none, (MI.pick (MO.t 58) (MO.t 61) (MO.c (AV.b false)))⟩ (SchM.op ⟨(some 63), none, (MI.mv (MO.t 62))⟩ (SchM.op ⟨(some 64), (some (63, true)), (MI.mv (MO.t 6))⟩ (SchM.op ⟨(some 65), (some (63, true)), (MI.bin .eql (MO.t 64) (MO.c (AV.i .i64 0)))⟩ (SchM.op ⟨(some 66), none, (MI.pick (MO.t 63) (MO.t 65) (MO.c (AV.b false)))⟩ (SchM.op ⟨(some 67), none, (MI.mv (MO.t 66))⟩ (SchM.op ⟨(some 68), (some (67, true)), (MI.mv (MO.t 8))⟩ (SchM.op ⟨(some 69), (some (67, true)), (MI.bin .eql (MO.t 68) (MO.c (AV.i .i64 0)))⟩ (SchM.op ⟨(some 70), none, (MI.pick (MO.t 67) (MO.t 69) (MO.c (AV.b false)))⟩ (SchM.op ⟨(some 71), none, (MI.mv (MO.t 70))⟩ (SchM.op ⟨(some 72), (some (71, true)), (MI.loadn 6 (MO.t 7))⟩ (SchM.op ⟨(some 73), (some (71, true)), (MI.build [(AV.i .i64 0), (AV.i .i64 0)] [(0, 1, (MO.c (AV.i .i64 3))), (1, 1, (MO.c (AV.i .i64 5)))])⟩ (SchM.op ⟨(some 74), (some (71, true)), (MI.build [(AV.i .i64 0), (AV.i .i64 0)] [(0, 1, (MO.c (AV.i .i64 4))), (1, 1, (MO.c (AV.i .i64 5)))])⟩ (SchM.op ⟨(some 75), (some (71, true)), (MI.callN 8 [(MO.c (AV.i .i64 0))])⟩ (SchM.op ⟨(some 76), (some (71, true)), (MI.build [(AV.i .i64 0), (AV.i .i64 0), (AV.i .i64 0), (AV.i .i64 0), (AV.i .i64 0), (AV.i .i64 0)] [(0, 2, (MO.t 73)), (2, 2, (MO.t 74)), (4, 2, (MO.t 75))])⟩ (SchM.op ⟨(some 77), (some (71, true)), (MI.eqa false [(SK.i .i64), (SK.i .i64), (SK.i .i64), (SK.i .i64), (SK.i .i64), (SK.i .i64)] (MO.t 72) (MO.t 76))⟩ (SchM.op ⟨(some 78), none, (MI.pick (MO.t 71) (MO.t 77) (MO.c (AV.b false)))⟩ (SchM.op ⟨(some 79), none, (MI.mv (MO.t 78))⟩ (SchM.op ⟨(some 80), (some (79, true)), (MI.mv (MO.t 10))⟩ (SchM.op ⟨(some 81), (some (79, true)), (MI.bin .eql (MO.t 80) (MO.c (AV.i .i64 0)))⟩ (SchM.op ⟨(some 82), none, (MI.pick (MO.t 79) (MO.t 81) (MO.c (AV.b false)))⟩ (SchM.op ⟨(some 83), none, (MI.mv (MO.t 82))⟩ (SchM.op ⟨(some 84), (some (83, true)), (MI.mv (MO.t 12))⟩ (SchM.op ⟨(some 85), (some (83, true)), (MI.bin .eql (MO.t 84) (MO.c (AV.i .i64 0)))⟩ (SchM.op ⟨(some 86), none, (MI.pick (MO.t 83) (MO.t 85) (MO.c (AV.b false)))⟩ (SchM.op ⟨(some 87), none, (MI.mv (MO.t 86))⟩ (SchM.op ⟨(some 88), (some (87, true)), (MI.loadn 6 (MO.t 11))⟩ (SchM.op ⟨(some 89), (some (87, true)), (MI.callN 23 [(MO.c (AV.i .i64 0)), (MO.c (AV.i .i64 1)), (MO.c (AV.i .i64 0))])⟩ (SchM.op ⟨(some 90), (some (87, true)), (MI.eqa false [(SK.i .i64), (SK.i .i64), (SK.i .i64), (SK.i .i64), (SK.i .i64), (SK.i .i64)] (MO.t 88) (MO.t 89))⟩ (SchM.op ⟨(some 91), none, (MI.pick (MO.t 87) (MO.t 90) (MO.c (AV.b false)))⟩ (SchM.op ⟨(some 0), none, (MI.mv (MO.t 91))⟩ SchM.done))))))))))))))))))))))))))))))))))))))))))))))) MC.ret))))))))⟩
theorem FMc_law02_alive : compF Go.Proofs.Try.prog (eqsP Go.Proofs.Try.prog) (neutOf [8, 10, 12, 15, 17, 23]) (neutOf [8, 10, 12, 15, 17, 23]) 9 = some FM_law02_alive := by kernel_rfl
def G_law02_alive : Gam := mkG [(8, S_ref01_Of), (10, S_vec_Cross), (12, S_vec_Dot), (15, S_vec_Turn), (17, S_vec_Apply), (23, S_law02_of)] []
theorem sg_law02_alive : SoundG Go.Proofs.Try.prog 9 (WF G_law02_alive 0 FM_law02_alive) := WF_sound (allD_ok (n := G_law02_alive.n) (l := [8, 10, 12, 15, 17, 23]) ⟨det_ref01_Of, det_vec_Cross, det_vec_Dot, det_vec_Turn, det_vec_Apply, det_law02_of, trivial⟩) mixP (mkG_ok (n := [(8, S_ref01_Of), (10, S_vec_Cross), (12, S_vec_Dot), (15, S_vec_Turn), (17, S_vec_Apply), (23, S_law02_of)]) (g := []) ⟨ok_ref01_Of, ok_vec_Cross, ok_vec_Dot, ok_vec_Turn, ok_vec_Apply, ok_law02_of, trivial⟩ trivial) eqsP_ok FMc_law02_alive
def S_law02_alive : NSpec := fun args _ K => match args with
  | [] => K (.b true)
  | _ => False
theorem det_law02_alive : DetN S_law02_alive := by
  intro args H K h
  unfold S_law02_alive at h
  split at h
  · exact ⟨_, h, fun H' K' _ k => k⟩
  · exact h.elim

def NF_law02_alive  (K : AV → Prop) : Prop :=
 ((((I64 (1 : Int) ∧ I64 (1 : Int)) ∧ (I64 (2 : Int) ∧ I64 (1 : Int)) ∧ I64 (3 : Int) ∧ I64 (1 : Int)) ∧ (I64 (4 : Int) ∧ I64 (1 : Int)) ∧ (I64 (5 : Int) ∧ I64 (1 : Int)) ∧ I64 (6 : Int) ∧ I64 (1 : Int)) ∧
 ((((I64 (1 : Int) ∧ I64 (1 : Int)) ∧ (I64 (2 : Int) ∧ I64 (1 : Int)) ∧ I64 (3 : Int) ∧ I64 (1 : Int)) ∧ (I64 (4 : Int) ∧ I64 (1 : Int)) ∧ (I64 (5 : Int) ∧ I64 (1 : Int)) ∧ I64 (6 : Int) ∧ I64 (1 : Int)) ∧
 ((((2 : Int) = 0 ∨ (2 : Int) = 1 ∨ (2 : Int) = 2) ∧ I64 (1 : Int) ∧ I64 (2 : Int)) ∧
 (((((I64 (tN (2 : Int) 0 0 (turnF (1 : Int) (2 : Int))) ∧ I64 (tD (2 : Int) 0 0 (turnF (1 : Int) (2 : Int)))) ∧ (I64 (tN (2 : Int) 0 1 (turnF (1 : Int) (2 : Int))) ∧ I64 (tD (2 : Int) 0 1 (turnF (1 : Int) (2 : Int)))) ∧ I64 (tN (2 : Int) 0 2 (turnF (1 : Int) (2 : Int))) ∧ I64 (tD (2 : Int) 0 2 (turnF (1 : Int) (2 : Int)))) ∧ ((I64 (tN (2 : Int) 1 0 (turnF (1 : Int) (2 : Int))) ∧ I64 (tD (2 : Int) 1 0 (turnF (1 : Int) (2 : Int)))) ∧ (I64 (tN (2 : Int) 1 1 (turnF (1 : Int) (2 : Int))) ∧ I64 (tD (2 : Int) 1 1 (turnF (1 : Int) (2 : Int)))) ∧ I64 (tN (2 : Int) 1 2 (turnF (1 : Int) (2 : Int))) ∧ I64 (tD (2 : Int) 1 2 (turnF (1 : Int) (2 : Int)))) ∧ ((I64 (tN (2 : Int) 2 0 (turnF (1 : Int) (2 : Int))) ∧ I64 (tD (2 : Int) 2 0 (turnF (1 : Int) (2 : Int)))) ∧ (I64 (tN (2 : Int) 2 1 (turnF (1 : Int) (2 : Int))) ∧ I64 (tD (2 : Int) 2 1 (turnF (1 : Int) (2 : Int)))) ∧ I64 (tN (2 : Int) 2 2 (turnF (1 : Int) (2 : Int))) ∧ I64 (tD (2 : Int) 2 2 (turnF (1 : Int) (2 : Int))))) ∧ ((I64 (1 : Int) ∧ I64 (1 : Int)) ∧ (I64 (0 : Int) ∧ I64 (1 : Int)) ∧ I64 (0 : Int) ∧ I64 (1 : Int))) ∧
 ((((2 : Int) = 0 ∨ (2 : Int) = 1 ∨ (2 : Int) = 2) ∧ I64 (1 : Int) ∧ I64 (1 : Int)) ∧
 (((((I64 (tN (2 : Int) 0 0 (turnF (1 : Int) (1 : Int))) ∧ I64 (tD (2 : Int) 0 0 (turnF (1 : Int) (1 : Int)))) ∧ (I64 (tN (2 : Int) 0 1 (turnF (1 : Int) (1 : Int))) ∧ I64 (tD (2 : Int) 0 1 (turnF (1 : Int) (1 : Int)))) ∧ I64 (tN (2 : Int) 0 2 (turnF (1 : Int) (1 : Int))) ∧ I64 (tD (2 : Int) 0 2 (turnF (1 : Int) (1 : Int)))) ∧ ((I64 (tN (2 : Int) 1 0 (turnF (1 : Int) (1 : Int))) ∧ I64 (tD (2 : Int) 1 0 (turnF (1 : Int) (1 : Int)))) ∧ (I64 (tN (2 : Int) 1 1 (turnF (1 : Int) (1 : Int))) ∧ I64 (tD (2 : Int) 1 1 (turnF (1 : Int) (1 : Int)))) ∧ I64 (tN (2 : Int) 1 2 (turnF (1 : Int) (1 : Int))) ∧ I64 (tD (2 : Int) 1 2 (turnF (1 : Int) (1 : Int)))) ∧ ((I64 (tN (2 : Int) 2 0 (turnF (1 : Int) (1 : Int))) ∧ I64 (tD (2 : Int) 2 0 (turnF (1 : Int) (1 : Int)))) ∧ (I64 (tN (2 : Int) 2 1 (turnF (1 : Int) (1 : Int))) ∧ I64 (tD (2 : Int) 2 1 (turnF (1 : Int) (1 : Int)))) ∧ I64 (tN (2 : Int) 2 2 (turnF (1 : Int) (1 : Int))) ∧ I64 (tD (2 : Int) 2 2 (turnF (1 : Int) (1 : Int))))) ∧ ((I64 (1 : Int) ∧ I64 (1 : Int)) ∧ (I64 (0 : Int) ∧ I64 (1 : Int)) ∧ I64 (0 : Int) ∧ I64 (1 : Int))) ∧
 (bif ((dotV (1 : Int) (1 : Int) (2 : Int) (1 : Int) (3 : Int) (1 : Int) (4 : Int) (1 : Int) (5 : Int) (1 : Int) (6 : Int) (1 : Int)).e == 0) then (bif (((dotV (1 : Int) (1 : Int) (2 : Int) (1 : Int) (3 : Int) (1 : Int) (4 : Int) (1 : Int) (5 : Int) (1 : Int) (6 : Int) (1 : Int)).n == (32 : Int)) && (((dotV (1 : Int) (1 : Int) (2 : Int) (1 : Int) (3 : Int) (1 : Int) (4 : Int) (1 : Int) (5 : Int) (1 : Int) (6 : Int) (1 : Int)).d == 1) && true)) then (bif ((crossF (1 : Int) (1 : Int) (2 : Int) (1 : Int) (3 : Int) (1 : Int) (4 : Int) (1 : Int) (5 : Int) (1 : Int) (6 : Int) (1 : Int)).er == 0) then (bif (((crossF (1 : Int) (1 : Int) (2 : Int) (1 : Int) (3 : Int) (1 : Int) (4 : Int) (1 : Int) (5 : Int) (1 : Int) (6 : Int) (1 : Int)).a == (-3 : Int)) && (((crossF (1 : Int) (1 : Int) (2 : Int) (1 : Int) (3 : Int) (1 : Int) (4 : Int) (1 : Int) (5 : Int) (1 : Int) (6 : Int) (1 : Int)).b == 1) && (((crossF (1 : Int) (1 : Int) (2 : Int) (1 : Int) (3 : Int) (1 : Int) (4 : Int) (1 : Int) (5 : Int) (1 : Int) (6 : Int) (1 : Int)).c == (6 : Int)) && (((crossF (1 : Int) (1 : Int) (2 : Int) (1 : Int) (3 : Int) (1 : Int) (4 : Int) (1 : Int) (5 : Int) (1 : Int) (6 : Int) (1 : Int)).d == 1) && (((crossF (1 : Int) (1 : Int) (2 : Int) (1 : Int) (3 : Int) (1 : Int) (4 : Int) (1 : Int) (5 : Int) (1 : Int) (6 : Int) (1 : Int)).e == (-3 : Int)) && (((crossF (1 : Int) (1 : Int) (2 : Int) (1 : Int) (3 : Int) (1 : Int) (4 : Int) (1 : Int) (5 : Int) (1 : Int) (6 : Int) (1 : Int)).f == 1) && true)))))) then (bif ((turnF (1 : Int) (2 : Int)).e == 0) then (bif ((applyF (tN (2 : Int) 0 0 (turnF (1 : Int) (2 : Int))) (tD (2 : Int) 0 0 (turnF (1 : Int) (2 : Int))) (tN (2 : Int) 0 1 (turnF (1 : Int) (2 : Int))) (tD (2 : Int) 0 1 (turnF (1 : Int) (2 : Int))) (tN (2 : Int) 0 2 (turnF (1 : Int) (2 : Int))) (tD (2 : Int) 0 2 (turnF (1 : Int) (2 : Int))) (tN (2 : Int) 1 0 (turnF (1 : Int) (2 : Int))) (tD (2 : Int) 1 0 (turnF (1 : Int) (2 : Int))) (tN (2 : Int) 1 1 (turnF (1 : Int) (2 : Int))) (tD (2 : Int) 1 1 (turnF (1 : Int) (2 : Int))) (tN (2 : Int) 1 2 (turnF (1 : Int) (2 : Int))) (tD (2 : Int) 1 2 (turnF (1 : Int) (2 : Int))) (tN (2 : Int) 2 0 (turnF (1 : Int) (2 : Int))) (tD (2 : Int) 2 0 (turnF (1 : Int) (2 : Int))) (tN (2 : Int) 2 1 (turnF (1 : Int) (2 : Int))) (tD (2 : Int) 2 1 (turnF (1 : Int) (2 : Int))) (tN (2 : Int) 2 2 (turnF (1 : Int) (2 : Int))) (tD (2 : Int) 2 2 (turnF (1 : Int) (2 : Int))) (1 : Int) (1 : Int) (0 : Int) (1 : Int) (0 : Int) (1 : Int)).er == 0) then (bif (((applyF (tN (2 : Int) 0 0 (turnF (1 : Int) (2 : Int))) (tD (2 : Int) 0 0 (turnF (1 : Int) (2 : Int))) (tN (2 : Int) 0 1 (turnF (1 : Int) (2 : Int))) (tD (2 : Int) 0 1 (turnF (1 : Int) (2 : Int))) (tN (2 : Int) 0 2 (turnF (1 : Int) (2 : Int))) (tD (2 : Int) 0 2 (turnF (1 : Int) (2 : Int))) (tN (2 : Int) 1 0 (turnF (1 : Int) (2 : Int))) (tD (2 : Int) 1 0 (turnF (1 : Int) (2 : Int))) (tN (2 : Int) 1 1 (turnF (1 : Int) (2 : Int))) (tD (2 : Int) 1 1 (turnF (1 : Int) (2 : Int))) (tN (2 : Int) 1 2 (turnF (1 : Int) (2 : Int))) (tD (2 : Int) 1 2 (turnF (1 : Int) (2 : Int))) (tN (2 : Int) 2 0 (turnF (1 : Int) (2 : Int))) (tD (2 : Int) 2 0 (turnF (1 : Int) (2 : Int))) (tN (2 : Int) 2 1 (turnF (1 : Int) (2 : Int))) (tD (2 : Int) 2 1 (turnF (1 : Int) (2 : Int))) (tN (2 : Int) 2 2 (turnF (1 : Int) (2 : Int))) (tD (2 : Int) 2 2 (turnF (1 : Int) (2 : Int))) (1 : Int) (1 : Int) (0 : Int) (1 : Int) (0 : Int) (1 : Int)).a == 3) && (((applyF (tN (2 : Int) 0 0 (turnF (1 : Int) (2 : Int))) (tD (2 : Int) 0 0 (turnF (1 : Int) (2 : Int))) (tN (2 : Int) 0 1 (turnF (1 : Int) (2 : Int))) (tD (2 : Int) 0 1 (turnF (1 : Int) (2 : Int))) (tN (2 : Int) 0 2 (turnF (1 : Int) (2 : Int))) (tD (2 : Int) 0 2 (turnF (1 : Int) (2 : Int))) (tN (2 : Int) 1 0 (turnF (1 : Int) (2 : Int))) (tD (2 : Int) 1 0 (turnF (1 : Int) (2 : Int))) (tN (2 : Int) 1 1 (turnF (1 : Int) (2 : Int))) (tD (2 : Int) 1 1 (turnF (1 : Int) (2 : Int))) (tN (2 : Int) 1 2 (turnF (1 : Int) (2 : Int))) (tD (2 : Int) 1 2 (turnF (1 : Int) (2 : Int))) (tN (2 : Int) 2 0 (turnF (1 : Int) (2 : Int))) (tD (2 : Int) 2 0 (turnF (1 : Int) (2 : Int))) (tN (2 : Int) 2 1 (turnF (1 : Int) (2 : Int))) (tD (2 : Int) 2 1 (turnF (1 : Int) (2 : Int))) (tN (2 : Int) 2 2 (turnF (1 : Int) (2 : Int))) (tD (2 : Int) 2 2 (turnF (1 : Int) (2 : Int))) (1 : Int) (1 : Int) (0 : Int) (1 : Int) (0 : Int) (1 : Int)).b == 5) && (((applyF (tN (2 : Int) 0 0 (turnF (1 : Int) (2 : Int))) (tD (2 : Int) 0 0 (turnF (1 : Int) (2 : Int))) (tN (2 : Int) 0 1 (turnF (1 : Int) (2 : Int))) (tD (2 : Int) 0 1 (turnF (1 : Int) (2 : Int))) (tN (2 : Int) 0 2 (turnF (1 : Int) (2 : Int))) (tD (2 : Int) 0 2 (turnF (1 : Int) (2 : Int))) (tN (2 : Int) 1 0 (turnF (1 : Int) (2 : Int))) (tD (2 : Int) 1 0 (turnF (1 : Int) (2 : Int))) (tN (2 : Int) 1 1 (turnF (1 : Int) (2 : Int))) (tD (2 : Int) 1 1 (turnF (1 : Int) (2 : Int))) (tN (2 : Int) 1 2 (turnF (1 : Int) (2 : Int))) (tD (2 : Int) 1 2 (turnF (1 : Int) (2 : Int))) (tN (2 : Int) 2 0 (turnF (1 : Int) (2 : Int))) (tD (2 : Int) 2 0 (turnF (1 : Int) (2 : Int))) (tN (2 : Int) 2 1 (turnF (1 : Int) (2 : Int))) (tD (2 : Int) 2 1 (turnF (1 : Int) (2 : Int))) (tN (2 : Int) 2 2 (turnF (1 : Int) (2 : Int))) (tD (2 : Int) 2 2 (turnF (1 : Int) (2 : Int))) (1 : Int) (1 : Int) (0 : Int) (1 : Int) (0 : Int) (1 : Int)).c == 4) && (((applyF (tN (2 : Int) 0 0 (turnF (1 : Int) (2 : Int))) (tD (2 : Int) 0 0 (turnF (1 : Int) (2 : Int))) (tN (2 : Int) 0 1 (turnF (1 : Int) (2 : Int))) (tD (2 : Int) 0 1 (turnF (1 : Int) (2 : Int))) (tN (2 : Int) 0 2 (turnF (1 : Int) (2 : Int))) (tD (2 : Int) 0 2 (turnF (1 : Int) (2 : Int))) (tN (2 : Int) 1 0 (turnF (1 : Int) (2 : Int))) (tD (2 : Int) 1 0 (turnF (1 : Int) (2 : Int))) (tN (2 : Int) 1 1 (turnF (1 : Int) (2 : Int))) (tD (2 : Int) 1 1 (turnF (1 : Int) (2 : Int))) (tN (2 : Int) 1 2 (turnF (1 : Int) (2 : Int))) (tD (2 : Int) 1 2 (turnF (1 : Int) (2 : Int))) (tN (2 : Int) 2 0 (turnF (1 : Int) (2 : Int))) (tD (2 : Int) 2 0 (turnF (1 : Int) (2 : Int))) (tN (2 : Int) 2 1 (turnF (1 : Int) (2 : Int))) (tD (2 : Int) 2 1 (turnF (1 : Int) (2 : Int))) (tN (2 : Int) 2 2 (turnF (1 : Int) (2 : Int))) (tD (2 : Int) 2 2 (turnF (1 : Int) (2 : Int))) (1 : Int) (1 : Int) (0 : Int) (1 : Int) (0 : Int) (1 : Int)).d == 5) && (((applyF (tN (2 : Int) 0 0 (turnF (1 : Int) (2 : Int))) (tD (2 : Int) 0 0 (turnF (1 : Int) (2 : Int))) (tN (2 : Int) 0 1 (turnF (1 : Int) (2 : Int))) (tD (2 : Int) 0 1 (turnF (1 : Int) (2 : Int))) (tN (2 : Int) 0 2 (turnF (1 : Int) (2 : Int))) (tD (2 : Int) 0 2 (turnF (1 : Int) (2 : Int))) (tN (2 : Int) 1 0 (turnF (1 : Int) (2 : Int))) (tD (2 : Int) 1 0 (turnF (1 : Int) (2 : Int))) (tN (2 : Int) 1 1 (turnF (1 : Int) (2 : Int))) (tD (2 : Int) 1 1 (turnF (1 : Int) (2 : Int))) (tN (2 : Int) 1 2 (turnF (1 : Int) (2 : Int))) (tD (2 : Int) 1 2 (turnF (1 : Int) (2 : Int))) (tN (2 : Int) 2 0 (turnF (1 : Int) (2 : Int))) (tD (2 : Int) 2 0 (turnF (1 : Int) (2 : Int))) (tN (2 : Int) 2 1 (turnF (1 : Int) (2 : Int))) (tD (2 : Int) 2 1 (turnF (1 : Int) (2 : Int))) (tN (2 : Int) 2 2 (turnF (1 : Int) (2 : Int))) (tD (2 : Int) 2 2 (turnF (1 : Int) (2 : Int))) (1 : Int) (1 : Int) (0 : Int) (1 : Int) (0 : Int) (1 : Int)).e == (0 : Int)) && (((applyF (tN (2 : Int) 0 0 (turnF (1 : Int) (2 : Int))) (tD (2 : Int) 0 0 (turnF (1 : Int) (2 : Int))) (tN (2 : Int) 0 1 (turnF (1 : Int) (2 : Int))) (tD (2 : Int) 0 1 (turnF (1 : Int) (2 : Int))) (tN (2 : Int) 0 2 (turnF (1 : Int) (2 : Int))) (tD (2 : Int) 0 2 (turnF (1 : Int) (2 : Int))) (tN (2 : Int) 1 0 (turnF (1 : Int) (2 : Int))) (tD (2 : Int) 1 0 (turnF (1 : Int) (2 : Int))) (tN (2 : Int) 1 1 (turnF (1 : Int) (2 : Int))) (tD (2 : Int) 1 1 (turnF (1 : Int) (2 : Int))) (tN (2 : Int) 1 2 (turnF (1 : Int) (2 : Int))) (tD (2 : Int) 1 2 (turnF (1 : Int) (2 : Int))) (tN (2 : Int) 2 0 (turnF (1 : Int) (2 : Int))) (tD (2 : Int) 2 0 (turnF (1 : Int) (2 : Int))) (tN (2 : Int) 2 1 (turnF (1 : Int) (2 : Int))) (tD (2 : Int) 2 1 (turnF (1 : Int) (2 : Int))) (tN (2 : Int) 2 2 (turnF (1 : Int) (2 : Int))) (tD (2 : Int) 2 2 (turnF (1 : Int) (2 : Int))) (1 : Int) (1 : Int) (0 : Int) (1 : Int) (0 : Int) (1 : Int)).f == 1) && true)))))) then (bif ((turnF (1 : Int) (1 : Int)).e == 0) then (bif ((applyF (tN (2 : Int) 0 0 (turnF (1 : Int) (1 : Int))) (tD (2 : Int) 0 0 (turnF (1 : Int) (1 : Int))) (tN (2 : Int) 0 1 (turnF (1 : Int) (1 : Int))) (tD (2 : Int) 0 1 (turnF (1 : Int) (1 : Int))) (tN (2 : Int) 0 2 (turnF (1 : Int) (1 : Int))) (tD (2 : Int) 0 2 (turnF (1 : Int) (1 : Int))) (tN (2 : Int) 1 0 (turnF (1 : Int) (1 : Int))) (tD (2 : Int) 1 0 (turnF (1 : Int) (1 : Int))) (tN (2 : Int) 1 1 (turnF (1 : Int) (1 : Int))) (tD (2 : Int) 1 1 (turnF (1 : Int) (1 : Int))) (tN (2 : Int) 1 2 (turnF (1 : Int) (1 : Int))) (tD (2 : Int) 1 2 (turnF (1 : Int) (1 : Int))) (tN (2 : Int) 2 0 (turnF (1 : Int) (1 : Int))) (tD (2 : Int) 2 0 (turnF (1 : Int) (1 : Int))) (tN (2 : Int) 2 1 (turnF (1 : Int) (1 : Int))) (tD (2 : Int) 2 1 (turnF (1 : Int) (1 : Int))) (tN (2 : Int) 2 2 (turnF (1 : Int) (1 : Int))) (tD (2 : Int) 2 2 (turnF (1 : Int) (1 : Int))) (1 : Int) (1 : Int) (0 : Int) (1 : Int) (0 : Int) (1 : Int)).er == 0) then K (.b (((applyF (tN (2 : Int) 0 0 (turnF (1 : Int) (1 : Int))) (tD (2 : Int) 0 0 (turnF (1 : Int) (1 : Int))) (tN (2 : Int) 0 1 (turnF (1 : Int) (1 : Int))) (tD (2 : Int) 0 1 (turnF (1 : Int) (1 : Int))) (tN (2 : Int) 0 2 (turnF (1 : Int) (1 : Int))) (tD (2 : Int) 0 2 (turnF (1 : Int) (1 : Int))) (tN (2 : Int) 1 0 (turnF (1 : Int) (1 : Int))) (tD (2 : Int) 1 0 (turnF (1 : Int) (1 : Int))) (tN (2 : Int) 1 1 (turnF (1 : Int) (1 : Int))) (tD (2 : Int) 1 1 (turnF (1 : Int) (1 : Int))) (tN (2 : Int) 1 2 (turnF (1 : Int) (1 : Int))) (tD (2 : Int) 1 2 (turnF (1 : Int) (1 : Int))) (tN (2 : Int) 2 0 (turnF (1 : Int) (1 : Int))) (tD (2 : Int) 2 0 (turnF (1 : Int) (1 : Int))) (tN (2 : Int) 2 1 (turnF (1 : Int) (1 : Int))) (tD (2 : Int) 2 1 (turnF (1 : Int) (1 : Int))) (tN (2 : Int) 2 2 (turnF (1 : Int) (1 : Int))) (tD (2 : Int) 2 2 (turnF (1 : Int) (1 : Int))) (1 : Int) (1 : Int) (0 : Int) (1 : Int) (0 : Int) (1 : Int)).a == (0 : Int)) && (((applyF (tN (2 : Int) 0 0 (turnF (1 : Int) (1 : Int))) (tD (2 : Int) 0 0 (turnF (1 : Int) (1 : Int))) (tN (2 : Int) 0 1 (turnF (1 : Int) (1 : Int))) (tD (2 : Int) 0 1 (turnF (1 : Int) (1 : Int))) (tN (2 : Int) 0 2 (turnF (1 : Int) (1 : Int))) (tD (2 : Int) 0 2 (turnF (1 : Int) (1 : Int))) (tN (2 : Int) 1 0 (turnF (1 : Int) (1 : Int))) (tD (2 : Int) 1 0 (turnF (1 : Int) (1 : Int))) (tN (2 : Int) 1 1 (turnF (1 : Int) (1 : Int))) (tD (2 : Int) 1 1 (turnF (1 : Int) (1 : Int))) (tN (2 : Int) 1 2 (turnF (1 : Int) (1 : Int))) (tD (2 : Int) 1 2 (turnF (1 : Int) (1 : Int))) (tN (2 : Int) 2 0 (turnF (1 : Int) (1 : Int))) (tD (2 : Int) 2 0 (turnF (1 : Int) (1 : Int))) (tN (2 : Int) 2 1 (turnF (1 : Int) (1 : Int))) (tD (2 : Int) 2 1 (turnF (1 : Int) (1 : Int))) (tN (2 : Int) 2 2 (turnF (1 : Int) (1 : Int))) (tD (2 : Int) 2 2 (turnF (1 : Int) (1 : Int))) (1 : Int) (1 : Int) (0 : Int) (1 : Int) (0 : Int) (1 : Int)).b == 1) && (((applyF (tN (2 : Int) 0 0 (turnF (1 : Int) (1 : Int))) (tD (2 : Int) 0 0 (turnF (1 : Int) (1 : Int))) (tN (2 : Int) 0 1 (turnF (1 : Int) (1 : Int))) (tD (2 : Int) 0 1 (turnF (1 : Int) (1 : Int))) (tN (2 : Int) 0 2 (turnF (1 : Int) (1 : Int))) (tD (2 : Int) 0 2 (turnF (1 : Int) (1 : Int))) (tN (2 : Int) 1 0 (turnF (1 : Int) (1 : Int))) (tD (2 : Int) 1 0 (turnF (1 : Int) (1 : Int))) (tN (2 : Int) 1 1 (turnF (1 : Int) (1 : Int))) (tD (2 : Int) 1 1 (turnF (1 : Int) (1 : Int))) (tN (2 : Int) 1 2 (turnF (1 : Int) (1 : Int))) (tD (2 : Int) 1 2 (turnF (1 : Int) (1 : Int))) (tN (2 : Int) 2 0 (turnF (1 : Int) (1 : Int))) (tD (2 : Int) 2 0 (turnF (1 : Int) (1 : Int))) (tN (2 : Int) 2 1 (turnF (1 : Int) (1 : Int))) (tD (2 : Int) 2 1 (turnF (1 : Int) (1 : Int))) (tN (2 : Int) 2 2 (turnF (1 : Int) (1 : Int))) (tD (2 : Int) 2 2 (turnF (1 : Int) (1 : Int))) (1 : Int) (1 : Int) (0 : Int) (1 : Int) (0 : Int) (1 : Int)).c == (1 : Int)) && (((applyF (tN (2 : Int) 0 0 (turnF (1 : Int) (1 : Int))) (tD (2 : Int) 0 0 (turnF (1 : Int) (1 : Int))) (tN (2 : Int) 0 1 (turnF (1 : Int) (1 : Int))) (tD (2 : Int) 0 1 (turnF (1 : Int) (1 : Int))) (tN (2 : Int) 0 2 (turnF (1 : Int) (1 : Int))) (tD (2 : Int) 0 2 (turnF (1 : Int) (1 : Int))) (tN (2 : Int) 1 0 (turnF (1 : Int) (1 : Int))) (tD (2 : Int) 1 0 (turnF (1 : Int) (1 : Int))) (tN (2 : Int) 1 1 (turnF (1 : Int) (1 : Int))) (tD (2 : Int) 1 1 (turnF (1 : Int) (1 : Int))) (tN (2 : Int) 1 2 (turnF (1 : Int) (1 : Int))) (tD (2 : Int) 1 2 (turnF (1 : Int) (1 : Int))) (tN (2 : Int) 2 0 (turnF (1 : Int) (1 : Int))) (tD (2 : Int) 2 0 (turnF (1 : Int) (1 : Int))) (tN (2 : Int) 2 1 (turnF (1 : Int) (1 : Int))) (tD (2 : Int) 2 1 (turnF (1 : Int) (1 : Int))) (tN (2 : Int) 2 2 (turnF (1 : Int) (1 : Int))) (tD (2 : Int) 2 2 (turnF (1 : Int) (1 : Int))) (1 : Int) (1 : Int) (0 : Int) (1 : Int) (0 : Int) (1 : Int)).d == 1) && (((applyF (tN (2 : Int) 0 0 (turnF (1 : Int) (1 : Int))) (tD (2 : Int) 0 0 (turnF (1 : Int) (1 : Int))) (tN (2 : Int) 0 1 (turnF (1 : Int) (1 : Int))) (tD (2 : Int) 0 1 (turnF (1 : Int) (1 : Int))) (tN (2 : Int) 0 2 (turnF (1 : Int) (1 : Int))) (tD (2 : Int) 0 2 (turnF (1 : Int) (1 : Int))) (tN (2 : Int) 1 0 (turnF (1 : Int) (1 : Int))) (tD (2 : Int) 1 0 (turnF (1 : Int) (1 : Int))) (tN (2 : Int) 1 1 (turnF (1 : Int) (1 : Int))) (tD (2 : Int) 1 1 (turnF (1 : Int) (1 : Int))) (tN (2 : Int) 1 2 (turnF (1 : Int) (1 : Int))) (tD (2 : Int) 1 2 (turnF (1 : Int) (1 : Int))) (tN (2 : Int) 2 0 (turnF (1 : Int) (1 : Int))) (tD (2 : Int) 2 0 (turnF (1 : Int) (1 : Int))) (tN (2 : Int) 2 1 (turnF (1 : Int) (1 : Int))) (tD (2 : Int) 2 1 (turnF (1 : Int) (1 : Int))) (tN (2 : Int) 2 2 (turnF (1 : Int) (1 : Int))) (tD (2 : Int) 2 2 (turnF (1 : Int) (1 : Int))) (1 : Int) (1 : Int) (0 : Int) (1 : Int) (0 : Int) (1 : Int)).e == (0 : Int)) && (((applyF (tN (2 : Int) 0 0 (turnF (1 : Int) (1 : Int))) (tD (2 : Int) 0 0 (turnF (1 : Int) (1 : Int))) (tN (2 : Int) 0 1 (turnF (1 : Int) (1 : Int))) (tD (2 : Int) 0 1 (turnF (1 : Int) (1 : Int))) (tN (2 : Int) 0 2 (turnF (1 : Int) (1 : Int))) (tD (2 : Int) 0 2 (turnF (1 : Int) (1 : Int))) (tN (2 : Int) 1 0 (turnF (1 : Int) (1 : Int))) (tD (2 : Int) 1 0 (turnF (1 : Int) (1 : Int))) (tN (2 : Int) 1 1 (turnF (1 : Int) (1 : Int))) (tD (2 : Int) 1 1 (turnF (1 : Int) (1 : Int))) (tN (2 : Int) 1 2 (turnF (1 : Int) (1 : Int))) (tD (2 : Int) 1 2 (turnF (1 : Int) (1 : Int))) (tN (2 : Int) 2 0 (turnF (1 : Int) (1 : Int))) (tD (2 : Int) 2 0 (turnF (1 : Int) (1 : Int))) (tN (2 : Int) 2 1 (turnF (1 : Int) (1 : Int))) (tD (2 : Int) 2 1 (turnF (1 : Int) (1 : Int))) (tN (2 : Int) 2 2 (turnF (1 : Int) (1 : Int))) (tD (2 : Int) 2 2 (turnF (1 : Int) (1 : Int))) (1 : Int) (1 : Int) (0 : Int) (1 : Int) (0 : Int) (1 : Int)).f == 1) && true)))))))
 else K (.b false))
 else K (.b false))
 else K (.b false))
 else K (.b false))
 else K (.b false))
 else K (.b false))
 else K (.b false))
 else K (.b false))
 else K (.b false))))))))
theorem nf_law02_alive  (K : AV → Prop) : WF G_law02_alive 0 FM_law02_alive [] [] (fun a _ => K a) = NF_law02_alive  K := by kernel_rfl
theorem key_law02_alive  {K : AV → Prop} (hk : K (.b true)) : NF_law02_alive  K := by
  unfold NF_law02_alive
  have e1 : dotV 1 1 2 1 3 1 4 1 5 1 6 1 = ⟨32, 1, 0⟩ := by kernel_rfl
  have e2 : crossF 1 1 2 1 3 1 4 1 5 1 6 1 = ⟨-3, 1, 6, 1, -3, 1, 0⟩ := by kernel_rfl
  have e3 : turnF 1 2 = ⟨3, 5, 4, 5, 1, 0⟩ := by kernel_rfl
  have e4 : applyF 3 5 (-4) 5 0 1 4 5 3 5 0 1 0 1 0 1 1 1 1 1 0 1 0 1 = ⟨3, 5, 4, 5, 0, 1, 0⟩ := by kernel_rfl
  have e5 : turnF 1 1 = ⟨0, 1, 1, 1, 1, 0⟩ := by kernel_rfl
  have e6 : applyF 0 1 (-1) 1 0 1 1 1 0 1 0 1 0 1 0 1 1 1 1 1 0 1 0 1 = ⟨0, 1, 1, 1, 0, 1, 0⟩ := by kernel_rfl
  have w1 : i64.wrap (0 - 4) = -4 := by decide +kernel
  have w2 : i64.wrap (0 - 1) = -1 := by decide +kernel
  have w3 : i64.wrap (-4) = -4 := by decide +kernel
  have w4 : i64.wrap (-1) = -1 := by decide +kernel
  simp only [e1, e2, e3, e5, tN, tD]
  simp [w1, w2, w3, w4, e4, e6, I64]
  simpa using hk
theorem ok_law02_alive : SoundN Go.Proofs.Try.prog 9 S_law02_alive := by
  refine soundN_of sg_law02_alive fun args H K hS => ?_
  unfold S_law02_alive at hS
  split at hS
  · skip
    have hS1 := key_law02_alive  (K := fun a => plainA a = true ∧ K a) ⟨by simp [plainA, plainL], hS⟩
    refine ⟨by simp [plainA, plainL], ?_⟩
    rw [nf_law02_alive  fun a => plainA a = true ∧ K a]
    exact hS1
  · exact hS.elim

end Go.Proofs.Ytpfmnmcpffajeaa.V
