/-
  Contracts, printed by a program of this session (wip/tool/sym.py) from the unit text frm: what each function comes to, and its proof.
-/
import Derived.Test.YtpfmnmcpffajeaaGcdt
import Derived.Test.YtpfmnmcpffajeaaProg
import Derived.Lib.Mul64
set_option linter.unusedVariables false
set_option linter.unusedSimpArgs false
set_option maxRecDepth 100000
namespace Go.Proofs.Ytpfmnmcpffajeaa.V
open Go Go.RowKit
open Go.IntKind (u64 i64 u8 i32 u32)


/-! ### Fractions -/
/-- A valid fraction. -/
def okF (n d : Int) : Prop := (1 ≤ d ∧ d ≤ 1000000000000000000 ∧ -1000000000000000000 ≤ n ∧ n ≤ 1000000000000000000) ∧ Int.gcd n d = 1
instance (n d : Int) : Decidable (okF n d) := by unfold okF; infer_instance
def okE (n d : Int) : Int := if okF n d then 0 else 8
def okE2 (a b c d : Int) : Int := if okF a b ∧ okF c d then 0 else 8
theorem okE_cases (n d : Int) : (okF n d ∧ okE n d = 0) ∨ (¬ okF n d ∧ okE n d = 8) := by
  unfold okE; split
  · exact .inl ⟨by assumption, rfl⟩
  · exact .inr ⟨by assumption, rfl⟩
/-- A fraction with an error. -/
structure FR where
  n : Int
  d : Int
  e : Int
  deriving DecidableEq
def rat (n d : Int) : Rat := (n : Rat) / (d : Rat)
def inR (n d : Int) : Prop := -1000000000000000000 ≤ n ∧ n ≤ 1000000000000000000 ∧ d ≤ 1000000000000000000
instance (n d : Int) : Decidable (inR n d) := by unfold inR; infer_instance
def ofRat (q : Rat) : FR := if inR q.num q.den then ⟨q.num, q.den, 0⟩ else ⟨0, 0, 16⟩
def makeF (n d : Int) : FR := if d = 0 then ⟨0, 0, 18⟩ else ofRat (rat n d)
theorem rat_lowest {n d : Int} (hd : 0 < d) (hg : Int.gcd n d = 1) : (rat n d).num = n ∧ ((rat n d).den : Int) = d := by
  obtain ⟨k, rfl⟩ : ∃ k : Nat, d = (k : Int) := ⟨d.toNat, by omega⟩
  have hk : k ≠ 0 := by omega
  have hc : n.natAbs.gcd k = 1 := by simpa [Int.gcd] using hg
  have e : rat n k = ⟨n, k, hk, hc⟩ := by
    unfold rat
    have := Rat.mk_eq_divInt (num := n) (den := k) (nz := hk) (c := hc)
    rw [this, Rat.divInt_eq_div]
  rw [e]; simp
theorem ofRat_lowest {n d : Int} (hd : 0 < d) (hg : Int.gcd n d = 1) : ofRat (rat n d) = if inR n d then ⟨n, d, 0⟩ else ⟨0, 0, 16⟩ := by
  obtain ⟨h1, h2⟩ := rat_lowest hd hg
  unfold ofRat
  rw [h1, h2]
theorem rat_num_den (q : Rat) : rat q.num q.den = q := by
  have h1 := rat_lowest (n := q.num) (d := q.den) (by have := q.den_nz; omega) (by simpa [Int.gcd] using q.reduced)
  exact Rat.ext h1.1 (by have := h1.2; omega)
theorem rat_mul_div {n d g : Int} (hg : g ≠ 0) : rat (g * n) (g * d) = rat n d := by
  unfold rat
  have h : (g : Rat) ≠ 0 := by
    intro h
    exact hg (by exact_mod_cast h)
  rw [Rat.intCast_mul, Rat.intCast_mul]
  by_cases hd : (d : Rat) = 0
  · rw [hd]; simp [Rat.div_def]
  · grind
/-- Numerator and denominator divided by their greatest divisor. -/
theorem gcd_lowest {n d : Int} (hd : d ≠ 0) : ∃ g p q : Int, (g = (Int.gcd n d : Nat)) ∧ 0 < g ∧ n = g * p ∧ d = g * q ∧ Int.gcd p q = 1 := by
  have hg : 0 < Int.gcd n d := Nat.pos_of_ne_zero fun h => hd (Int.gcd_eq_zero_iff.1 h).2
  refine ⟨(Int.gcd n d : Nat), n / (Int.gcd n d : Nat), d / (Int.gcd n d : Nat), rfl, by omega, ?_, ?_, ?_⟩
  · exact (Int.mul_ediv_cancel' (Int.gcd_dvd_left n d)).symm
  · exact (Int.mul_ediv_cancel' (Int.gcd_dvd_right n d)).symm
  · exact Int.gcd_ediv_gcd_ediv_gcd hg
/-- What the code's last step makes of a sign and two numbers. -/
def madeF (m : Bool) (n d : Int) : FR := if n ≤ 1000000000000000000 ∧ d ≤ 1000000000000000000 then ⟨if m then -n else n, d, 0⟩ else ⟨0, 0, 16⟩
theorem madeF_lowest {m : Bool} {n d : Int} (hn : 0 ≤ n) (hd : 0 < d) (hg : Int.gcd n d = 1) : madeF m n d = ofRat (rat (if m then -n else n) d) := by
  rw [ofRat_lowest hd (by cases m <;> simp [hg])]
  have key : ∀ x : Int, (x = n ∨ x = -n) → (inR x d ↔ n ≤ 1000000000000000000 ∧ d ≤ 1000000000000000000) := by
    intro x hx; unfold inR; omega
  have k := key (if m then -n else n) (by cases m <;> simp)
  unfold madeF
  by_cases h : n ≤ 1000000000000000000 ∧ d ≤ 1000000000000000000
  · rw [if_pos h, if_pos (k.2 h)]
  · rw [if_neg h, if_neg (mt k.1 h)]
theorem makeF_neg {n d : Int} : ofRat (rat (-n) (-d)) = ofRat (rat n d) := by
  have := rat_mul_div (n := n) (d := d) (g := -1) (by omega)
  rw [show -1 * n = -n by omega, show -1 * d = -d by omega] at this
  rw [this]
/-- Make's way to the lowest terms. -/
theorem make_way {n d : Int} (hd : d ≠ 0) : madeF (!(decide (n < 0) == decide (d < 0))) ((n.natAbs : Int) / (Int.gcd n d : Nat)) ((d.natAbs : Int) / (Int.gcd n d : Nat)) = ofRat (rat n d) := by
  obtain ⟨g, p, q, hg, h0, hn, hq, h1⟩ := gcd_lowest (n := n) hd
  rw [← hg]
  have e1 : (n.natAbs : Int) / g = p.natAbs := by
    rw [hn, Int.natAbs_mul, Int.natCast_mul, show (g.natAbs : Int) = g by omega]
    exact Int.mul_ediv_cancel_left _ (by omega)
  have e2 : (d.natAbs : Int) / g = q.natAbs := by
    rw [hq, Int.natAbs_mul, Int.natCast_mul, show (g.natAbs : Int) = g by omega]
    exact Int.mul_ediv_cancel_left _ (by omega)
  have hq0 : q ≠ 0 := by rintro rfl; simp at hq; exact hd hq
  rw [e1, e2, madeF_lowest (by omega) (by omega) (by simpa [Int.gcd] using h1)]
  have s1 : (n < 0) ↔ p < 0 := by
    rw [hn]
    constructor
    · intro h; exact Int.lt_of_mul_lt_mul_left (a := g) (by simpa using h) (by omega)
    · intro h; exact Int.mul_neg_of_pos_of_neg h0 h
  have s2 : (d < 0) ↔ q < 0 := by
    rw [hq]
    constructor
    · intro h; exact Int.lt_of_mul_lt_mul_left (a := g) (by simpa using h) (by omega)
    · intro h; exact Int.mul_neg_of_pos_of_neg h0 h
  have e3 : rat n d = rat p q := by rw [hn, hq, rat_mul_div (by omega)]
  have d1 : decide (n < 0) = decide (p < 0) := decide_eq_decide.2 s1
  have d2 : decide (d < 0) = decide (q < 0) := decide_eq_decide.2 s2
  rw [e3, d1, d2]
  by_cases a : p < 0 <;> by_cases b : q < 0
  · simp only [a, b, decide_true, beq_self_eq_true, Bool.not_true, Bool.false_eq_true, if_false]
    rw [show ((p.natAbs : Nat) : Int) = -p by omega, show ((q.natAbs : Nat) : Int) = -q by omega, makeF_neg]
  · simp only [a, b, decide_true, decide_false, if_true, show ((true == false) = false) from rfl, Bool.not_false]
    rw [show (-((p.natAbs : Nat) : Int)) = p by omega, show ((q.natAbs : Nat) : Int) = q by omega]
  · simp only [a, b, decide_true, decide_false, if_true, show ((false == true) = false) from rfl, Bool.not_false]
    rw [show (-((p.natAbs : Nat) : Int)) = -p by omega, show ((q.natAbs : Nat) : Int) = -q by omega, makeF_neg]
  · simp only [a, b, decide_false, beq_self_eq_true, Bool.not_true, Bool.false_eq_true, if_false]
    rw [show ((p.natAbs : Nat) : Int) = p by omega, show ((q.natAbs : Nat) : Int) = q by omega]
structure IR where
  v : Int
  e : Int
def floorF (n d : Int) : IR := if okF n d then ⟨n / d, 0⟩ else ⟨0, 8⟩
/-- Bits taken off. -/
theorem bitI_low (x : Int) (k : Nat) (hk : k ≤ 64) (hx : 0 ≤ x) (h2 : x < 18446744073709551616) : bitI .and .u64 x (2 ^ k - 1) = x % 2 ^ k := by
  obtain ⟨n, rfl⟩ := Int.eq_ofNat_of_zero_le hx
  have e : (2 : Int) ^ k - 1 = ((2 ^ k - 1 : Nat) : Int) := by
    have : 0 < 2 ^ k := Nat.two_pow_pos k
    rw [Int.ofNat_sub this]; simp
  rw [e]
  show u64.wrap ((BitVec.ofInt 64 (n : Int) &&& BitVec.ofInt 64 ((2 ^ k - 1 : Nat) : Int)).toNat : Int) = _
  rw [BitVec.ofInt_natCast, BitVec.ofInt_natCast, BitVec.toNat_and, BitVec.toNat_ofNat, BitVec.toNat_ofNat]
  have hn : n < 18446744073709551616 := by omega
  have hp : 2 ^ k ≤ 2 ^ 64 := Nat.pow_le_pow_right (by omega) hk
  have hp0 : 0 < 2 ^ k := Nat.two_pow_pos k
  rw [Nat.mod_eq_of_lt (show n < 2 ^ 64 by omega), Nat.mod_eq_of_lt (show 2 ^ k - 1 < 2 ^ 64 by omega), Nat.and_two_pow_sub_one_eq_mod]
  have hm := Nat.mod_lt n hp0
  have : n % 2 ^ k ≤ n := Nat.mod_le _ _
  rw [wrap_u64 (by omega) (by omega)]
  simp
theorem fdiv_pos {x d : Int} (hd : 0 ≤ d) : Int.fdiv x d = x / d := Int.fdiv_eq_ediv_of_nonneg x hd
theorem and32 {x : Int} (hx : 0 ≤ x) (h2 : x < 18446744073709551616) : bitI .and .u64 x 4294967295 = x % 4294967296 := bitI_low x 32 (by omega) hx h2
theorem tdiv_pos {x d : Int} (hx : 0 ≤ x) : Int.tdiv x d = x / d := Int.tdiv_eq_ediv_of_nonneg hx
theorem tmod_pos {x d : Int} (hx : 0 ≤ x) : Int.tmod x d = x % d := Int.tmod_eq_emod_of_nonneg hx

def FM_frac_abs : FM := ⟨10, [(RV.tmp 2)], (MC.seq (MC.ops [⟨(some 2), none, (MI.mv (MO.c (AV.i .u64 0)))⟩]) (MC.seq (MC.seq (MC.ops [⟨(some 3), none, (MI.mv (MO.t 0))⟩, ⟨(some 4), none, (MI.bin .lss (MO.t 3) (MO.c (AV.i .i64 0)))⟩]) (MC.cond (MO.t 4) (MC.seq (MC.ops [⟨(some 5), none, (MI.mv (MO.t 0))⟩, ⟨(some 6), none, (MI.conv .u64 (MO.t 5))⟩, ⟨(some 7), none, (MI.un .neg (MO.t 6))⟩, ⟨(some 2), none, (MI.mv (MO.t 7))⟩]) MC.ret) MC.skip)) (MC.seq (MC.ops [⟨(some 8), none, (MI.mv (MO.t 0))⟩, ⟨(some 9), none, (MI.conv .u64 (MO.t 8))⟩, ⟨(some 2), none, (MI.mv (MO.t 9))⟩]) MC.ret)))⟩
theorem FMc_frac_abs : compF Go.Proofs.Try.prog (eqsP Go.Proofs.Try.prog) (neutOf []) (neutOf []) 44 = some FM_frac_abs := by kernel_rfl
def G_frac_abs : Gam := mkG [] []
theorem sg_frac_abs : SoundG Go.Proofs.Try.prog 44 (WF G_frac_abs 0 FM_frac_abs) := WF_sound (allD_ok (n := G_frac_abs.n) (l := []) trivial) mixP (mkG_ok (n := []) (g := []) trivial trivial) eqsP_ok FMc_frac_abs
def S_frac_abs : NSpec := fun args _ K => match args with
  | [(.i .i64 n)] => (I64 n) ∧ K (.i .u64 (n.natAbs : Int))
  | _ => False
theorem det_frac_abs : DetN S_frac_abs := by
  intro args H K h
  unfold S_frac_abs at h
  split at h
  · exact ⟨_, h.2, fun H' K' _ k => ⟨h.1, k⟩⟩
  · exact h.elim

def NF_frac_abs (n : Int) (K : AV → Prop) : Prop :=
 (bif decide (n < 0) then K (.i .u64 (u64.wrap (0 - (u64.wrap n))))
 else K (.i .u64 (u64.wrap n)))
theorem nf_frac_abs (n : Int) (K : AV → Prop) : WF G_frac_abs 0 FM_frac_abs [(.i .i64 n)] [] (fun a _ => K a) = NF_frac_abs n K := by kernel_rfl
theorem key_frac_abs (n : Int) {K : AV → Prop} (hp : I64 n) (hk : K (.i .u64 (n.natAbs : Int))) : NF_frac_abs n K := by
  unfold NF_frac_abs
  obtain ⟨h1, h2⟩ := hp
  refine bif_i (fun h => K_of hk ?_) (fun h => K_of hk ?_) <;> simp at h <;> congr 1
  · rw [wrap_u64_mod, wrap_u64_mod]; omega
  · rw [wrap_u64 h (by omega)]; omega
theorem ok_frac_abs : SoundN Go.Proofs.Try.prog 44 S_frac_abs := by
  refine soundN_of sg_frac_abs fun args H K hS => ?_
  unfold S_frac_abs at hS
  split at hS
  · rename_i n
    have hS1 := key_frac_abs n (K := fun a => plainA a = true ∧ K a) hS.1 ⟨by simp [plainA, plainL], hS.2⟩
    refine ⟨by simp [plainA, plainL], ?_⟩
    rw [nf_frac_abs n fun a => plainA a = true ∧ K a]
    exact hS1
  · exact hS.elim

def FM_frac_Check : FM := ⟨28, [(RV.tmp 2)], (MC.seq (MC.ops [⟨(some 1), none, (MI.box 23 (MO.t 0))⟩, ⟨(some 2), none, (MI.mv (MO.c (AV.i .i64 0)))⟩]) (MC.seq (MC.seq (MC.dr (SchM.op ⟨(some 3), none, (MI.faddr 1 (MO.t 1))⟩ (SchM.op ⟨(some 4), none, (MI.load (MO.t 3))⟩ (SchM.op ⟨(some 5), none, (MI.bin .lss (MO.t 4) (MO.c (AV.i .i64 1)))⟩ (SchM.op ⟨(some 6), none, (MI.mv (MO.t 5))⟩ (SchM.op ⟨(some 7), (some (6, false)), (MI.faddr 1 (MO.t 1))⟩ (SchM.op ⟨(some 8), (some (6, false)), (MI.load (MO.t 7))⟩ (SchM.op ⟨(some 9), (some (6, false)), (MI.conv .u64 (MO.t 8))⟩ (SchM.op ⟨(some 10), (some (6, false)), (MI.bin .gtr (MO.t 9) (MO.c (AV.i .u64 1000000000000000000)))⟩ (SchM.op ⟨(some 11), none, (MI.pick (MO.t 6) (MO.c (AV.b true)) (MO.t 10))⟩ (SchM.op ⟨(some 12), none, (MI.mv (MO.t 11))⟩ (SchM.op ⟨(some 13), (some (12, false)), (MI.faddr 0 (MO.t 1))⟩ (SchM.op ⟨(some 14), (some (12, false)), (MI.load (MO.t 13))⟩ (SchM.op ⟨(some 15), (some (12, false)), (MI.callN 44 [(MO.t 14)])⟩ (SchM.op ⟨(some 16), (some (12, false)), (MI.bin .gtr (MO.t 15) (MO.c (AV.i .u64 1000000000000000000)))⟩ (SchM.op ⟨(some 17), none, (MI.pick (MO.t 12) (MO.c (AV.b true)) (MO.t 16))⟩ (SchM.op ⟨(some 18), none, (MI.mv (MO.t 17))⟩ (SchM.op ⟨(some 19), (some (18, false)), (MI.faddr 0 (MO.t 1))⟩ (SchM.op ⟨(some 20), (some (18, false)), (MI.load (MO.t 19))⟩ (SchM.op ⟨(some 21), (some (18, false)), (MI.callN 44 [(MO.t 20)])⟩ (SchM.op ⟨(some 22), (some (18, false)), (MI.faddr 1 (MO.t 1))⟩ (SchM.op ⟨(some 23), (some (18, false)), (MI.load (MO.t 22))⟩ (SchM.op ⟨(some 24), (some (18, false)), (MI.conv .u64 (MO.t 23))⟩ (SchM.op ⟨(some 25), (some (18, false)), (MI.callN 43 [(MO.t 21), (MO.t 24)])⟩ (SchM.op ⟨(some 26), (some (18, false)), (MI.bin .gtr (MO.t 25) (MO.c (AV.i .u64 1)))⟩ (SchM.op ⟨(some 27), none, (MI.pick (MO.t 18) (MO.c (AV.b true)) (MO.t 26))⟩ SchM.done)))))))))))))))))))))))))) (MC.cond (MO.t 27) (MC.seq (MC.ops [⟨(some 2), none, (MI.mv (MO.c (AV.i .i64 8)))⟩]) MC.ret) MC.skip)) (MC.seq (MC.ops [⟨(some 2), none, (MI.mv (MO.c (AV.i .i64 0)))⟩]) MC.ret)))⟩
theorem FMc_frac_Check : compF Go.Proofs.Try.prog (eqsP Go.Proofs.Try.prog) (neutOf [43, 44]) (neutOf [43, 44]) 59 = some FM_frac_Check := by kernel_rfl
def G_frac_Check : Gam := mkG [(43, S_frac_gcd), (44, S_frac_abs)] []
theorem sg_frac_Check : SoundG Go.Proofs.Try.prog 59 (WF G_frac_Check 0 FM_frac_Check) := WF_sound (allD_ok (n := G_frac_Check.n) (l := [43, 44]) ⟨det_frac_gcd, det_frac_abs, trivial⟩) mixP (mkG_ok (n := [(43, S_frac_gcd), (44, S_frac_abs)]) (g := []) ⟨ok_frac_gcd, ok_frac_abs, trivial⟩ trivial) eqsP_ok FMc_frac_Check
def S_frac_Check : NSpec := fun args _ K => match args with
  | [(.agg [(.i .i64 n), (.i .i64 d)])] => (I64 n ∧ I64 d) ∧ K (.i .i64 (okE n d))
  | _ => False
theorem det_frac_Check : DetN S_frac_Check := by
  intro args H K h
  unfold S_frac_Check at h
  split at h
  · exact ⟨_, h.2, fun H' K' _ k => ⟨h.1, k⟩⟩
  · exact h.elim

def NF_frac_Check (n d : Int) (K : AV → Prop) : Prop :=
 (bif decide (d < 1) then K (.i .i64 8)
 else (bif decide (1000000000000000000 < (u64.wrap d)) then K (.i .i64 8)
 else ((I64 n) ∧
 (bif decide (1000000000000000000 < (n.natAbs : Int)) then K (.i .i64 8)
 else ((I64 n) ∧
 ((U64 (n.natAbs : Int) ∧ U64 (u64.wrap d)) ∧
 (bif decide (1 < ((Int.gcd (n.natAbs : Int) (u64.wrap d) : Nat) : Int)) then K (.i .i64 8)
 else K (.i .i64 0))))))))
theorem nf_frac_Check (n d : Int) (K : AV → Prop) : WF G_frac_Check 0 FM_frac_Check [(.agg [(.i .i64 n), (.i .i64 d)])] [] (fun a _ => K a) = NF_frac_Check n d K := by kernel_rfl
theorem key_frac_Check (n d : Int) {K : AV → Prop} (hp : I64 n ∧ I64 d) (hk : K (.i .i64 (okE n d))) : NF_frac_Check n d K := by
  unfold NF_frac_Check
  obtain ⟨⟨n1, n2⟩, d1, d2⟩ := hp
  refine bif_i (fun h => K_of hk ?_) (fun h => ?_) <;> simp at h
  · have : ¬ okF n d := by unfold okF; omega
    simp [okE, this]
  rw [wrap_u64 (n := d) (by omega) (by omega)]
  refine bif_i (fun h2 => K_of hk ?_) (fun h2 => ⟨⟨n1, n2⟩, ?_⟩) <;> simp at h2
  · have : ¬ okF n d := by unfold okF; omega
    simp [okE, this]
  refine bif_i (fun h3 => K_of hk ?_) (fun h3 => ⟨⟨n1, n2⟩, ⟨⟨by omega, by omega⟩, by omega, by omega⟩, ?_⟩) <;> first | rw [decide_eq_true_eq] at h3 | rw [decide_eq_false_iff_not] at h3
  · have : ¬ okF n d := by unfold okF; omega
    simp [okE, this]
  have e : Int.gcd (n.natAbs : Int) d = Int.gcd n d := by simp [Int.gcd]
  rw [e]
  have hg : 0 < Int.gcd n d := Nat.pos_of_ne_zero fun h => by have := (Int.gcd_eq_zero_iff.1 h).2; omega
  refine bif_i (fun h4 => K_of hk ?_) (fun h4 => K_of hk ?_) <;> simp at h4
  · have : ¬ okF n d := by unfold okF; omega
    simp [okE, this]
  · have : okF n d := by unfold okF; omega
    simp [okE, this]
theorem ok_frac_Check : SoundN Go.Proofs.Try.prog 59 S_frac_Check := by
  refine soundN_of sg_frac_Check fun args H K hS => ?_
  unfold S_frac_Check at hS
  split at hS
  · rename_i n d
    have hS1 := key_frac_Check n d (K := fun a => plainA a = true ∧ K a) hS.1 ⟨by simp [plainA, plainL], hS.2⟩
    refine ⟨by simp [plainA, plainL], ?_⟩
    rw [nf_frac_Check n d fun a => plainA a = true ∧ K a]
    exact hS1
  · exact hS.elim

def FM_frac_made : FM := ⟨27, [(RV.cells 6 2), (RV.tmp 7)], (MC.seq (MC.ops [⟨(some 6), none, (MI.alloc 23 [(AV.i .i64 0), (AV.i .i64 0)])⟩, ⟨(some 7), none, (MI.mv (MO.c (AV.i .i64 0)))⟩]) (MC.seq (MC.seq (MC.ops [⟨(some 9), none, (MI.mv (MO.t 1))⟩, ⟨(some 10), none, (MI.bin .gtr (MO.t 9) (MO.c (AV.i .u64 1000000000000000000)))⟩, ⟨(some 11), none, (MI.mv (MO.t 10))⟩, ⟨(some 12), (some (11, false)), (MI.mv (MO.t 2))⟩, ⟨(some 13), (some (11, false)), (MI.bin .gtr (MO.t 12) (MO.c (AV.i .u64 1000000000000000000)))⟩, ⟨(some 14), none, (MI.pick (MO.t 11) (MO.c (AV.b true)) (MO.t 13))⟩]) (MC.cond (MO.t 14) (MC.seq (MC.ops [⟨(some 15), none, (MI.build [(AV.i .i64 0), (AV.i .i64 0)] [])⟩, ⟨none, none, (MI.store 2 (MO.t 6) (MO.t 15))⟩, ⟨(some 7), none, (MI.mv (MO.c (AV.i .i64 16)))⟩]) MC.ret) MC.skip)) (MC.seq (MC.ops [⟨(some 16), none, (MI.mv (MO.t 1))⟩, ⟨(some 17), none, (MI.conv .i64 (MO.t 16))⟩, ⟨(some 18), none, (MI.mv (MO.t 2))⟩, ⟨(some 19), none, (MI.conv .i64 (MO.t 18))⟩, ⟨(some 20), none, (MI.build [(AV.i .i64 0), (AV.i .i64 0)] [(0, 1, (MO.t 17)), (1, 1, (MO.t 19))])⟩, ⟨(some 8), none, (MI.alloc 23 [(AV.i .i64 0), (AV.i .i64 0)])⟩, ⟨none, none, (MI.store 2 (MO.t 8) (MO.t 20))⟩]) (MC.seq (MC.seq (MC.ops [⟨(some 21), none, (MI.mv (MO.t 0))⟩]) (MC.cond (MO.t 21) (MC.ops [⟨(some 22), none, (MI.faddr 0 (MO.t 8))⟩, ⟨(some 23), none, (MI.load (MO.t 22))⟩, ⟨(some 24), none, (MI.un .neg (MO.t 23))⟩, ⟨(some 25), none, (MI.faddr 0 (MO.t 8))⟩, ⟨none, none, (MI.store 1 (MO.t 25) (MO.t 24))⟩]) MC.skip)) (MC.seq (MC.ops [⟨(some 26), none, (MI.loadn 2 (MO.t 8))⟩, ⟨none, none, (MI.store 2 (MO.t 6) (MO.t 26))⟩, ⟨(some 7), none, (MI.mv (MO.c (AV.i .i64 0)))⟩]) MC.ret)))))⟩
theorem FMc_frac_made : compF Go.Proofs.Try.prog (eqsP Go.Proofs.Try.prog) (neutOf []) (neutOf []) 46 = some FM_frac_made := by kernel_rfl
def G_frac_made : Gam := mkG [] []
theorem sg_frac_made : SoundG Go.Proofs.Try.prog 46 (WF G_frac_made 0 FM_frac_made) := WF_sound (allD_ok (n := G_frac_made.n) (l := []) trivial) mixP (mkG_ok (n := []) (g := []) trivial trivial) eqsP_ok FMc_frac_made
def S_frac_made : NSpec := fun args _ K => match args with
  | [(.b m), (.i .u64 n), (.i .u64 d)] => (U64 n ∧ U64 d) ∧ K (.tup [(.agg [(.i .i64 (madeF m n d).n), (.i .i64 (madeF m n d).d)]), (.i .i64 (madeF m n d).e)])
  | _ => False
theorem det_frac_made : DetN S_frac_made := by
  intro args H K h
  unfold S_frac_made at h
  split at h
  · exact ⟨_, h.2, fun H' K' _ k => ⟨h.1, k⟩⟩
  · exact h.elim

def NF_frac_made (m : Bool) (n d : Int) (K : AV → Prop) : Prop :=
 (bif decide (1000000000000000000 < n) then K (.tup [(.agg [(.i .i64 0), (.i .i64 0)]), (.i .i64 16)])
 else (bif decide (1000000000000000000 < d) then K (.tup [(.agg [(.i .i64 0), (.i .i64 0)]), (.i .i64 16)])
 else (bif m then K (.tup [(.agg [(.i .i64 (i64.wrap (0 - (i64.wrap n)))), (.i .i64 (i64.wrap d))]), (.i .i64 0)])
 else K (.tup [(.agg [(.i .i64 (i64.wrap n)), (.i .i64 (i64.wrap d))]), (.i .i64 0)]))))
theorem nf_frac_made (m : Bool) (n d : Int) (K : AV → Prop) : WF G_frac_made 0 FM_frac_made [(.b m), (.i .u64 n), (.i .u64 d)] [] (fun a _ => K a) = NF_frac_made m n d K := by kernel_rfl
theorem key_frac_made (m : Bool) (n d : Int) {K : AV → Prop} (hp : U64 n ∧ U64 d) (hk : K (.tup [(.agg [(.i .i64 (madeF m n d).n), (.i .i64 (madeF m n d).d)]), (.i .i64 (madeF m n d).e)])) : NF_frac_made m n d K := by
  unfold NF_frac_made
  obtain ⟨⟨n1, n2⟩, d1, d2⟩ := hp
  refine bif_i (fun h => K_of hk ?_) (fun h => ?_) <;> simp at h
  · have : ¬ (n ≤ 1000000000000000000 ∧ d ≤ 1000000000000000000) := by omega
    simp only [madeF, if_neg this]
  refine bif_i (fun h2 => K_of hk ?_) (fun h2 => ?_) <;> simp at h2
  · have : ¬ (n ≤ 1000000000000000000 ∧ d ≤ 1000000000000000000) := by omega
    simp only [madeF, if_neg this]
  have : n ≤ 1000000000000000000 ∧ d ≤ 1000000000000000000 := ⟨h, h2⟩
  rw [wrap_i64 (n := n) (by omega) (by omega), wrap_i64 (n := d) (by omega) (by omega), wrap_i64 (n := 0 - n) (by omega) (by omega)]
  cases m
  · exact K_of hk (by simp only [madeF, if_pos this]; simp)
  · exact K_of hk (by simp only [madeF, if_pos this]; simp)
theorem ok_frac_made : SoundN Go.Proofs.Try.prog 46 S_frac_made := by
  refine soundN_of sg_frac_made fun args H K hS => ?_
  unfold S_frac_made at hS
  split at hS
  · rename_i m n d
    have hS1 := key_frac_made m n d (K := fun a => plainA a = true ∧ K a) hS.1 ⟨by simp [plainA, plainL], hS.2⟩
    refine ⟨by simp [plainA, plainL], ?_⟩
    rw [nf_frac_made m n d fun a => plainA a = true ∧ K a]
    exact hS1
  · exact hS.elim

def FM_math_bits_Mul64 : FM := ⟨51, [(RV.tmp 4), (RV.tmp 5)], (MC.seq (MC.ops [⟨(some 4), none, (MI.mv (MO.c (AV.i .u64 0)))⟩, ⟨(some 5), none, (MI.mv (MO.c (AV.i .u64 0)))⟩]) (MC.seq (MC.ops [⟨(some 14), none, (MI.mv (MO.t 0))⟩, ⟨(some 15), none, (MI.bin .and (MO.t 14) (MO.c (AV.i .u64 4294967295)))⟩, ⟨(some 6), none, (MI.mv (MO.t 15))⟩]) (MC.seq (MC.ops [⟨(some 16), none, (MI.mv (MO.t 0))⟩, ⟨(some 17), none, (MI.bin .shr (MO.t 16) (MO.c (AV.i .u64 32)))⟩, ⟨(some 7), none, (MI.mv (MO.t 17))⟩]) (MC.seq (MC.ops [⟨(some 18), none, (MI.mv (MO.t 1))⟩, ⟨(some 19), none, (MI.bin .and (MO.t 18) (MO.c (AV.i .u64 4294967295)))⟩, ⟨(some 8), none, (MI.mv (MO.t 19))⟩]) (MC.seq (MC.ops [⟨(some 20), none, (MI.mv (MO.t 1))⟩, ⟨(some 21), none, (MI.bin .shr (MO.t 20) (MO.c (AV.i .u64 32)))⟩, ⟨(some 9), none, (MI.mv (MO.t 21))⟩]) (MC.seq (MC.ops [⟨(some 22), none, (MI.mv (MO.t 6))⟩, ⟨(some 23), none, (MI.mv (MO.t 8))⟩, ⟨(some 24), none, (MI.bin .mul (MO.t 22) (MO.t 23))⟩, ⟨(some 10), none, (MI.mv (MO.t 24))⟩]) (MC.seq (MC.ops [⟨(some 25), none, (MI.mv (MO.t 7))⟩, ⟨(some 26), none, (MI.mv (MO.t 8))⟩, ⟨(some 27), none, (MI.bin .mul (MO.t 25) (MO.t 26))⟩, ⟨(some 28), none, (MI.mv (MO.t 10))⟩, ⟨(some 29), none, (MI.bin .shr (MO.t 28) (MO.c (AV.i .u64 32)))⟩, ⟨(some 30), none, (MI.bin .add (MO.t 27) (MO.t 29))⟩, ⟨(some 11), none, (MI.mv (MO.t 30))⟩]) (MC.seq (MC.ops [⟨(some 31), none, (MI.mv (MO.t 11))⟩, ⟨(some 32), none, (MI.bin .and (MO.t 31) (MO.c (AV.i .u64 4294967295)))⟩, ⟨(some 12), none, (MI.mv (MO.t 32))⟩]) (MC.seq (MC.ops [⟨(some 33), none, (MI.mv (MO.t 11))⟩, ⟨(some 34), none, (MI.bin .shr (MO.t 33) (MO.c (AV.i .u64 32)))⟩, ⟨(some 13), none, (MI.mv (MO.t 34))⟩]) (MC.seq (MC.ops [⟨(some 35), none, (MI.mv (MO.t 12))⟩, ⟨(some 36), none, (MI.mv (MO.t 6))⟩, ⟨(some 37), none, (MI.mv (MO.t 9))⟩, ⟨(some 38), none, (MI.bin .mul (MO.t 36) (MO.t 37))⟩, ⟨(some 39), none, (MI.bin .add (MO.t 35) (MO.t 38))⟩, ⟨(some 12), none, (MI.mv (MO.t 39))⟩]) (MC.seq (MC.ops [⟨(some 40), none, (MI.mv (MO.t 7))⟩, ⟨(some 41), none, (MI.mv (MO.t 9))⟩, ⟨(some 42), none, (MI.bin .mul (MO.t 40) (MO.t 41))⟩, ⟨(some 43), none, (MI.mv (MO.t 13))⟩, ⟨(some 44), none, (MI.bin .add (MO.t 42) (MO.t 43))⟩, ⟨(some 45), none, (MI.mv (MO.t 12))⟩, ⟨(some 46), none, (MI.bin .shr (MO.t 45) (MO.c (AV.i .u64 32)))⟩, ⟨(some 47), none, (MI.bin .add (MO.t 44) (MO.t 46))⟩, ⟨(some 4), none, (MI.mv (MO.t 47))⟩]) (MC.seq (MC.ops [⟨(some 48), none, (MI.mv (MO.t 0))⟩, ⟨(some 49), none, (MI.mv (MO.t 1))⟩, ⟨(some 50), none, (MI.bin .mul (MO.t 48) (MO.t 49))⟩, ⟨(some 5), none, (MI.mv (MO.t 50))⟩]) MC.ret))))))))))))⟩
theorem FMc_math_bits_Mul64 : compF Go.Proofs.Try.prog (eqsP Go.Proofs.Try.prog) (neutOf []) (neutOf []) 61 = some FM_math_bits_Mul64 := by kernel_rfl
def G_math_bits_Mul64 : Gam := mkG [] []
theorem sg_math_bits_Mul64 : SoundG Go.Proofs.Try.prog 61 (WF G_math_bits_Mul64 0 FM_math_bits_Mul64) := WF_sound (allD_ok (n := G_math_bits_Mul64.n) (l := []) trivial) mixP (mkG_ok (n := []) (g := []) trivial trivial) eqsP_ok FMc_math_bits_Mul64
def S_math_bits_Mul64 : NSpec := fun args _ K => match args with
  | [(.i .u64 x), (.i .u64 y)] => (U64 x ∧ U64 y) ∧ K (.tup [(.i .u64 (x * y / 18446744073709551616)), (.i .u64 (x * y % 18446744073709551616))])
  | _ => False
theorem det_math_bits_Mul64 : DetN S_math_bits_Mul64 := by
  intro args H K h
  unfold S_math_bits_Mul64 at h
  split at h
  · exact ⟨_, h.2, fun H' K' _ k => ⟨h.1, k⟩⟩
  · exact h.elim

def NF_math_bits_Mul64 (x y : Int) (K : AV → Prop) : Prop :=
 K (.tup [(.i .u64 (u64.wrap ((u64.wrap ((u64.wrap ((Int.fdiv x 4294967296) * (Int.fdiv y 4294967296))) + (Int.fdiv (u64.wrap ((u64.wrap ((Int.fdiv x 4294967296) * (bitI .and .u64 y 4294967295))) + (Int.fdiv (u64.wrap ((bitI .and .u64 x 4294967295) * (bitI .and .u64 y 4294967295))) 4294967296))) 4294967296))) + (Int.fdiv (u64.wrap ((bitI .and .u64 (u64.wrap ((u64.wrap ((Int.fdiv x 4294967296) * (bitI .and .u64 y 4294967295))) + (Int.fdiv (u64.wrap ((bitI .and .u64 x 4294967295) * (bitI .and .u64 y 4294967295))) 4294967296))) 4294967295) + (u64.wrap ((bitI .and .u64 x 4294967295) * (Int.fdiv y 4294967296))))) 4294967296)))), (.i .u64 (u64.wrap (x * y)))])
theorem nf_math_bits_Mul64 (x y : Int) (K : AV → Prop) : WF G_math_bits_Mul64 0 FM_math_bits_Mul64 [(.i .u64 x), (.i .u64 y)] [] (fun a _ => K a) = NF_math_bits_Mul64 x y K := by kernel_rfl
theorem key_math_bits_Mul64 (x y : Int) {K : AV → Prop} (hp : U64 x ∧ U64 y) (hk : K (.tup [(.i .u64 (x * y / 18446744073709551616)), (.i .u64 (x * y % 18446744073709551616))])) : NF_math_bits_Mul64 x y K := by
  unfold NF_math_bits_Mul64
  obtain ⟨⟨x1, x2⟩, y1, y2⟩ := hp
  rw [fdiv_pos (x := x) (by omega), fdiv_pos (x := y) (by omega), and32 x1 x2, and32 y1 y2]
  obtain ⟨a, rfl⟩ := Int.eq_ofNat_of_zero_le x1
  obtain ⟨b, rfl⟩ := Int.eq_ofNat_of_zero_le y1
  obtain ⟨g1, g2, g3, g4⟩ := Lib.mul64_hi a b (by omega) (by omega)
  have c : (a : Int) * b = ((a * b : Nat) : Int) := by simp
  have hab : a * b / 18446744073709551616 < 18446744073709551616 := by
    have : a * b < 18446744073709551616 * 18446744073709551616 := Nat.mul_lt_mul'' (by omega) (by omega)
    exact Nat.div_lt_of_lt_mul this
  have e1 : (a : Int) / 4294967296 = ((a / 4294967296 : Nat) : Int) := by simp
  have e2 : (b : Int) / 4294967296 = ((b / 4294967296 : Nat) : Int) := by simp
  have e3 : (a : Int) % 4294967296 = ((a % 4294967296 : Nat) : Int) := by simp
  have e4 : (b : Int) % 4294967296 = ((b % 4294967296 : Nat) : Int) := by simp
  rw [e1, e2, e3, e4, c]
  generalize ha1 : a / 4294967296 = a1 at *
  generalize ha0 : a % 4294967296 = a0 at *
  generalize hb1 : b / 4294967296 = b1 at *
  generalize hb0 : b % 4294967296 = b0 at *
  have p1 := Lib.half_mul_le (a := a1) (b := b1) (by omega) (by omega)
  have p2 := Lib.half_mul_le (a := a1) (b := b0) (by omega) (by omega)
  have p3 := Lib.half_mul_le (a := a0) (b := b1) (by omega) (by omega)
  have p4 := Lib.half_mul_le (a := a0) (b := b0) (by omega) (by omega)
  rw [← Int.natCast_mul, ← Int.natCast_mul, ← Int.natCast_mul, ← Int.natCast_mul]
  generalize a1 * b1 = q11 at *
  generalize a1 * b0 = q10 at *
  generalize a0 * b1 = q01 at *
  generalize a0 * b0 = q00 at *
  rw [wrap_u64 (n := (q00 : Int)) (by omega) (by omega), wrap_u64 (n := (q10 : Int)) (by omega) (by omega), wrap_u64 (n := (q01 : Int)) (by omega) (by omega), wrap_u64 (n := (q11 : Int)) (by omega) (by omega)]
  rw [fdiv_pos (x := (q00 : Int)) (by omega)]
  rw [wrap_u64 (n := (q10 : Int) + _) (by omega) (by omega), and32 (by omega) (by omega), fdiv_pos (x := (q10 : Int) + _) (by omega)]
  rw [wrap_u64 (n := ((q10 : Int) + (q00 : Int) / 4294967296) % 4294967296 + (q01 : Int)) (by omega) (by omega), fdiv_pos (by omega)]
  refine K_of hk ?_
  congr 1
  simp only [List.cons.injEq, AV.i.injEq, true_and, and_true]
  refine ⟨?_, ?_⟩
  · rw [wrap_u64 (n := (q11 : Int) + _) (by omega) (by omega), wrap_u64 (by omega) (by omega)]; omega
  · rw [wrap_u64_mod, c]
theorem ok_math_bits_Mul64 : SoundN Go.Proofs.Try.prog 61 S_math_bits_Mul64 := by
  refine soundN_of sg_math_bits_Mul64 fun args H K hS => ?_
  unfold S_math_bits_Mul64 at hS
  split at hS
  · rename_i x y
    have hS1 := key_math_bits_Mul64 x y (K := fun a => plainA a = true ∧ K a) hS.1 ⟨by simp [plainA, plainL], hS.2⟩
    refine ⟨by simp [plainA, plainL], ?_⟩
    rw [nf_math_bits_Mul64 x y fun a => plainA a = true ∧ K a]
    exact hS1
  · exact hS.elim

end Go.Proofs.Ytpfmnmcpffajeaa.V
