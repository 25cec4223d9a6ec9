/-
  Contracts, printed by a program of this session (wip/tool/sym.py) from the unit text si3: what each function comes to, and its proof.
-/
import Derived.Test.YtkmhmabkahaekaaSi2
import Derived.Test.YtkmhmabkahaekaaProg
set_option linter.unusedVariables false
set_option linter.unusedSimpArgs false
set_option maxRecDepth 100000
namespace Go.Proofs.Ytkmhmabkahaekaa.V
open Go Go.RowKit


/-- The reference's series: the last term, and the sum. -/
def serT (sq f q : Nat) : Nat → Nat
  | 0 => f
  | j + 1 => Fin.tR sq ((q + 2 * j) * (q + 2 * j + 1)) (serT sq f q j)
def serP (p s t : Nat) : Nat := if p = 0 then Fin.sm s t else Fin.sp s t
def serS (sq f q : Nat) : Nat → Nat
  | 0 => f
  | j + 1 => serP (j % 2) (serS sq f q j) (serT sq f q (j + 1))
theorem serS_cos (sq : Nat) : serS sq 100000000000000000 1 12 = Fin.cosR sq := by
  simp only [serS, serT, serP, Fin.cosR, Fin.serR, Nat.reduceMul, Nat.reduceAdd, Nat.reduceMod, Nat.reduceEqDiff, if_true, if_false, Nat.one_ne_zero]
theorem serS_sin (sq x : Nat) : serS sq x 2 12 = Fin.sinR sq x := by
  simp only [serS, serT, serP, Fin.sinR, Fin.serR, Nat.reduceMul, Nat.reduceAdd, Nat.reduceMod, Nat.reduceEqDiff, if_true, if_false, Nat.one_ne_zero]
def serV (x f q : Int) : Int := ((serS (Fin.sqR x.toNat) f.toNat q.toNat 12 : Nat) : Int)
def SerI (x f q : Int) (j : Nat) (s t k i : Int) : Prop := (U64 x ∧ U64 f ∧ 1 ≤ q ∧ q ≤ 2) ∧ j ≤ 12 ∧ i = (j : Int) ∧ k = q + 2 * (j : Int) ∧ s = ((serS (Fin.sqR x.toNat) f.toNat q.toNat j : Nat) : Int) ∧ t = ((serT (Fin.sqR x.toNat) f.toNat q.toNat j : Nat) : Int) ∧ U64 s ∧ U64 t
theorem sqR_cast {x : Int} (h : U64 x) : x * x / 100000000000000000 % 9223372036854775808 = ((Fin.sqR x.toNat : Nat) : Int) := by
  obtain ⟨n, rfl⟩ := Int.eq_ofNat_of_zero_le h.1
  have e : Fin.sqR n = n * n / 100000000000000000 % 9223372036854775808 := rfl
  simp only [Int.toNat_natCast]
  rw [e]
  simp
theorem tR_cast {sq t d : Nat} (hd : 0 < d) (hd2 : d < 1000) : IntKind.u64.wrap (Int.tdiv ((t : Int) * (sq : Int) / 100000000000000000 % 9223372036854775808) (d : Int)) = ((Fin.tR sq d t : Nat) : Int) ∧ Fin.tR sq d t < 9223372036854775808 := by
  have e : Fin.tR sq d t = t * sq / 100000000000000000 % 9223372036854775808 / d := rfl
  rw [e]
  have m := Nat.mod_lt (t * sq / 100000000000000000) (show 0 < 9223372036854775808 by omega)
  have e2 : (t : Int) * (sq : Int) / 100000000000000000 % 9223372036854775808 = ((t * sq / 100000000000000000 % 9223372036854775808 : Nat) : Int) := by simp
  rw [e2]
  generalize t * sq / 100000000000000000 % 9223372036854775808 = z at *
  have l := Nat.div_le_self z d
  have e3 : Int.tdiv (z : Int) (d : Int) = ((z / d : Nat) : Int) := by rw [tdiv_pos (by omega)]; simp
  rw [e3, wrap_u64 (by omega) (by omega)]
  exact ⟨rfl, by omega⟩
theorem sm_cast {s t : Nat} (hs : s < 18446744073709551616) (ht : t < 9223372036854775808) : IntKind.u64.wrap ((s : Int) - (t : Int)) = ((Fin.sm s t : Nat) : Int) := by
  have e : Fin.sm s t = (s + 18446744073709551616 - t) % 18446744073709551616 := rfl
  rw [e, wrap_u64_mod]; omega
theorem sp_cast {s t : Nat} (hs : s < 18446744073709551616) (ht : t < 9223372036854775808) : IntKind.u64.wrap ((s : Int) + (t : Int)) = ((Fin.sp s t : Nat) : Int) := by
  have e : Fin.sp s t = (s + t) % 18446744073709551616 := rfl
  rw [e, wrap_u64_mod]; omega
theorem kk_cast {q k : Int} {j : Nat} (hq : 1 ≤ q ∧ q ≤ 2) (hj : j < 12) (hk : k = q + 2 * (j : Int)) : IntKind.u64.wrap (k * IntKind.u64.wrap (k + 1)) = (((q.toNat + 2 * j) * (q.toNat + 2 * j + 1) : Nat) : Int) ∧ 0 < (q.toNat + 2 * j) * (q.toNat + 2 * j + 1) ∧ (q.toNat + 2 * j) * (q.toNat + 2 * j + 1) < 1000 := by
  obtain ⟨p, rfl⟩ := Int.eq_ofNat_of_zero_le (show 0 ≤ q by omega)
  subst hk
  simp only [Int.toNat_natCast]
  have hp : p = 1 ∨ p = 2 := by omega
  have hj2 : j = 0 ∨ j = 1 ∨ j = 2 ∨ j = 3 ∨ j = 4 ∨ j = 5 ∨ j = 6 ∨ j = 7 ∨ j = 8 ∨ j = 9 ∨ j = 10 ∨ j = 11 := by omega
  rcases hp with rfl | rfl <;> rcases hj2 with rfl | rfl | rfl | rfl | rfl | rfl | rfl | rfl | rfl | rfl | rfl | rfl <;> decide
theorem tmod2_even (j : Nat) : (Int.tmod (j : Int) 2 == 0) = decide (j % 2 = 0) := by
  rw [tmod_pos (by omega)]
  have : j % 2 = 0 ∨ j % 2 = 1 := by omega
  rcases this with h | h
  · rw [h]; have : (j : Int) % 2 = 0 := by omega
    rw [this]; rfl
  · rw [h]; have : (j : Int) % 2 = 1 := by omega
    rw [this]; rfl
/-- The cosine and the sine of k / n of a turn, at the reference's scale. -/
def cosW (k n : Int) : Int := ((Fin.cosR (Fin.sqR (Fin.angR k.toNat n.toNat)) : Nat) : Int)
def sinW (k n : Int) : Int := ((Fin.sinR (Fin.sqR (Fin.angR k.toNat n.toNat)) (Fin.angR k.toNat n.toNat) : Nat) : Int)
theorem angR_cast {k m : Int} (h : FirstP k m) : 628318530717958648 * k / m = ((Fin.angR k.toNat m.toNat : Nat) : Int) ∧ Fin.angR k.toNat m.toNat ≤ 78539816339744831 := by
  obtain ⟨h1, h2, h3, h4⟩ := h
  obtain ⟨a, rfl⟩ := Int.eq_ofNat_of_zero_le h1
  obtain ⟨b, rfl⟩ := Int.eq_ofNat_of_zero_le (Int.le_of_lt h3)
  simp only [Int.toNat_natCast]
  have e : Fin.angR a b = 628318530717958648 * a / b := rfl
  rw [e]
  refine ⟨by simp, ?_⟩
  have : 628318530717958648 * a / b < 78539816339744832 := by
    rw [Nat.div_lt_iff_lt_mul (by omega)]; omega
  omega
theorem smallV_low {N : Int} (h0 : 0 ≤ N) : smallV (N % 4294967296) (N / 4294967296 % 4294967296) = N % 9223372036854775808 := by
  unfold smallV; omega
theorem cosW_64 (k n : Int) : U64 (cosW k n) := by
  unfold cosW
  have : Fin.cosR (Fin.sqR (Fin.angR k.toNat n.toNat)) < 18446744073709551616 := Nat.mod_lt _ (by omega)
  exact ⟨by omega, by omega⟩
theorem sinW_64 (k n : Int) : U64 (sinW k n) := by
  unfold sinW
  have : Fin.sinR (Fin.sqR (Fin.angR k.toNat n.toNat)) (Fin.angR k.toNat n.toNat) < 18446744073709551616 := Nat.mod_lt _ (by omega)
  exact ⟨by omega, by omega⟩
theorem cosW_div (k n : Int) : IntKind.i64.wrap (IntKind.u64.wrap (Int.tdiv (cosW k n) 100000000000)) = ((Fin.cosMR (Fin.angR k.toNat n.toNat) : Nat) : Int) ∧ Fin.cosMR (Fin.angR k.toNat n.toNat) ≤ 184467440 := by
  have h := cosW_64 k n
  have e : Fin.cosMR (Fin.angR k.toNat n.toNat) = Fin.cosR (Fin.sqR (Fin.angR k.toNat n.toNat)) / 100000000000 := rfl
  rw [e]
  unfold cosW at *
  generalize Fin.cosR (Fin.sqR (Fin.angR k.toNat n.toNat)) = z at *
  obtain ⟨h1, h2⟩ := h
  rw [tdiv_pos (by omega), wrap_u64 (by omega) (by omega), wrap_i64 (by omega) (by omega)]
  omega
theorem sinW_div (k n : Int) : IntKind.i64.wrap (IntKind.u64.wrap (Int.tdiv (sinW k n) 100000000000)) = ((Fin.sinMR (Fin.angR k.toNat n.toNat) : Nat) : Int) ∧ Fin.sinMR (Fin.angR k.toNat n.toNat) ≤ 184467440 := by
  have h := sinW_64 k n
  have e : Fin.sinMR (Fin.angR k.toNat n.toNat) = Fin.sinR (Fin.sqR (Fin.angR k.toNat n.toNat)) (Fin.angR k.toNat n.toNat) / 100000000000 := rfl
  rw [e]
  unfold sinW at *
  generalize Fin.sinR (Fin.sqR (Fin.angR k.toNat n.toNat)) (Fin.angR k.toNat n.toNat) = z at *
  obtain ⟨h1, h2⟩ := h
  rw [tdiv_pos (by omega), wrap_u64 (by omega) (by omega), wrap_i64 (by omega) (by omega)]
  omega
theorem cosW_zero (n : Int) : cosW 0 n = 100000000000000000 := by
  unfold cosW
  have : Fin.angR (Int.toNat 0) n.toNat = 0 := by show 628318530717958648 * 0 / n.toNat = 0; simp
  rw [this]
  have e : Fin.cosR (Fin.sqR 0) = 100000000000000000 := by decide +kernel
  rw [e]; rfl
theorem sinW_zero (n : Int) : sinW 0 n = 0 := by
  unfold sinW
  have : Fin.angR (Int.toNat 0) n.toNat = 0 := by show 628318530717958648 * 0 / n.toNat = 0; simp
  rw [this]
  have e : Fin.sinR (Fin.sqR 0) 0 = 0 := by decide +kernel
  rw [e]; rfl
theorem sinW_twelfth {k n : Int} (hk : 0 < k) (h : 12 * k = n) : IntKind.i64.wrap (IntKind.u64.wrap (Int.tdiv (IntKind.u64.wrap (sinW k n + 50000000000)) 100000000000)) = 500000 := by
  obtain ⟨a, rfl⟩ := Int.eq_ofNat_of_zero_le (Int.le_of_lt hk)
  subst h
  unfold sinW
  have : Fin.angR (Int.toNat (a : Int)) (Int.toNat (12 * (a : Int))) = 52359877559829887 := by
    rw [show Int.toNat (12 * (a : Int)) = 12 * a by omega, Int.toNat_natCast]
    show 628318530717958648 * a / (12 * a) = _
    rw [Nat.mul_div_mul_right _ _ (by omega)]
  rw [this]
  decide +kernel
/-- The enclosure of a quarter. -/
def quarF (k n : Int) : Int × Int :=
  if 8 * k ≤ n then (if k = 0 then (1000000, 1000000) else ((Fin.cosMR (Fin.angR k.toNat n.toNat) : Nat), (Fin.cosMR (Fin.angR k.toNat n.toNat) : Nat) + 1))
  else if n - 4 * k = 0 then (0, 0) else if 12 * (n - 4 * k) = 4 * n then (500000, 500000) else ((Fin.sinMR (Fin.angR (n - 4 * k).toNat (4 * n).toNat) : Nat), (Fin.sinMR (Fin.angR (n - 4 * k).toNat (4 * n).toNat) : Nat) + 1)
theorem quarF_range (k n : Int) : (0 ≤ (quarF k n).1 ∧ (quarF k n).1 ≤ 184467440) ∧ 0 ≤ (quarF k n).2 ∧ (quarF k n).2 ≤ 184467441 := by
  have h1 := (cosW_div k n).2
  have h2 := (sinW_div (n - 4 * k) (4 * n)).2
  unfold quarF
  split
  · split <;> simp only <;> omega
  · split
    · simp
    · split <;> simp only <;> omega
def exactB (k n : Int) (s : Bool) : Bool := k == 0 || s && (12 * k == n)
def cosG (k n : Int) : Int × Int :=
  if n < 4 * min (k % n) (n - k % n) then negP (quarF (n - 2 * min (k % n) (n - k % n)) (2 * n)) else quarF (min (k % n) (n - k % n)) n
def cosH (k n : Int) : SE := if n < 1 ∨ 720 < n then ⟨0, 0, 2⟩ else ⟨(cosG k n).1, (cosG k n).2, 0⟩
def sinH (k n : Int) : SE := if n < 1 ∨ 720 < n then ⟨0, 0, 2⟩ else ⟨(cosG (n - 4 * k) (4 * n)).1, (cosG (n - 4 * k) (4 * n)).2, 0⟩
theorem tmod_cases {k n : Int} (h : 1 ≤ n) : -n < Int.tmod k n ∧ Int.tmod k n < n ∧ ((Int.tmod k n < 0 ∧ Int.tmod k n + n = k % n) ∨ (0 ≤ Int.tmod k n ∧ Int.tmod k n = k % n)) := by
  have q := Int.tmod_add_mul_tdiv k n
  have b1 := tmod_emod (x := k) (d := n) (by omega)
  have b2 := Int.emod_nonneg k (b := n) (by omega)
  have b3 := Int.emod_lt_of_pos k (b := n) (by omega)
  have b4 := Int.emod_nonneg (-k) (b := n) (by omega)
  have b5 := Int.emod_lt_of_pos (-k) (b := n) (by omega)
  have b6 : -n < Int.tmod k n ∧ Int.tmod k n < n := by split at b1 <;> omega
  refine ⟨b6.1, b6.2, ?_⟩
  have e : k % n = Int.tmod k n % n := by
    have := Int.add_mul_emod_self_left (Int.tmod k n) n (Int.tdiv k n)
    rw [q] at this; exact this
  by_cases h0 : Int.tmod k n < 0
  · refine .inl ⟨h0, ?_⟩
    rw [e, ← Int.add_emod_right, Int.emod_eq_of_lt (by omega) (by omega)]
  · refine .inr ⟨by omega, ?_⟩
    rw [e, Int.emod_eq_of_lt (by omega) (by omega)]
theorem cosG_shift {k n : Int} (j : Int) : cosG (k + n * j) n = cosG k n := by
  unfold cosG; rw [Int.add_mul_emod_self_left]

def FM_ref05_times : FM := ⟨23, [(RV.tmp 4)], (MC.seq (MC.ops [⟨(some 4), none, (MI.mv (MO.c (AV.i .u64 0)))⟩]) (MC.seq (MC.ops [⟨(some 10), none, (MI.mv (MO.t 0))⟩, ⟨(some 11), none, (MI.mv (MO.t 1))⟩, ⟨(some 12), none, (MI.callN 63 [(MO.t 10), (MO.t 11)])⟩, ⟨(some 13), none, (MI.callN 68 [(MO.t 12), (MO.c (AV.i .u64 100000000000000000))])⟩, ⟨(some 9), none, (MI.mv (MO.t 13))⟩, ⟨(some 14), none, (MI.ext (MO.t 9) 0)⟩, ⟨(some 15), none, (MI.ext (MO.t 9) 1)⟩, ⟨(some 5), none, (MI.alloc 89 [(AV.i .u64 0), (AV.i .u64 0), (AV.i .u64 0), (AV.i .u64 0)])⟩, ⟨none, none, (MI.store 4 (MO.t 5) (MO.t 14))⟩, ⟨(some 6), none, (MI.mv (MO.t 15))⟩]) (MC.seq (MC.ops [⟨(some 17), none, (MI.loadn 4 (MO.t 5))⟩, ⟨(some 18), none, (MI.callN 83 [(MO.t 17)])⟩, ⟨(some 16), none, (MI.mv (MO.t 18))⟩, ⟨(some 19), none, (MI.ext (MO.t 16) 0)⟩, ⟨(some 20), none, (MI.ext (MO.t 16) 1)⟩, ⟨(some 7), none, (MI.mv (MO.t 19))⟩, ⟨(some 8), none, (MI.mv (MO.t 20))⟩]) (MC.seq (MC.ops [⟨(some 21), none, (MI.mv (MO.t 7))⟩, ⟨(some 22), none, (MI.conv .u64 (MO.t 21))⟩, ⟨(some 4), none, (MI.mv (MO.t 22))⟩]) MC.ret))))⟩
theorem FMc_ref05_times : compF Go.Proofs.Try.prog (eqsP Go.Proofs.Try.prog) (neutOf [63, 68, 83]) (neutOf [63, 68, 83]) 96 = some FM_ref05_times := by kernel_rfl
def G_ref05_times : Gam := mkG [(63, S_ref01_Product), (68, S_ref01_Over), (83, S_ref01_Small)] []
theorem sg_ref05_times : SoundG Go.Proofs.Try.prog 96 (WF G_ref05_times 0 FM_ref05_times) := WF_sound (allD_ok (n := G_ref05_times.n) (l := [63, 68, 83]) ⟨det_ref01_Product, det_ref01_Over, det_ref01_Small, trivial⟩) mixP (mkG_ok (n := [(63, S_ref01_Product), (68, S_ref01_Over), (83, S_ref01_Small)]) (g := []) ⟨ok_ref01_Product, ok_ref01_Over, ok_ref01_Small, trivial⟩ trivial) eqsP_ok FMc_ref05_times
def S_ref05_times : NSpec := fun args _ K => match args with
  | [(.i .u64 a), (.i .u64 b)] => (U64 a ∧ U64 b) ∧ K (.i .u64 (a * b / 100000000000000000 % 9223372036854775808))
  | _ => False
theorem det_ref05_times : DetN S_ref05_times := by
  intro args H K h
  unfold S_ref05_times at h
  split at h
  · exact ⟨_, h.2, fun H' K' _ k => ⟨h.1, k⟩⟩
  · exact h.elim

def NF_ref05_times (a : Int) (b : Int) (K : AV → Prop) : Prop :=
 ((U64 a ∧ U64 b) ∧
 ((OvP (a * b % 4294967296) (a * b / 4294967296 % 4294967296) (a * b / 18446744073709551616 % 4294967296) (a * b / 79228162514264337593543950336) (100000000000000000 : Int)) ∧
 ((D32 ((bv (a * b % 4294967296) (a * b / 4294967296 % 4294967296) (a * b / 18446744073709551616 % 4294967296) (a * b / 79228162514264337593543950336) / (100000000000000000 : Int)) % 4294967296) ∧ D32 ((bv (a * b % 4294967296) (a * b / 4294967296 % 4294967296) (a * b / 18446744073709551616 % 4294967296) (a * b / 79228162514264337593543950336) / (100000000000000000 : Int)) / 4294967296 % 4294967296)) ∧
 K (.i .u64 (IntKind.u64.wrap (smallV ((bv (a * b % 4294967296) (a * b / 4294967296 % 4294967296) (a * b / 18446744073709551616 % 4294967296) (a * b / 79228162514264337593543950336) / (100000000000000000 : Int)) % 4294967296) ((bv (a * b % 4294967296) (a * b / 4294967296 % 4294967296) (a * b / 18446744073709551616 % 4294967296) (a * b / 79228162514264337593543950336) / (100000000000000000 : Int)) / 4294967296 % 4294967296)))))))
theorem nf_ref05_times (a : Int) (b : Int) (K : AV → Prop) : WF G_ref05_times 0 FM_ref05_times [(.i .u64 a), (.i .u64 b)] [] (fun a _ => K a) = NF_ref05_times a b K := by kernel_rfl
theorem key_ref05_times (a : Int) (b : Int) {K : AV → Prop} (hp : U64 a ∧ U64 b) (hk : K (.i .u64 (a * b / 100000000000000000 % 9223372036854775808))) : NF_ref05_times a b K := by
  unfold NF_ref05_times
  obtain ⟨⟨a0, a1⟩, b0, b1⟩ := id hp
  have p1 := mul_lt_of (A := 18446744073709551615) (B := 18446744073709551615) a0 (by omega) b0 (by omega)
  rw [bv_dgs]
  generalize a * b = P at *
  have q0 : 0 ≤ P / 100000000000000000 := by omega
  rw [smallV_low q0, wrap_u64 (n := P / 100000000000000000 % 9223372036854775808) (by omega) (by omega)]
  refine ⟨hp, ⟨⟨⟨by omega, by omega⟩, ⟨by omega, by omega⟩, ⟨by omega, by omega⟩, by omega, by omega⟩, by omega, by omega⟩, ⟨⟨by omega, by omega⟩, by omega, by omega⟩, hk⟩
theorem ok_ref05_times : SoundN Go.Proofs.Try.prog 96 S_ref05_times := by
  refine soundN_of sg_ref05_times fun args H K hS => ?_
  unfold S_ref05_times at hS
  split at hS
  · rename_i a b
    have hS1 := key_ref05_times a b (K := fun a => plainA a = true ∧ K a) hS.1 ⟨by simp [plainA, plainL], hS.2⟩
    refine ⟨by simp [plainA, plainL], ?_⟩
    rw [nf_ref05_times a b fun a => plainA a = true ∧ K a]
    exact hS1
  · exact hS.elim

def MC_ref05_series_0 : MC := (MC.seq (MC.seq (MC.ops [⟨(some 16), none, (MI.mv (MO.t 10))⟩, ⟨(some 17), none, (MI.bin .lss (MO.t 16) (MO.c (AV.i .u64 12)))⟩]) (MC.cond (MO.t 17) MC.skip (MC.exit 0))) (MC.seq (MC.block 1 (MC.seq (MC.ops [⟨(some 20), none, (MI.mv (MO.t 8))⟩, ⟨(some 21), none, (MI.mv (MO.t 9))⟩, ⟨(some 22), none, (MI.callN 96 [(MO.t 20), (MO.t 21)])⟩, ⟨(some 23), none, (MI.mv (MO.t 2))⟩, ⟨(some 24), none, (MI.mv (MO.t 2))⟩, ⟨(some 25), none, (MI.bin .add (MO.t 24) (MO.c (AV.i .u64 1)))⟩, ⟨(some 26), none, (MI.bin .mul (MO.t 23) (MO.t 25))⟩, ⟨(some 27), none, (MI.bin .quo (MO.t 22) (MO.t 26))⟩, ⟨(some 8), none, (MI.mv (MO.t 27))⟩]) (MC.seq (MC.seq (MC.ops [⟨(some 28), none, (MI.mv (MO.t 10))⟩, ⟨(some 29), none, (MI.bin .rem (MO.t 28) (MO.c (AV.i .u64 2)))⟩, ⟨(some 30), none, (MI.bin .eql (MO.t 29) (MO.c (AV.i .u64 0)))⟩]) (MC.cond (MO.t 30) (MC.ops [⟨(some 31), none, (MI.mv (MO.t 7))⟩, ⟨(some 32), none, (MI.mv (MO.t 8))⟩, ⟨(some 33), none, (MI.bin .sub (MO.t 31) (MO.t 32))⟩, ⟨(some 7), none, (MI.mv (MO.t 33))⟩]) (MC.ops [⟨(some 34), none, (MI.mv (MO.t 7))⟩, ⟨(some 35), none, (MI.mv (MO.t 8))⟩, ⟨(some 36), none, (MI.bin .add (MO.t 34) (MO.t 35))⟩, ⟨(some 7), none, (MI.mv (MO.t 36))⟩]))) (MC.ops [⟨(some 37), none, (MI.mv (MO.t 2))⟩, ⟨(some 38), none, (MI.bin .add (MO.t 37) (MO.c (AV.i .u64 2)))⟩, ⟨(some 2), none, (MI.mv (MO.t 38))⟩])))) (MC.ops [⟨(some 18), none, (MI.mv (MO.t 10))⟩, ⟨(some 19), none, (MI.bin .add (MO.t 18) (MO.c (AV.i .u64 1)))⟩, ⟨(some 10), none, (MI.mv (MO.t 19))⟩])))
def MC_ref05_series_1 : MC := (MC.seq (MC.ops [⟨(some 39), none, (MI.mv (MO.t 7))⟩, ⟨(some 6), none, (MI.mv (MO.t 39))⟩]) MC.ret)
def RES_ref05_series : List RV := [(RV.tmp 6)]
def FM_ref05_series : FM := ⟨40, RES_ref05_series, (MC.seq (MC.ops [⟨(some 6), none, (MI.mv (MO.c (AV.i .u64 0)))⟩]) (MC.seq (MC.ops [⟨(some 11), none, (MI.mv (MO.t 1))⟩, ⟨(some 12), none, (MI.mv (MO.t 1))⟩, ⟨(some 13), none, (MI.mv (MO.t 0))⟩, ⟨(some 14), none, (MI.mv (MO.t 0))⟩, ⟨(some 15), none, (MI.callN 96 [(MO.t 13), (MO.t 14)])⟩, ⟨(some 7), none, (MI.mv (MO.t 11))⟩, ⟨(some 8), none, (MI.mv (MO.t 12))⟩, ⟨(some 9), none, (MI.mv (MO.t 15))⟩]) (MC.seq (MC.seq (MC.ops [⟨(some 10), none, (MI.mv (MO.c (AV.i .u64 0)))⟩]) (MC.block 0 (MC.loop MC_ref05_series_0))) MC_ref05_series_1)))⟩
theorem FMc_ref05_series : compF Go.Proofs.Try.prog (eqsP Go.Proofs.Try.prog) (neutOf [96]) (neutOf [96]) 94 = some FM_ref05_series := by kernel_rfl
def G_ref05_series : Gam := mkG [(96, S_ref05_times)] []
theorem sg_ref05_series : SoundG Go.Proofs.Try.prog 94 (WF G_ref05_series 0 FM_ref05_series) := WF_sound (allD_ok (n := G_ref05_series.n) (l := [96]) ⟨det_ref05_times, trivial⟩) mixP (mkG_ok (n := [(96, S_ref05_times)]) (g := []) ⟨ok_ref05_times, trivial⟩ trivial) eqsP_ok FMc_ref05_series
def S_ref05_series : NSpec := fun args _ K => match args with
  | [(.i .u64 x), (.i .u64 f), (.i .u64 q)] => (U64 x ∧ U64 f ∧ 1 ≤ q ∧ q ≤ 2) ∧ K (.i .u64 (serV x f q))
  | _ => False
theorem det_ref05_series : DetN S_ref05_series := by
  intro args H K h
  unfold S_ref05_series at h
  split at h
  · exact ⟨_, h.2, fun H' K' _ k => ⟨h.1, k⟩⟩
  · exact h.elim

def RL_ref05_series_1 (x : Int) (f : Int) (s_0 : Int) (t_0 : Int) (k_0 : Int) (i_0 : Int) (J_0 : Nat → AV) : List AV := [(.i .u64 x), (.i .u64 f), (.i .u64 k_0), (.v undef), (.v undef), (.v undef), (.i .u64 0), (.i .u64 s_0), (.i .u64 t_0), (.i .u64 (x * x / 100000000000000000 % 9223372036854775808)), (.i .u64 i_0), (.i .u64 f), (.i .u64 f), (.i .u64 x), (.i .u64 x), (.i .u64 (x * x / 100000000000000000 % 9223372036854775808)), (J_0 16), (J_0 17), (J_0 18), (J_0 19), (J_0 20), (J_0 21), (J_0 22), (J_0 23), (J_0 24), (J_0 25), (J_0 26), (J_0 27), (J_0 28), (J_0 29), (J_0 30), (J_0 31), (J_0 32), (J_0 33), (J_0 34), (J_0 35), (J_0 36), (J_0 37), (J_0 38), (.v undef)]
def RL_ref05_series_2 (x : Int) (f : Int) (s_0 : Int) (t_0 : Int) (k_0 : Int) (i_0 : Int) (J_0 : Nat → AV) : List AV := [(.i .u64 x), (.i .u64 f), (.i .u64 (IntKind.u64.wrap (k_0 + 2))), (.v undef), (.v undef), (.v undef), (.i .u64 0), (.i .u64 (IntKind.u64.wrap (s_0 - (IntKind.u64.wrap (Int.tdiv (t_0 * (x * x / 100000000000000000 % 9223372036854775808) / 100000000000000000 % 9223372036854775808) (IntKind.u64.wrap (k_0 * (IntKind.u64.wrap (k_0 + 1))))))))), (.i .u64 (IntKind.u64.wrap (Int.tdiv (t_0 * (x * x / 100000000000000000 % 9223372036854775808) / 100000000000000000 % 9223372036854775808) (IntKind.u64.wrap (k_0 * (IntKind.u64.wrap (k_0 + 1))))))), (.i .u64 (x * x / 100000000000000000 % 9223372036854775808)), (.i .u64 (IntKind.u64.wrap (i_0 + 1))), (.i .u64 f), (.i .u64 f), (.i .u64 x), (.i .u64 x), (.i .u64 (x * x / 100000000000000000 % 9223372036854775808)), (.i .u64 i_0), (.b true), (.i .u64 i_0), (.i .u64 (IntKind.u64.wrap (i_0 + 1))), (.i .u64 t_0), (.i .u64 (x * x / 100000000000000000 % 9223372036854775808)), (.i .u64 (t_0 * (x * x / 100000000000000000 % 9223372036854775808) / 100000000000000000 % 9223372036854775808)), (.i .u64 k_0), (.i .u64 k_0), (.i .u64 (IntKind.u64.wrap (k_0 + 1))), (.i .u64 (IntKind.u64.wrap (k_0 * (IntKind.u64.wrap (k_0 + 1))))), (.i .u64 (IntKind.u64.wrap (Int.tdiv (t_0 * (x * x / 100000000000000000 % 9223372036854775808) / 100000000000000000 % 9223372036854775808) (IntKind.u64.wrap (k_0 * (IntKind.u64.wrap (k_0 + 1))))))), (.i .u64 i_0), (.i .u64 (Int.tmod i_0 2)), (.b true), (.i .u64 s_0), (.i .u64 (IntKind.u64.wrap (Int.tdiv (t_0 * (x * x / 100000000000000000 % 9223372036854775808) / 100000000000000000 % 9223372036854775808) (IntKind.u64.wrap (k_0 * (IntKind.u64.wrap (k_0 + 1))))))), (.i .u64 (IntKind.u64.wrap (s_0 - (IntKind.u64.wrap (Int.tdiv (t_0 * (x * x / 100000000000000000 % 9223372036854775808) / 100000000000000000 % 9223372036854775808) (IntKind.u64.wrap (k_0 * (IntKind.u64.wrap (k_0 + 1))))))))), (J_0 34), (J_0 35), (J_0 36), (.i .u64 k_0), (.i .u64 (IntKind.u64.wrap (k_0 + 2))), (.v undef)]
def RL_ref05_series_3 (x : Int) (f : Int) (s_0 : Int) (t_0 : Int) (k_0 : Int) (i_0 : Int) (J_0 : Nat → AV) : List AV := [(.i .u64 x), (.i .u64 f), (.i .u64 (IntKind.u64.wrap (k_0 + 2))), (.v undef), (.v undef), (.v undef), (.i .u64 0), (.i .u64 (IntKind.u64.wrap (s_0 + (IntKind.u64.wrap (Int.tdiv (t_0 * (x * x / 100000000000000000 % 9223372036854775808) / 100000000000000000 % 9223372036854775808) (IntKind.u64.wrap (k_0 * (IntKind.u64.wrap (k_0 + 1))))))))), (.i .u64 (IntKind.u64.wrap (Int.tdiv (t_0 * (x * x / 100000000000000000 % 9223372036854775808) / 100000000000000000 % 9223372036854775808) (IntKind.u64.wrap (k_0 * (IntKind.u64.wrap (k_0 + 1))))))), (.i .u64 (x * x / 100000000000000000 % 9223372036854775808)), (.i .u64 (IntKind.u64.wrap (i_0 + 1))), (.i .u64 f), (.i .u64 f), (.i .u64 x), (.i .u64 x), (.i .u64 (x * x / 100000000000000000 % 9223372036854775808)), (.i .u64 i_0), (.b true), (.i .u64 i_0), (.i .u64 (IntKind.u64.wrap (i_0 + 1))), (.i .u64 t_0), (.i .u64 (x * x / 100000000000000000 % 9223372036854775808)), (.i .u64 (t_0 * (x * x / 100000000000000000 % 9223372036854775808) / 100000000000000000 % 9223372036854775808)), (.i .u64 k_0), (.i .u64 k_0), (.i .u64 (IntKind.u64.wrap (k_0 + 1))), (.i .u64 (IntKind.u64.wrap (k_0 * (IntKind.u64.wrap (k_0 + 1))))), (.i .u64 (IntKind.u64.wrap (Int.tdiv (t_0 * (x * x / 100000000000000000 % 9223372036854775808) / 100000000000000000 % 9223372036854775808) (IntKind.u64.wrap (k_0 * (IntKind.u64.wrap (k_0 + 1))))))), (.i .u64 i_0), (.i .u64 (Int.tmod i_0 2)), (.b false), (J_0 31), (J_0 32), (J_0 33), (.i .u64 s_0), (.i .u64 (IntKind.u64.wrap (Int.tdiv (t_0 * (x * x / 100000000000000000 % 9223372036854775808) / 100000000000000000 % 9223372036854775808) (IntKind.u64.wrap (k_0 * (IntKind.u64.wrap (k_0 + 1))))))), (.i .u64 (IntKind.u64.wrap (s_0 + (IntKind.u64.wrap (Int.tdiv (t_0 * (x * x / 100000000000000000 % 9223372036854775808) / 100000000000000000 % 9223372036854775808) (IntKind.u64.wrap (k_0 * (IntKind.u64.wrap (k_0 + 1))))))))), (.i .u64 k_0), (.i .u64 (IntKind.u64.wrap (k_0 + 2))), (.v undef)]
def RL_ref05_series_4 (x : Int) (f : Int) (s_0 : Int) (t_0 : Int) (k_0 : Int) (i_0 : Int) (J_0 : Nat → AV) : List AV := [(.i .u64 x), (.i .u64 f), (.i .u64 k_0), (.v undef), (.v undef), (.v undef), (.i .u64 0), (.i .u64 s_0), (.i .u64 t_0), (.i .u64 (x * x / 100000000000000000 % 9223372036854775808)), (.i .u64 i_0), (.i .u64 f), (.i .u64 f), (.i .u64 x), (.i .u64 x), (.i .u64 (x * x / 100000000000000000 % 9223372036854775808)), (.i .u64 i_0), (.b false), (J_0 18), (J_0 19), (J_0 20), (J_0 21), (J_0 22), (J_0 23), (J_0 24), (J_0 25), (J_0 26), (J_0 27), (J_0 28), (J_0 29), (J_0 30), (J_0 31), (J_0 32), (J_0 33), (J_0 34), (J_0 35), (J_0 36), (J_0 37), (J_0 38), (.v undef)]
def NFb_ref05_series_0_0 (x : Int) (f : Int) (q : Int) (s_0 : Int) (t_0 : Int) (k_0 : Int) (i_0 : Int) (J_0 : Nat → AV) (K_0 : KE) : Prop :=
 (bif decide (i_0 < 12) then ((U64 t_0 ∧ U64 (x * x / 100000000000000000 % 9223372036854775808)) ∧
 (bif decide ((IntKind.u64.wrap (k_0 * (IntKind.u64.wrap (k_0 + 1)))) ≠ 0) then (bif ((Int.tmod i_0 2) == 0) then K_0 .normal (RL_ref05_series_2 x f s_0 t_0 k_0 i_0 J_0) []
 else K_0 .normal (RL_ref05_series_3 x f s_0 t_0 k_0 i_0 J_0) []) else False))
 else K_0 (.exit 0) (RL_ref05_series_4 x f s_0 t_0 k_0 i_0 J_0) [])
theorem nfb_ref05_series_0_0 (x : Int) (f : Int) (q : Int) (s_0 : Int) (t_0 : Int) (k_0 : Int) (i_0 : Int) (J_0 : Nat → AV) (K_0 : KE) : W G_ref05_series 0 MC_ref05_series_0 (RL_ref05_series_1 x f s_0 t_0 k_0 i_0 J_0) [] K_0 = NFb_ref05_series_0_0 x f q s_0 t_0 k_0 i_0 J_0 K_0 := by kernel_rfl
theorem keyb_ref05_series_0_0 (x : Int) (f : Int) (q : Int) (s_0 : Int) (t_0 : Int) (k_0 : Int) (i_0 : Int) (J_0 : Nat → AV) (hi : ∃ j : Nat, SerI x f q j s_0 t_0 k_0 i_0) {K_0 : KE} (h0 : (∃ j : Nat, SerI x f q j ((IntKind.u64.wrap (s_0 - (IntKind.u64.wrap (Int.tdiv (t_0 * (x * x / 100000000000000000 % 9223372036854775808) / 100000000000000000 % 9223372036854775808) (IntKind.u64.wrap (k_0 * (IntKind.u64.wrap (k_0 + 1))))))))) ((IntKind.u64.wrap (Int.tdiv (t_0 * (x * x / 100000000000000000 % 9223372036854775808) / 100000000000000000 % 9223372036854775808) (IntKind.u64.wrap (k_0 * (IntKind.u64.wrap (k_0 + 1))))))) ((IntKind.u64.wrap (k_0 + 2))) ((IntKind.u64.wrap (i_0 + 1)))) → (Int.toNat (12 - ((IntKind.u64.wrap (i_0 + 1))))) < (Int.toNat (12 - i_0)) → K_0 .normal (RL_ref05_series_2 x f s_0 t_0 k_0 i_0 J_0) []) (h1 : (∃ j : Nat, SerI x f q j ((IntKind.u64.wrap (s_0 + (IntKind.u64.wrap (Int.tdiv (t_0 * (x * x / 100000000000000000 % 9223372036854775808) / 100000000000000000 % 9223372036854775808) (IntKind.u64.wrap (k_0 * (IntKind.u64.wrap (k_0 + 1))))))))) ((IntKind.u64.wrap (Int.tdiv (t_0 * (x * x / 100000000000000000 % 9223372036854775808) / 100000000000000000 % 9223372036854775808) (IntKind.u64.wrap (k_0 * (IntKind.u64.wrap (k_0 + 1))))))) ((IntKind.u64.wrap (k_0 + 2))) ((IntKind.u64.wrap (i_0 + 1)))) → (Int.toNat (12 - ((IntKind.u64.wrap (i_0 + 1))))) < (Int.toNat (12 - i_0)) → K_0 .normal (RL_ref05_series_3 x f s_0 t_0 k_0 i_0 J_0) []) (h2 : (SerI x f q 12 s_0 t_0 k_0 i_0) → K_0 (.exit 0) (RL_ref05_series_4 x f s_0 t_0 k_0 i_0 J_0) []) : NFb_ref05_series_0_0 x f q s_0 t_0 k_0 i_0 J_0 K_0 := by
  unfold NFb_ref05_series_0_0
  obtain ⟨j, ⟨hx, hf, hq⟩, hj, hi', hk, hs, ht, us, ut⟩ := hi
  subst hi'
  rw [sqR_cast hx] at h0 h1 ⊢
  have usq : U64 ((Fin.sqR x.toNat : Nat) : Int) := by
    have := Nat.mod_lt (Nat.div (Nat.mul x.toNat x.toNat) 100000000000000000) (show 0 < 9223372036854775808 by omega)
    have e : Fin.sqR x.toNat = Nat.div (Nat.mul x.toNat x.toNat) 100000000000000000 % 9223372036854775808 := rfl
    exact ⟨by omega, by omega⟩
  refine bif_i (fun h => ?_) (fun h => ?_)
  · simp only [decide_eq_true_eq] at h
    have hj' : j < 12 := by omega
    obtain ⟨kk, kp, kb⟩ := kk_cast hq hj' hk
    obtain ⟨et, lt⟩ := tR_cast (sq := Fin.sqR x.toNat) (t := serT (Fin.sqR x.toNat) f.toNat q.toNat j) kp kb
    rw [kk, ht, et, hs] at h0 h1
    rw [kk]
    have ls : serS (Fin.sqR x.toNat) f.toNat q.toNat j < 18446744073709551616 := by rw [hs] at us; have := us.2; omega
    rw [sm_cast ls lt] at h0
    rw [sp_cast ls lt] at h1
    have ek : IntKind.u64.wrap (k_0 + 2) = q + 2 * ((j + 1 : Nat) : Int) := by rw [wrap_u64 (by omega) (by omega)]; omega
    have ei : IntKind.u64.wrap ((j : Int) + 1) = ((j + 1 : Nat) : Int) := by rw [wrap_u64 (by omega) (by omega)]; omega
    rw [ek, ei] at h0 h1
    have l1 : Fin.sm (serS (Fin.sqR x.toNat) f.toNat q.toNat j) (Fin.tR (Fin.sqR x.toNat) ((q.toNat + 2 * j) * (q.toNat + 2 * j + 1)) (serT (Fin.sqR x.toNat) f.toNat q.toNat j)) < 18446744073709551616 := Nat.mod_lt _ (by omega)
    have l2 : Fin.sp (serS (Fin.sqR x.toNat) f.toNat q.toNat j) (Fin.tR (Fin.sqR x.toNat) ((q.toNat + 2 * j) * (q.toNat + 2 * j + 1)) (serT (Fin.sqR x.toNat) f.toNat q.toNat j)) < 18446744073709551616 := Nat.mod_lt _ (by omega)
    refine ⟨⟨ut, usq⟩, bif_i (fun _ => ?_) (fun h2 => ?_)⟩
    · rw [tmod2_even]
      subst hs ht
      refine bif_i (fun h3 => h0 ⟨j + 1, ⟨hx, hf, hq⟩, by omega, rfl, rfl, ?_, rfl, ⟨by omega, by omega⟩, by omega, by omega⟩ (by omega)) (fun h3 => h1 ⟨j + 1, ⟨hx, hf, hq⟩, by omega, rfl, rfl, ?_, rfl, ⟨by omega, by omega⟩, by omega, by omega⟩ (by omega))
      · rw [decide_eq_true_eq] at h3
        simp only [serS, serT, serP, h3, if_true]
      · rw [decide_eq_false_iff_not] at h3
        simp only [serS, serT, serP, h3, if_false]
    · simp only [decide_eq_false_iff_not] at h2; omega
  · simp only [decide_eq_false_iff_not] at h
    have : j = 12 := by omega
    subst this
    exact h2 ⟨⟨hx, hf, hq⟩, by omega, rfl, hk, hs, ht, us, ut⟩
theorem loop_ref05_series_0 (x : Int) (f : Int) (q : Int) (s_0 : Int) (t_0 : Int) (k_0 : Int) (i_0 : Int) (J_0 : Nat → AV) {K_0 : KE} (hi : ∃ j : Nat, SerI x f q j s_0 t_0 k_0 i_0) (x0_2 : ∀ (s_0 : Int) (t_0 : Int) (k_0 : Int) (i_0 : Int) (J_0 : Nat → AV), (SerI x f q 12 s_0 t_0 k_0 i_0) → K_0 (.exit 0) (RL_ref05_series_4 x f s_0 t_0 k_0 i_0 J_0) []) :
    loopW (W G_ref05_series 0 MC_ref05_series_0) 0 (RL_ref05_series_1 x f s_0 t_0 k_0 i_0 J_0) [] K_0 := by
  refine ⟨[true, true, true, true, true, true, true, true, true, true, true, true, true, true, true, true, false, false, false, false, false, false, false, false, false, false, false, false, false, false, false, false, false, false, false, false, false, false, false, true], fun n t H => (∃ (s_0 : Int) (t_0 : Int) (k_0 : Int) (i_0 : Int) (J_0 : Nat → AV), (∃ j : Nat, SerI x f q j s_0 t_0 k_0 i_0) ∧ n = Int.toNat (12 - i_0) ∧ t = (RL_ref05_series_1 x f s_0 t_0 k_0 i_0 J_0) ∧ H = []), ⟨_, ⟨s_0, t_0, k_0, i_0, J_0, hi, rfl, rfl, rfl⟩⟩, ?_⟩
  rintro n t1 H1 (⟨s_0, t_0, k_0, i_0, J_0, hi, rfl, rfl, rfl⟩)
  · rw [nfb_ref05_series_0_0]
    exact keyb_ref05_series_0_0 x f q s_0 t_0 k_0 i_0 J_0 hi (fun  hv hl => next_of (σ := []) (by kernel_rfl) (fun js => (RL_ref05_series_1 x f ((IntKind.u64.wrap (s_0 - (IntKind.u64.wrap (Int.tdiv (t_0 * (x * x / 100000000000000000 % 9223372036854775808) / 100000000000000000 % 9223372036854775808) (IntKind.u64.wrap (k_0 * (IntKind.u64.wrap (k_0 + 1))))))))) ((IntKind.u64.wrap (Int.tdiv (t_0 * (x * x / 100000000000000000 % 9223372036854775808) / 100000000000000000 % 9223372036854775808) (IntKind.u64.wrap (k_0 * (IntKind.u64.wrap (k_0 + 1))))))) ((IntKind.u64.wrap (k_0 + 2))) ((IntKind.u64.wrap (i_0 + 1))) js)) (fun js => by kernel_rfl) (by kernel_rfl) ([]) (by kernel_rfl) trivial (fun js => ⟨_, hl, ⟨((IntKind.u64.wrap (s_0 - (IntKind.u64.wrap (Int.tdiv (t_0 * (x * x / 100000000000000000 % 9223372036854775808) / 100000000000000000 % 9223372036854775808) (IntKind.u64.wrap (k_0 * (IntKind.u64.wrap (k_0 + 1))))))))), ((IntKind.u64.wrap (Int.tdiv (t_0 * (x * x / 100000000000000000 % 9223372036854775808) / 100000000000000000 % 9223372036854775808) (IntKind.u64.wrap (k_0 * (IntKind.u64.wrap (k_0 + 1))))))), ((IntKind.u64.wrap (k_0 + 2))), ((IntKind.u64.wrap (i_0 + 1))), (js), hv, rfl, rfl, rfl⟩⟩)) (fun  hv hl => next_of (σ := []) (by kernel_rfl) (fun js => (RL_ref05_series_1 x f ((IntKind.u64.wrap (s_0 + (IntKind.u64.wrap (Int.tdiv (t_0 * (x * x / 100000000000000000 % 9223372036854775808) / 100000000000000000 % 9223372036854775808) (IntKind.u64.wrap (k_0 * (IntKind.u64.wrap (k_0 + 1))))))))) ((IntKind.u64.wrap (Int.tdiv (t_0 * (x * x / 100000000000000000 % 9223372036854775808) / 100000000000000000 % 9223372036854775808) (IntKind.u64.wrap (k_0 * (IntKind.u64.wrap (k_0 + 1))))))) ((IntKind.u64.wrap (k_0 + 2))) ((IntKind.u64.wrap (i_0 + 1))) js)) (fun js => by kernel_rfl) (by kernel_rfl) ([]) (by kernel_rfl) trivial (fun js => ⟨_, hl, ⟨((IntKind.u64.wrap (s_0 + (IntKind.u64.wrap (Int.tdiv (t_0 * (x * x / 100000000000000000 % 9223372036854775808) / 100000000000000000 % 9223372036854775808) (IntKind.u64.wrap (k_0 * (IntKind.u64.wrap (k_0 + 1))))))))), ((IntKind.u64.wrap (Int.tdiv (t_0 * (x * x / 100000000000000000 % 9223372036854775808) / 100000000000000000 % 9223372036854775808) (IntKind.u64.wrap (k_0 * (IntKind.u64.wrap (k_0 + 1))))))), ((IntKind.u64.wrap (k_0 + 2))), ((IntKind.u64.wrap (i_0 + 1))), (js), hv, rfl, rfl, rfl⟩⟩)) (fun  hv => x0_2 s_0 t_0 k_0 i_0 J_0  hv)
def NFx_ref05_series_0_0_2 (x : Int) (f : Int) (s_0 : Int) (t_0 : Int) (k_0 : Int) (i_0 : Int) (J_0 : Nat → AV) (K : AV → Prop) : Prop :=
 K (.i .u64 s_0)
theorem nfx_ref05_series_0_0_2 (x : Int) (f : Int) (s_0 : Int) (t_0 : Int) (k_0 : Int) (i_0 : Int) (J_0 : Nat → AV) (K : AV → Prop) : (kBlock 0 (kSeq G_ref05_series 0 MC_ref05_series_1 (kFin RES_ref05_series fun a _ => K a))) (.exit 0) (RL_ref05_series_4 x f s_0 t_0 k_0 i_0 J_0) [] = NFx_ref05_series_0_0_2 x f s_0 t_0 k_0 i_0 J_0 K := by kernel_rfl
def JF_ref05_series_5 (x : Int) (f : Int) (q : Int) : Nat → AV := fun i => (bif Nat.ble i 19 then (bif Nat.ble i 9 then (bif Nat.ble i 4 then (bif Nat.ble i 1 then (bif Nat.ble i 0 then (.i .u64 x) else (.i .u64 f)) else (bif Nat.ble i 2 then (.i .u64 q) else (.v undef))) else (bif Nat.ble i 6 then (bif Nat.ble i 5 then (.v undef) else (.i .u64 0)) else (bif Nat.ble i 7 then (.i .u64 f) else (bif Nat.ble i 8 then (.i .u64 f) else (.i .u64 (x * x / 100000000000000000 % 9223372036854775808)))))) else (bif Nat.ble i 14 then (bif Nat.ble i 11 then (bif Nat.ble i 10 then (.i .u64 0) else (.i .u64 f)) else (bif Nat.ble i 12 then (.i .u64 f) else (.i .u64 x))) else (bif Nat.ble i 16 then (bif Nat.ble i 15 then (.i .u64 (x * x / 100000000000000000 % 9223372036854775808)) else (.v undef)) else (.v undef)))) else (.v undef))
def NF_ref05_series (x : Int) (f : Int) (q : Int) (K : AV → Prop) : Prop :=
 ((U64 x ∧ U64 x) ∧
 (loopW (W G_ref05_series 0 MC_ref05_series_0) 0 (RL_ref05_series_1 x f f f q 0 (JF_ref05_series_5 x f q)) [] (kBlock 0 (kSeq G_ref05_series 0 MC_ref05_series_1 (kFin RES_ref05_series fun a _ => K a)))))
theorem nf_ref05_series (x : Int) (f : Int) (q : Int) (K : AV → Prop) : WF G_ref05_series 0 FM_ref05_series [(.i .u64 x), (.i .u64 f), (.i .u64 q)] [] (fun a _ => K a) = NF_ref05_series x f q K := by kernel_rfl
theorem key_ref05_series (x : Int) (f : Int) (q : Int) {K : AV → Prop} (hp : U64 x ∧ U64 f ∧ 1 ≤ q ∧ q ≤ 2) (hk : K (.i .u64 (serV x f q))) : NF_ref05_series x f q K := by
  unfold NF_ref05_series
  obtain ⟨hx, hf, hq⟩ := id hp
  refine ⟨⟨hx, hx⟩, ?_⟩
  have f0 := hf.1
  refine loop_ref05_series_0 x f q _ _ _ _ _ ⟨0, hp, by omega, rfl, by omega, ?_, ?_, hf, hf⟩ ?_
  · show f = ((f.toNat : Nat) : Int); omega
  · show f = ((f.toNat : Nat) : Int); omega
  intro s t k i J hx
  obtain ⟨_, _, _, _, e, _⟩ := hx
  rw [nfx_ref05_series_0_0_2]
  unfold NFx_ref05_series_0_0_2
  exact K_of hk (by rw [e]; rfl)
theorem ok_ref05_series : SoundN Go.Proofs.Try.prog 94 S_ref05_series := by
  refine soundN_of sg_ref05_series fun args H K hS => ?_
  unfold S_ref05_series at hS
  split at hS
  · rename_i x f q
    have hS1 := key_ref05_series x f q (K := fun a => plainA a = true ∧ K a) hS.1 ⟨by simp [plainA, plainL], hS.2⟩
    refine ⟨by simp [plainA, plainL], ?_⟩
    rw [nf_ref05_series x f q fun a => plainA a = true ∧ K a]
    exact hS1
  · exact hS.elim

def FM_ref05_eighth : FM := ⟨30, [(RV.tmp 4), (RV.tmp 5)], (MC.seq (MC.ops [⟨(some 4), none, (MI.mv (MO.c (AV.i .u64 0)))⟩, ⟨(some 5), none, (MI.mv (MO.c (AV.i .u64 0)))⟩]) (MC.seq (MC.ops [⟨(some 11), none, (MI.mv (MO.t 0))⟩, ⟨(some 12), none, (MI.callN 63 [(MO.c (AV.i .u64 628318530717958648)), (MO.t 11)])⟩, ⟨(some 13), none, (MI.mv (MO.t 1))⟩, ⟨(some 14), none, (MI.callN 68 [(MO.t 12), (MO.t 13)])⟩, ⟨(some 10), none, (MI.mv (MO.t 14))⟩, ⟨(some 15), none, (MI.ext (MO.t 10) 0)⟩, ⟨(some 16), none, (MI.ext (MO.t 10) 1)⟩, ⟨(some 6), none, (MI.alloc 89 [(AV.i .u64 0), (AV.i .u64 0), (AV.i .u64 0), (AV.i .u64 0)])⟩, ⟨none, none, (MI.store 4 (MO.t 6) (MO.t 15))⟩, ⟨(some 7), none, (MI.mv (MO.t 16))⟩]) (MC.seq (MC.ops [⟨(some 18), none, (MI.loadn 4 (MO.t 6))⟩, ⟨(some 19), none, (MI.callN 83 [(MO.t 18)])⟩, ⟨(some 17), none, (MI.mv (MO.t 19))⟩, ⟨(some 20), none, (MI.ext (MO.t 17) 0)⟩, ⟨(some 21), none, (MI.ext (MO.t 17) 1)⟩, ⟨(some 8), none, (MI.mv (MO.t 20))⟩, ⟨(some 9), none, (MI.mv (MO.t 21))⟩]) (MC.seq (MC.ops [⟨(some 22), none, (MI.mv (MO.t 8))⟩, ⟨(some 23), none, (MI.conv .u64 (MO.t 22))⟩, ⟨(some 24), none, (MI.callN 94 [(MO.t 23), (MO.c (AV.i .u64 100000000000000000)), (MO.c (AV.i .u64 1))])⟩, ⟨(some 25), none, (MI.mv (MO.t 8))⟩, ⟨(some 26), none, (MI.conv .u64 (MO.t 25))⟩, ⟨(some 27), none, (MI.mv (MO.t 8))⟩, ⟨(some 28), none, (MI.conv .u64 (MO.t 27))⟩, ⟨(some 29), none, (MI.callN 94 [(MO.t 26), (MO.t 28), (MO.c (AV.i .u64 2))])⟩, ⟨(some 4), none, (MI.mv (MO.t 24))⟩, ⟨(some 5), none, (MI.mv (MO.t 29))⟩]) MC.ret))))⟩
theorem FMc_ref05_eighth : compF Go.Proofs.Try.prog (eqsP Go.Proofs.Try.prog) (neutOf [63, 68, 83, 94]) (neutOf [63, 68, 83, 94]) 85 = some FM_ref05_eighth := by kernel_rfl
def G_ref05_eighth : Gam := mkG [(63, S_ref01_Product), (68, S_ref01_Over), (83, S_ref01_Small), (94, S_ref05_series)] []
theorem sg_ref05_eighth : SoundG Go.Proofs.Try.prog 85 (WF G_ref05_eighth 0 FM_ref05_eighth) := WF_sound (allD_ok (n := G_ref05_eighth.n) (l := [63, 68, 83, 94]) ⟨det_ref01_Product, det_ref01_Over, det_ref01_Small, det_ref05_series, trivial⟩) mixP (mkG_ok (n := [(63, S_ref01_Product), (68, S_ref01_Over), (83, S_ref01_Small), (94, S_ref05_series)]) (g := []) ⟨ok_ref01_Product, ok_ref01_Over, ok_ref01_Small, ok_ref05_series, trivial⟩ trivial) eqsP_ok FMc_ref05_eighth
def S_ref05_eighth : NSpec := fun args _ K => match args with
  | [(.i .u64 k), (.i .u64 n)] => (FirstP k n) ∧ K (.tup [(.i .u64 (cosW k n)), (.i .u64 (sinW k n))])
  | _ => False
theorem det_ref05_eighth : DetN S_ref05_eighth := by
  intro args H K h
  unfold S_ref05_eighth at h
  split at h
  · exact ⟨_, h.2, fun H' K' _ k => ⟨h.1, k⟩⟩
  · exact h.elim

def NF_ref05_eighth (k : Int) (n : Int) (K : AV → Prop) : Prop :=
 ((U64 (628318530717958648 : Int) ∧ U64 k) ∧
 ((OvP ((628318530717958648 : Int) * k % 4294967296) ((628318530717958648 : Int) * k / 4294967296 % 4294967296) ((628318530717958648 : Int) * k / 18446744073709551616 % 4294967296) ((628318530717958648 : Int) * k / 79228162514264337593543950336) n) ∧
 ((D32 ((bv ((628318530717958648 : Int) * k % 4294967296) ((628318530717958648 : Int) * k / 4294967296 % 4294967296) ((628318530717958648 : Int) * k / 18446744073709551616 % 4294967296) ((628318530717958648 : Int) * k / 79228162514264337593543950336) / n) % 4294967296) ∧ D32 ((bv ((628318530717958648 : Int) * k % 4294967296) ((628318530717958648 : Int) * k / 4294967296 % 4294967296) ((628318530717958648 : Int) * k / 18446744073709551616 % 4294967296) ((628318530717958648 : Int) * k / 79228162514264337593543950336) / n) / 4294967296 % 4294967296)) ∧
 ((U64 (IntKind.u64.wrap (smallV ((bv ((628318530717958648 : Int) * k % 4294967296) ((628318530717958648 : Int) * k / 4294967296 % 4294967296) ((628318530717958648 : Int) * k / 18446744073709551616 % 4294967296) ((628318530717958648 : Int) * k / 79228162514264337593543950336) / n) % 4294967296) ((bv ((628318530717958648 : Int) * k % 4294967296) ((628318530717958648 : Int) * k / 4294967296 % 4294967296) ((628318530717958648 : Int) * k / 18446744073709551616 % 4294967296) ((628318530717958648 : Int) * k / 79228162514264337593543950336) / n) / 4294967296 % 4294967296))) ∧ U64 (100000000000000000 : Int) ∧ 1 ≤ (1 : Int) ∧ (1 : Int) ≤ 2) ∧
 ((U64 (IntKind.u64.wrap (smallV ((bv ((628318530717958648 : Int) * k % 4294967296) ((628318530717958648 : Int) * k / 4294967296 % 4294967296) ((628318530717958648 : Int) * k / 18446744073709551616 % 4294967296) ((628318530717958648 : Int) * k / 79228162514264337593543950336) / n) % 4294967296) ((bv ((628318530717958648 : Int) * k % 4294967296) ((628318530717958648 : Int) * k / 4294967296 % 4294967296) ((628318530717958648 : Int) * k / 18446744073709551616 % 4294967296) ((628318530717958648 : Int) * k / 79228162514264337593543950336) / n) / 4294967296 % 4294967296))) ∧ U64 (IntKind.u64.wrap (smallV ((bv ((628318530717958648 : Int) * k % 4294967296) ((628318530717958648 : Int) * k / 4294967296 % 4294967296) ((628318530717958648 : Int) * k / 18446744073709551616 % 4294967296) ((628318530717958648 : Int) * k / 79228162514264337593543950336) / n) % 4294967296) ((bv ((628318530717958648 : Int) * k % 4294967296) ((628318530717958648 : Int) * k / 4294967296 % 4294967296) ((628318530717958648 : Int) * k / 18446744073709551616 % 4294967296) ((628318530717958648 : Int) * k / 79228162514264337593543950336) / n) / 4294967296 % 4294967296))) ∧ 1 ≤ (2 : Int) ∧ (2 : Int) ≤ 2) ∧
 K (.tup [(.i .u64 (serV (IntKind.u64.wrap (smallV ((bv ((628318530717958648 : Int) * k % 4294967296) ((628318530717958648 : Int) * k / 4294967296 % 4294967296) ((628318530717958648 : Int) * k / 18446744073709551616 % 4294967296) ((628318530717958648 : Int) * k / 79228162514264337593543950336) / n) % 4294967296) ((bv ((628318530717958648 : Int) * k % 4294967296) ((628318530717958648 : Int) * k / 4294967296 % 4294967296) ((628318530717958648 : Int) * k / 18446744073709551616 % 4294967296) ((628318530717958648 : Int) * k / 79228162514264337593543950336) / n) / 4294967296 % 4294967296))) (100000000000000000 : Int) (1 : Int))), (.i .u64 (serV (IntKind.u64.wrap (smallV ((bv ((628318530717958648 : Int) * k % 4294967296) ((628318530717958648 : Int) * k / 4294967296 % 4294967296) ((628318530717958648 : Int) * k / 18446744073709551616 % 4294967296) ((628318530717958648 : Int) * k / 79228162514264337593543950336) / n) % 4294967296) ((bv ((628318530717958648 : Int) * k % 4294967296) ((628318530717958648 : Int) * k / 4294967296 % 4294967296) ((628318530717958648 : Int) * k / 18446744073709551616 % 4294967296) ((628318530717958648 : Int) * k / 79228162514264337593543950336) / n) / 4294967296 % 4294967296))) (IntKind.u64.wrap (smallV ((bv ((628318530717958648 : Int) * k % 4294967296) ((628318530717958648 : Int) * k / 4294967296 % 4294967296) ((628318530717958648 : Int) * k / 18446744073709551616 % 4294967296) ((628318530717958648 : Int) * k / 79228162514264337593543950336) / n) % 4294967296) ((bv ((628318530717958648 : Int) * k % 4294967296) ((628318530717958648 : Int) * k / 4294967296 % 4294967296) ((628318530717958648 : Int) * k / 18446744073709551616 % 4294967296) ((628318530717958648 : Int) * k / 79228162514264337593543950336) / n) / 4294967296 % 4294967296))) (2 : Int)))]))))))
theorem nf_ref05_eighth (k : Int) (n : Int) (K : AV → Prop) : WF G_ref05_eighth 0 FM_ref05_eighth [(.i .u64 k), (.i .u64 n)] [] (fun a _ => K a) = NF_ref05_eighth k n K := by kernel_rfl
theorem key_ref05_eighth (k : Int) (n : Int) {K : AV → Prop} (hp : FirstP k n) (hk : K (.tup [(.i .u64 (cosW k n)), (.i .u64 (sinW k n))])) : NF_ref05_eighth k n K := by
  unfold NF_ref05_eighth
  obtain ⟨ea, la⟩ := angR_cast hp
  obtain ⟨h1, h2, h3, h4⟩ := id hp
  simp only [bv_dgs]
  have e0 : 0 ≤ 628318530717958648 * k / n := by rw [ea]; omega
  rw [smallV_low e0, ea]
  have ew : IntKind.u64.wrap (((Fin.angR k.toNat n.toNat : Nat) : Int) % 9223372036854775808) = ((Fin.angR k.toNat n.toNat : Nat) : Int) := by rw [wrap_u64 (by omega) (by omega)]; omega
  rw [ew]
  have ux : U64 ((Fin.angR k.toNat n.toNat : Nat) : Int) := ⟨by omega, by omega⟩
  have u1 : U64 (100000000000000000 : Int) := ⟨by omega, by omega⟩
  refine ⟨⟨⟨by omega, by omega⟩, by omega, by omega⟩, ⟨⟨⟨by omega, by omega⟩, ⟨by omega, by omega⟩, ⟨by omega, by omega⟩, by omega, by omega⟩, by omega, by omega⟩, ⟨⟨by omega, by omega⟩, by omega, by omega⟩, ⟨ux, u1, by omega, by omega⟩, ⟨ux, ux, by omega, by omega⟩, K_of hk ?_⟩
  unfold cosW sinW serV
  rw [← serS_cos, ← serS_sin]
  rfl
theorem ok_ref05_eighth : SoundN Go.Proofs.Try.prog 85 S_ref05_eighth := by
  refine soundN_of sg_ref05_eighth fun args H K hS => ?_
  unfold S_ref05_eighth at hS
  split at hS
  · rename_i k n
    have hS1 := key_ref05_eighth k n (K := fun a => plainA a = true ∧ K a) hS.1 ⟨by simp [plainA, plainL], hS.2⟩
    refine ⟨by simp [plainA, plainL], ?_⟩
    rw [nf_ref05_eighth k n fun a => plainA a = true ∧ K a]
    exact hS1
  · exact hS.elim

def FM_ref05_exact : FM := ⟨18, [(RV.tmp 6)], (MC.seq (MC.ops [⟨(some 6), none, (MI.mv (MO.c (AV.b false)))⟩]) (MC.seq (MC.ops [⟨(some 7), none, (MI.mv (MO.t 0))⟩, ⟨(some 8), none, (MI.bin .eql (MO.t 7) (MO.c (AV.i .i64 0)))⟩, ⟨(some 9), none, (MI.mv (MO.t 8))⟩, ⟨(some 10), (some (9, false)), (MI.mv (MO.t 2))⟩, ⟨(some 11), (some (9, false)), (MI.mv (MO.t 10))⟩, ⟨(some 12), (some (11, true)), (MI.mv (MO.t 0))⟩, ⟨(some 13), (some (11, true)), (MI.bin .mul (MO.c (AV.i .i64 12)) (MO.t 12))⟩, ⟨(some 14), (some (11, true)), (MI.mv (MO.t 1))⟩, ⟨(some 15), (some (11, true)), (MI.bin .eql (MO.t 13) (MO.t 14))⟩, ⟨(some 16), (some (9, false)), (MI.pick (MO.t 11) (MO.t 15) (MO.c (AV.b false)))⟩, ⟨(some 17), none, (MI.pick (MO.t 9) (MO.c (AV.b true)) (MO.t 16))⟩, ⟨(some 6), none, (MI.mv (MO.t 17))⟩]) MC.ret))⟩
theorem FMc_ref05_exact : compF Go.Proofs.Try.prog (eqsP Go.Proofs.Try.prog) (neutOf []) (neutOf []) 86 = some FM_ref05_exact := by kernel_rfl
def G_ref05_exact : Gam := mkG [] []
theorem sg_ref05_exact : SoundG Go.Proofs.Try.prog 86 (WF G_ref05_exact 0 FM_ref05_exact) := WF_sound (allD_ok (n := G_ref05_exact.n) (l := []) trivial) mixP (mkG_ok (n := []) (g := []) trivial trivial) eqsP_ok FMc_ref05_exact
def S_ref05_exact : NSpec := fun args _ K => match args with
  | [(.i .i64 k), (.i .i64 n), (.b s)] => (FirstP k n) ∧ K (.b (exactB k n s))
  | _ => False
theorem det_ref05_exact : DetN S_ref05_exact := by
  intro args H K h
  unfold S_ref05_exact at h
  split at h
  · exact ⟨_, h.2, fun H' K' _ k => ⟨h.1, k⟩⟩
  · exact h.elim

def NF_ref05_exact (k : Int) (n : Int) (s : Bool) (K : AV → Prop) : Prop :=
 (bif (k == 0) then K (.b true)
 else (bif s then K (.b ((IntKind.i64.wrap (12 * k)) == n))
 else K (.b false)))
theorem nf_ref05_exact (k : Int) (n : Int) (s : Bool) (K : AV → Prop) : WF G_ref05_exact 0 FM_ref05_exact [(.i .i64 k), (.i .i64 n), (.b s)] [] (fun a _ => K a) = NF_ref05_exact k n s K := by kernel_rfl
theorem key_ref05_exact (k : Int) (n : Int) (s : Bool) {K : AV → Prop} (hp : FirstP k n) (hk : K (.b (exactB k n s))) : NF_ref05_exact k n s K := by
  unfold NF_ref05_exact
  obtain ⟨h1, h2, h3, h4⟩ := id hp
  rw [wrap_i64 (n := 12 * k) (by omega) (by omega)]
  unfold exactB at hk
  refine bif_i (fun h => K_of hk (by rw [h]; rfl)) (fun h => bif_i (fun h2 => K_of hk (by rw [h, h2]; rfl)) (fun h2 => K_of hk (by rw [h, h2]; rfl)))
theorem ok_ref05_exact : SoundN Go.Proofs.Try.prog 86 S_ref05_exact := by
  refine soundN_of sg_ref05_exact fun args H K hS => ?_
  unfold S_ref05_exact at hS
  split at hS
  · rename_i k n s
    have hS1 := key_ref05_exact k n s (K := fun a => plainA a = true ∧ K a) hS.1 ⟨by simp [plainA, plainL], hS.2⟩
    refine ⟨by simp [plainA, plainL], ?_⟩
    rw [nf_ref05_exact k n s fun a => plainA a = true ∧ K a]
    exact hS1
  · exact hS.elim

def FM_ref05_round : FM := ⟨6, [(RV.cells 2 2)], (MC.seq (MC.ops [⟨(some 2), none, (MI.alloc 23 [(AV.i .i64 0), (AV.i .i64 0)])⟩]) (MC.seq (MC.ops [⟨(some 3), none, (MI.mv (MO.t 0))⟩, ⟨(some 4), none, (MI.mv (MO.t 0))⟩, ⟨(some 5), none, (MI.build [(AV.i .i64 0), (AV.i .i64 0)] [(0, 1, (MO.t 3)), (1, 1, (MO.t 4))])⟩, ⟨none, none, (MI.store 2 (MO.t 2) (MO.t 5))⟩]) MC.ret))⟩
theorem FMc_ref05_round : compF Go.Proofs.Try.prog (eqsP Go.Proofs.Try.prog) (neutOf []) (neutOf []) 87 = some FM_ref05_round := by kernel_rfl
def G_ref05_round : Gam := mkG [] []
theorem sg_ref05_round : SoundG Go.Proofs.Try.prog 87 (WF G_ref05_round 0 FM_ref05_round) := WF_sound (allD_ok (n := G_ref05_round.n) (l := []) trivial) mixP (mkG_ok (n := []) (g := []) trivial trivial) eqsP_ok FMc_ref05_round
def S_ref05_round : NSpec := fun args _ K => match args with
  | [(.i .i64 n)] => K (.agg [(.i .i64 n), (.i .i64 n)])
  | _ => False
theorem det_ref05_round : DetN S_ref05_round := by
  intro args H K h
  unfold S_ref05_round at h
  split at h
  · exact ⟨_, h, fun H' K' _ k => k⟩
  · exact h.elim

def NF_ref05_round (n : Int) (K : AV → Prop) : Prop :=
 K (.agg [(.i .i64 n), (.i .i64 n)])
theorem nf_ref05_round (n : Int) (K : AV → Prop) : WF G_ref05_round 0 FM_ref05_round [(.i .i64 n)] [] (fun a _ => K a) = NF_ref05_round n K := by kernel_rfl
theorem key_ref05_round (n : Int) {K : AV → Prop} (hk : K (.agg [(.i .i64 n), (.i .i64 n)])) : NF_ref05_round n K := by
  exact hk
theorem ok_ref05_round : SoundN Go.Proofs.Try.prog 87 S_ref05_round := by
  refine soundN_of sg_ref05_round fun args H K hS => ?_
  unfold S_ref05_round at hS
  split at hS
  · rename_i n
    have hS1 := key_ref05_round n (K := fun a => plainA a = true ∧ K a) ⟨by simp [plainA, plainL], hS⟩
    refine ⟨by simp [plainA, plainL], ?_⟩
    rw [nf_ref05_round n fun a => plainA a = true ∧ K a]
    exact hS1
  · exact hS.elim

def FM_ref05_quarter : FM := ⟨57, [(RV.cells 4 2)], (MC.seq (MC.ops [⟨(some 4), none, (MI.alloc 23 [(AV.i .i64 0), (AV.i .i64 0)])⟩]) (MC.seq (MC.ops [⟨(some 5), none, (MI.mv (MO.c (AV.i .u64 0)))⟩, ⟨(some 6), none, (MI.mv (MO.c (AV.i .u64 0)))⟩]) (MC.seq (MC.ops [⟨(some 7), none, (MI.mv (MO.c (AV.b false)))⟩]) (MC.seq (MC.seq (MC.ops [⟨(some 8), none, (MI.mv (MO.t 0))⟩, ⟨(some 9), none, (MI.bin .mul (MO.c (AV.i .i64 8)) (MO.t 8))⟩, ⟨(some 10), none, (MI.mv (MO.t 1))⟩, ⟨(some 11), none, (MI.bin .leq (MO.t 9) (MO.t 10))⟩]) (MC.cond (MO.t 11) (MC.seq (MC.ops [⟨(some 13), none, (MI.mv (MO.t 0))⟩, ⟨(some 14), none, (MI.conv .u64 (MO.t 13))⟩, ⟨(some 15), none, (MI.mv (MO.t 1))⟩, ⟨(some 16), none, (MI.conv .u64 (MO.t 15))⟩, ⟨(some 17), none, (MI.callN 85 [(MO.t 14), (MO.t 16)])⟩, ⟨(some 12), none, (MI.mv (MO.t 17))⟩, ⟨(some 18), none, (MI.ext (MO.t 12) 0)⟩, ⟨(some 19), none, (MI.ext (MO.t 12) 1)⟩, ⟨(some 5), none, (MI.mv (MO.t 18))⟩]) (MC.ops [⟨(some 20), none, (MI.mv (MO.t 0))⟩, ⟨(some 21), none, (MI.mv (MO.t 1))⟩, ⟨(some 22), none, (MI.callN 86 [(MO.t 20), (MO.t 21), (MO.c (AV.b false))])⟩, ⟨(some 7), none, (MI.mv (MO.t 22))⟩])) (MC.seq (MC.ops [⟨(some 24), none, (MI.mv (MO.t 1))⟩, ⟨(some 25), none, (MI.mv (MO.t 0))⟩, ⟨(some 26), none, (MI.bin .mul (MO.c (AV.i .i64 4)) (MO.t 25))⟩, ⟨(some 27), none, (MI.bin .sub (MO.t 24) (MO.t 26))⟩, ⟨(some 28), none, (MI.conv .u64 (MO.t 27))⟩, ⟨(some 29), none, (MI.mv (MO.t 1))⟩, ⟨(some 30), none, (MI.bin .mul (MO.c (AV.i .i64 4)) (MO.t 29))⟩, ⟨(some 31), none, (MI.conv .u64 (MO.t 30))⟩, ⟨(some 32), none, (MI.callN 85 [(MO.t 28), (MO.t 31)])⟩, ⟨(some 23), none, (MI.mv (MO.t 32))⟩, ⟨(some 33), none, (MI.ext (MO.t 23) 0)⟩, ⟨(some 34), none, (MI.ext (MO.t 23) 1)⟩, ⟨(some 6), none, (MI.mv (MO.t 34))⟩]) (MC.seq (MC.ops [⟨(some 35), none, (MI.mv (MO.t 6))⟩, ⟨(some 5), none, (MI.mv (MO.t 35))⟩]) (MC.ops [⟨(some 36), none, (MI.mv (MO.t 1))⟩, ⟨(some 37), none, (MI.mv (MO.t 0))⟩, ⟨(some 38), none, (MI.bin .mul (MO.c (AV.i .i64 4)) (MO.t 37))⟩, ⟨(some 39), none, (MI.bin .sub (MO.t 36) (MO.t 38))⟩, ⟨(some 40), none, (MI.mv (MO.t 1))⟩, ⟨(some 41), none, (MI.bin .mul (MO.c (AV.i .i64 4)) (MO.t 40))⟩, ⟨(some 42), none, (MI.callN 86 [(MO.t 39), (MO.t 41), (MO.c (AV.b true))])⟩, ⟨(some 7), none, (MI.mv (MO.t 42))⟩]))))) (MC.seq (MC.seq (MC.ops [⟨(some 43), none, (MI.mv (MO.t 7))⟩]) (MC.cond (MO.t 43) (MC.seq (MC.ops [⟨(some 44), none, (MI.mv (MO.t 5))⟩, ⟨(some 45), none, (MI.bin .add (MO.t 44) (MO.c (AV.i .u64 50000000000)))⟩, ⟨(some 46), none, (MI.bin .quo (MO.t 45) (MO.c (AV.i .u64 100000000000)))⟩, ⟨(some 47), none, (MI.conv .i64 (MO.t 46))⟩, ⟨(some 48), none, (MI.callN 87 [(MO.t 47)])⟩, ⟨none, none, (MI.store 2 (MO.t 4) (MO.t 48))⟩]) MC.ret) MC.skip)) (MC.seq (MC.ops [⟨(some 49), none, (MI.mv (MO.t 5))⟩, ⟨(some 50), none, (MI.bin .quo (MO.t 49) (MO.c (AV.i .u64 100000000000)))⟩, ⟨(some 51), none, (MI.conv .i64 (MO.t 50))⟩, ⟨(some 52), none, (MI.mv (MO.t 5))⟩, ⟨(some 53), none, (MI.bin .quo (MO.t 52) (MO.c (AV.i .u64 100000000000)))⟩, ⟨(some 54), none, (MI.conv .i64 (MO.t 53))⟩, ⟨(some 55), none, (MI.bin .add (MO.t 54) (MO.c (AV.i .i64 1)))⟩, ⟨(some 56), none, (MI.build [(AV.i .i64 0), (AV.i .i64 0)] [(0, 1, (MO.t 51)), (1, 1, (MO.t 55))])⟩, ⟨none, none, (MI.store 2 (MO.t 4) (MO.t 56))⟩]) MC.ret))))))⟩
theorem FMc_ref05_quarter : compF Go.Proofs.Try.prog (eqsP Go.Proofs.Try.prog) (neutOf [85, 86, 87]) (neutOf [85, 86, 87]) 73 = some FM_ref05_quarter := by kernel_rfl
def G_ref05_quarter : Gam := mkG [(85, S_ref05_eighth), (86, S_ref05_exact), (87, S_ref05_round)] []
theorem sg_ref05_quarter : SoundG Go.Proofs.Try.prog 73 (WF G_ref05_quarter 0 FM_ref05_quarter) := WF_sound (allD_ok (n := G_ref05_quarter.n) (l := [85, 86, 87]) ⟨det_ref05_eighth, det_ref05_exact, det_ref05_round, trivial⟩) mixP (mkG_ok (n := [(85, S_ref05_eighth), (86, S_ref05_exact), (87, S_ref05_round)]) (g := []) ⟨ok_ref05_eighth, ok_ref05_exact, ok_ref05_round, trivial⟩ trivial) eqsP_ok FMc_ref05_quarter
def S_ref05_quarter : NSpec := fun args _ K => match args with
  | [(.i .i64 k), (.i .i64 n)] => (0 ≤ k ∧ 4 * k ≤ n ∧ 0 < n ∧ n < 100000) ∧ K (.agg [(.i .i64 (quarF k n).1), (.i .i64 (quarF k n).2)])
  | _ => False
theorem det_ref05_quarter : DetN S_ref05_quarter := by
  intro args H K h
  unfold S_ref05_quarter at h
  split at h
  · exact ⟨_, h.2, fun H' K' _ k => ⟨h.1, k⟩⟩
  · exact h.elim

def NF_ref05_quarter (k : Int) (n : Int) (K : AV → Prop) : Prop :=
 (bif decide ((IntKind.i64.wrap (8 * k)) ≤ n) then ((FirstP (IntKind.u64.wrap k) (IntKind.u64.wrap n)) ∧
 ((FirstP k n) ∧
 (bif (exactB k n false) then K (.agg [(.i .i64 (IntKind.i64.wrap (IntKind.u64.wrap (Int.tdiv (IntKind.u64.wrap ((cosW (IntKind.u64.wrap k) (IntKind.u64.wrap n)) + 50000000000)) 100000000000)))), (.i .i64 (IntKind.i64.wrap (IntKind.u64.wrap (Int.tdiv (IntKind.u64.wrap ((cosW (IntKind.u64.wrap k) (IntKind.u64.wrap n)) + 50000000000)) 100000000000))))])
 else K (.agg [(.i .i64 (IntKind.i64.wrap (IntKind.u64.wrap (Int.tdiv (cosW (IntKind.u64.wrap k) (IntKind.u64.wrap n)) 100000000000)))), (.i .i64 (IntKind.i64.wrap ((IntKind.i64.wrap (IntKind.u64.wrap (Int.tdiv (cosW (IntKind.u64.wrap k) (IntKind.u64.wrap n)) 100000000000))) + 1)))]))))
 else ((FirstP (IntKind.u64.wrap (IntKind.i64.wrap (n - (IntKind.i64.wrap (4 * k))))) (IntKind.u64.wrap (IntKind.i64.wrap (4 * n)))) ∧
 ((FirstP (IntKind.i64.wrap (n - (IntKind.i64.wrap (4 * k)))) (IntKind.i64.wrap (4 * n))) ∧
 (bif (exactB (IntKind.i64.wrap (n - (IntKind.i64.wrap (4 * k)))) (IntKind.i64.wrap (4 * n)) true) then K (.agg [(.i .i64 (IntKind.i64.wrap (IntKind.u64.wrap (Int.tdiv (IntKind.u64.wrap ((sinW (IntKind.u64.wrap (IntKind.i64.wrap (n - (IntKind.i64.wrap (4 * k))))) (IntKind.u64.wrap (IntKind.i64.wrap (4 * n)))) + 50000000000)) 100000000000)))), (.i .i64 (IntKind.i64.wrap (IntKind.u64.wrap (Int.tdiv (IntKind.u64.wrap ((sinW (IntKind.u64.wrap (IntKind.i64.wrap (n - (IntKind.i64.wrap (4 * k))))) (IntKind.u64.wrap (IntKind.i64.wrap (4 * n)))) + 50000000000)) 100000000000))))])
 else K (.agg [(.i .i64 (IntKind.i64.wrap (IntKind.u64.wrap (Int.tdiv (sinW (IntKind.u64.wrap (IntKind.i64.wrap (n - (IntKind.i64.wrap (4 * k))))) (IntKind.u64.wrap (IntKind.i64.wrap (4 * n)))) 100000000000)))), (.i .i64 (IntKind.i64.wrap ((IntKind.i64.wrap (IntKind.u64.wrap (Int.tdiv (sinW (IntKind.u64.wrap (IntKind.i64.wrap (n - (IntKind.i64.wrap (4 * k))))) (IntKind.u64.wrap (IntKind.i64.wrap (4 * n)))) 100000000000))) + 1)))])))))
theorem nf_ref05_quarter (k : Int) (n : Int) (K : AV → Prop) : WF G_ref05_quarter 0 FM_ref05_quarter [(.i .i64 k), (.i .i64 n)] [] (fun a _ => K a) = NF_ref05_quarter k n K := by kernel_rfl
theorem key_ref05_quarter (k : Int) (n : Int) {K : AV → Prop} (hp : 0 ≤ k ∧ 4 * k ≤ n ∧ 0 < n ∧ n < 100000) (hk : K (.agg [(.i .i64 (quarF k n).1), (.i .i64 (quarF k n).2)])) : NF_ref05_quarter k n K := by
  unfold NF_ref05_quarter
  obtain ⟨h1, h2, h3, h4⟩ := hp
  rw [wrap_i64 (n := 8 * k) (by omega) (by omega), wrap_u64 (n := k) (by omega) (by omega), wrap_u64 (n := n) (by omega) (by omega), wrap_i64 (n := 4 * k) (by omega) (by omega), wrap_i64 (n := n - 4 * k) (by omega) (by omega), wrap_i64 (n := 4 * n) (by omega) (by omega), wrap_u64 (n := n - 4 * k) (by omega) (by omega), wrap_u64 (n := 4 * n) (by omega) (by omega)]
  obtain ⟨ec, lc⟩ := cosW_div k n
  obtain ⟨es, ls⟩ := sinW_div (n - 4 * k) (4 * n)
  rw [ec, es, wrap_i64 (n := ((Fin.cosMR (Fin.angR k.toNat n.toNat) : Nat) : Int) + 1) (by omega) (by omega), wrap_i64 (n := ((Fin.sinMR (Fin.angR (n - 4 * k).toNat (4 * n).toNat) : Nat) : Int) + 1) (by omega) (by omega)]
  unfold quarF at hk
  refine bif_i (fun h => ?_) (fun h => ?_)
  · rw [decide_eq_true_eq] at h
    rw [if_pos h] at hk
    refine ⟨⟨h1, h, h3, by omega⟩, ⟨h1, h, h3, by omega⟩, bif_i (fun h5 => ?_) (fun h5 => ?_)⟩
    · simp [exactB] at h5
      subst h5
      rw [if_pos rfl] at hk
      have e1 : IntKind.i64.wrap (IntKind.u64.wrap (Int.tdiv (IntKind.u64.wrap (100000000000000000 + 50000000000)) 100000000000)) = 1000000 := by decide +kernel
      rw [cosW_zero, e1]
      exact hk
    · simp [exactB] at h5
      rw [if_neg h5] at hk
      exact hk
  · rw [decide_eq_false_iff_not] at h
    rw [if_neg h] at hk
    refine ⟨⟨by omega, by omega, by omega, by omega⟩, ⟨by omega, by omega, by omega, by omega⟩, bif_i (fun h5 => ?_) (fun h5 => ?_)⟩
    · simp only [exactB, Bool.true_and, Bool.or_eq_true, beq_iff_eq] at h5
      by_cases hz : n - 4 * k = 0
      · rw [if_pos hz] at hk
        have e1 : IntKind.i64.wrap (IntKind.u64.wrap (Int.tdiv (IntKind.u64.wrap (0 + 50000000000)) 100000000000)) = 0 := by decide +kernel
        rw [hz, sinW_zero, e1]
        exact hk
      · rw [if_neg hz, if_pos (by omega)] at hk
        rw [sinW_twelfth (by omega) (by omega)]
        exact hk
    · simp only [exactB, Bool.true_and, Bool.or_eq_false_iff, beq_eq_false_iff_ne, ne_eq] at h5
      rw [if_neg h5.1, if_neg h5.2] at hk
      exact hk
theorem ok_ref05_quarter : SoundN Go.Proofs.Try.prog 73 S_ref05_quarter := by
  refine soundN_of sg_ref05_quarter fun args H K hS => ?_
  unfold S_ref05_quarter at hS
  split at hS
  · rename_i k n
    have hS1 := key_ref05_quarter k n (K := fun a => plainA a = true ∧ K a) hS.1 ⟨by simp [plainA, plainL], hS.2⟩
    refine ⟨by simp [plainA, plainL], ?_⟩
    rw [nf_ref05_quarter k n fun a => plainA a = true ∧ K a]
    exact hS1
  · exact hS.elim

def FM_ref05_Cosine : FM := ⟨35, [(RV.cells 4 2)], (MC.seq (MC.ops [⟨(some 4), none, (MI.alloc 23 [(AV.i .i64 0), (AV.i .i64 0)])⟩]) (MC.seq (MC.ops [⟨(some 5), none, (MI.mv (MO.t 0))⟩, ⟨(some 6), none, (MI.mv (MO.t 1))⟩, ⟨(some 7), none, (MI.bin .rem (MO.t 5) (MO.t 6))⟩, ⟨(some 0), none, (MI.mv (MO.t 7))⟩]) (MC.seq (MC.seq (MC.ops [⟨(some 8), none, (MI.mv (MO.t 0))⟩, ⟨(some 9), none, (MI.bin .lss (MO.t 8) (MO.c (AV.i .i64 0)))⟩]) (MC.cond (MO.t 9) (MC.ops [⟨(some 10), none, (MI.mv (MO.t 0))⟩, ⟨(some 11), none, (MI.mv (MO.t 1))⟩, ⟨(some 12), none, (MI.bin .add (MO.t 10) (MO.t 11))⟩, ⟨(some 0), none, (MI.mv (MO.t 12))⟩]) MC.skip)) (MC.seq (MC.seq (MC.ops [⟨(some 13), none, (MI.mv (MO.t 0))⟩, ⟨(some 14), none, (MI.bin .mul (MO.c (AV.i .i64 2)) (MO.t 13))⟩, ⟨(some 15), none, (MI.mv (MO.t 1))⟩, ⟨(some 16), none, (MI.bin .gtr (MO.t 14) (MO.t 15))⟩]) (MC.cond (MO.t 16) (MC.ops [⟨(some 17), none, (MI.mv (MO.t 1))⟩, ⟨(some 18), none, (MI.mv (MO.t 0))⟩, ⟨(some 19), none, (MI.bin .sub (MO.t 17) (MO.t 18))⟩, ⟨(some 0), none, (MI.mv (MO.t 19))⟩]) MC.skip)) (MC.seq (MC.seq (MC.ops [⟨(some 20), none, (MI.mv (MO.t 0))⟩, ⟨(some 21), none, (MI.bin .mul (MO.c (AV.i .i64 4)) (MO.t 20))⟩, ⟨(some 22), none, (MI.mv (MO.t 1))⟩, ⟨(some 23), none, (MI.bin .gtr (MO.t 21) (MO.t 22))⟩]) (MC.cond (MO.t 23) (MC.seq (MC.ops [⟨(some 24), none, (MI.mv (MO.t 1))⟩, ⟨(some 25), none, (MI.mv (MO.t 0))⟩, ⟨(some 26), none, (MI.bin .mul (MO.c (AV.i .i64 2)) (MO.t 25))⟩, ⟨(some 27), none, (MI.bin .sub (MO.t 24) (MO.t 26))⟩, ⟨(some 28), none, (MI.mv (MO.t 1))⟩, ⟨(some 29), none, (MI.bin .mul (MO.c (AV.i .i64 2)) (MO.t 28))⟩, ⟨(some 30), none, (MI.callN 73 [(MO.t 27), (MO.t 29)])⟩, ⟨(some 31), none, (MI.callN 21 [(MO.t 30)])⟩, ⟨none, none, (MI.store 2 (MO.t 4) (MO.t 31))⟩]) MC.ret) MC.skip)) (MC.seq (MC.ops [⟨(some 32), none, (MI.mv (MO.t 0))⟩, ⟨(some 33), none, (MI.mv (MO.t 1))⟩, ⟨(some 34), none, (MI.callN 73 [(MO.t 32), (MO.t 33)])⟩, ⟨none, none, (MI.store 2 (MO.t 4) (MO.t 34))⟩]) MC.ret))))))⟩
theorem FMc_ref05_Cosine : compF Go.Proofs.Try.prog (eqsP Go.Proofs.Try.prog) (neutOf [21, 73]) (neutOf [21, 73]) 47 = some FM_ref05_Cosine := by kernel_rfl
def G_ref05_Cosine : Gam := mkG [(21, S_ref05_Neg), (73, S_ref05_quarter)] []
theorem sg_ref05_Cosine : SoundG Go.Proofs.Try.prog 47 (WF G_ref05_Cosine 0 FM_ref05_Cosine) := WF_sound (allD_ok (n := G_ref05_Cosine.n) (l := [21, 73]) ⟨det_ref05_Neg, det_ref05_quarter, trivial⟩) mixP (mkG_ok (n := [(21, S_ref05_Neg), (73, S_ref05_quarter)]) (g := []) ⟨ok_ref05_Neg, ok_ref05_quarter, trivial⟩ trivial) eqsP_ok FMc_ref05_Cosine
def S_ref05_Cosine : NSpec := fun args _ K => match args with
  | [(.i .i64 k), (.i .i64 n)] => (I64 k ∧ 1 ≤ n ∧ n ≤ 20000) ∧ K (.agg [(.i .i64 (cosG k n).1), (.i .i64 (cosG k n).2)])
  | _ => False
theorem det_ref05_Cosine : DetN S_ref05_Cosine := by
  intro args H K h
  unfold S_ref05_Cosine at h
  split at h
  · exact ⟨_, h.2, fun H' K' _ k => ⟨h.1, k⟩⟩
  · exact h.elim

def NF_ref05_Cosine (k : Int) (n : Int) (K : AV → Prop) : Prop :=
 (bif decide (n ≠ 0) then (bif decide ((Int.tmod k n) < 0) then (bif decide (n < (IntKind.i64.wrap (2 * (IntKind.i64.wrap ((Int.tmod k n) + n))))) then (bif decide (n < (IntKind.i64.wrap (4 * (IntKind.i64.wrap (n - (IntKind.i64.wrap ((Int.tmod k n) + n))))))) then ((0 ≤ (IntKind.i64.wrap (n - (IntKind.i64.wrap (2 * (IntKind.i64.wrap (n - (IntKind.i64.wrap ((Int.tmod k n) + n)))))))) ∧ 4 * (IntKind.i64.wrap (n - (IntKind.i64.wrap (2 * (IntKind.i64.wrap (n - (IntKind.i64.wrap ((Int.tmod k n) + n)))))))) ≤ (IntKind.i64.wrap (2 * n)) ∧ 0 < (IntKind.i64.wrap (2 * n)) ∧ (IntKind.i64.wrap (2 * n)) < 100000) ∧
 K (.agg [(.i .i64 (IntKind.i64.wrap (0 - (quarF (IntKind.i64.wrap (n - (IntKind.i64.wrap (2 * (IntKind.i64.wrap (n - (IntKind.i64.wrap ((Int.tmod k n) + n)))))))) (IntKind.i64.wrap (2 * n))).2))), (.i .i64 (IntKind.i64.wrap (0 - (quarF (IntKind.i64.wrap (n - (IntKind.i64.wrap (2 * (IntKind.i64.wrap (n - (IntKind.i64.wrap ((Int.tmod k n) + n)))))))) (IntKind.i64.wrap (2 * n))).1)))]))
 else ((0 ≤ (IntKind.i64.wrap (n - (IntKind.i64.wrap ((Int.tmod k n) + n)))) ∧ 4 * (IntKind.i64.wrap (n - (IntKind.i64.wrap ((Int.tmod k n) + n)))) ≤ n ∧ 0 < n ∧ n < 100000) ∧
 K (.agg [(.i .i64 (quarF (IntKind.i64.wrap (n - (IntKind.i64.wrap ((Int.tmod k n) + n)))) n).1), (.i .i64 (quarF (IntKind.i64.wrap (n - (IntKind.i64.wrap ((Int.tmod k n) + n)))) n).2)])))
 else (bif decide (n < (IntKind.i64.wrap (4 * (IntKind.i64.wrap ((Int.tmod k n) + n))))) then ((0 ≤ (IntKind.i64.wrap (n - (IntKind.i64.wrap (2 * (IntKind.i64.wrap ((Int.tmod k n) + n)))))) ∧ 4 * (IntKind.i64.wrap (n - (IntKind.i64.wrap (2 * (IntKind.i64.wrap ((Int.tmod k n) + n)))))) ≤ (IntKind.i64.wrap (2 * n)) ∧ 0 < (IntKind.i64.wrap (2 * n)) ∧ (IntKind.i64.wrap (2 * n)) < 100000) ∧
 K (.agg [(.i .i64 (IntKind.i64.wrap (0 - (quarF (IntKind.i64.wrap (n - (IntKind.i64.wrap (2 * (IntKind.i64.wrap ((Int.tmod k n) + n)))))) (IntKind.i64.wrap (2 * n))).2))), (.i .i64 (IntKind.i64.wrap (0 - (quarF (IntKind.i64.wrap (n - (IntKind.i64.wrap (2 * (IntKind.i64.wrap ((Int.tmod k n) + n)))))) (IntKind.i64.wrap (2 * n))).1)))]))
 else ((0 ≤ (IntKind.i64.wrap ((Int.tmod k n) + n)) ∧ 4 * (IntKind.i64.wrap ((Int.tmod k n) + n)) ≤ n ∧ 0 < n ∧ n < 100000) ∧
 K (.agg [(.i .i64 (quarF (IntKind.i64.wrap ((Int.tmod k n) + n)) n).1), (.i .i64 (quarF (IntKind.i64.wrap ((Int.tmod k n) + n)) n).2)]))))
 else (bif decide (n < (IntKind.i64.wrap (2 * (Int.tmod k n)))) then (bif decide (n < (IntKind.i64.wrap (4 * (IntKind.i64.wrap (n - (Int.tmod k n)))))) then ((0 ≤ (IntKind.i64.wrap (n - (IntKind.i64.wrap (2 * (IntKind.i64.wrap (n - (Int.tmod k n))))))) ∧ 4 * (IntKind.i64.wrap (n - (IntKind.i64.wrap (2 * (IntKind.i64.wrap (n - (Int.tmod k n))))))) ≤ (IntKind.i64.wrap (2 * n)) ∧ 0 < (IntKind.i64.wrap (2 * n)) ∧ (IntKind.i64.wrap (2 * n)) < 100000) ∧
 K (.agg [(.i .i64 (IntKind.i64.wrap (0 - (quarF (IntKind.i64.wrap (n - (IntKind.i64.wrap (2 * (IntKind.i64.wrap (n - (Int.tmod k n))))))) (IntKind.i64.wrap (2 * n))).2))), (.i .i64 (IntKind.i64.wrap (0 - (quarF (IntKind.i64.wrap (n - (IntKind.i64.wrap (2 * (IntKind.i64.wrap (n - (Int.tmod k n))))))) (IntKind.i64.wrap (2 * n))).1)))]))
 else ((0 ≤ (IntKind.i64.wrap (n - (Int.tmod k n))) ∧ 4 * (IntKind.i64.wrap (n - (Int.tmod k n))) ≤ n ∧ 0 < n ∧ n < 100000) ∧
 K (.agg [(.i .i64 (quarF (IntKind.i64.wrap (n - (Int.tmod k n))) n).1), (.i .i64 (quarF (IntKind.i64.wrap (n - (Int.tmod k n))) n).2)])))
 else (bif decide (n < (IntKind.i64.wrap (4 * (Int.tmod k n)))) then ((0 ≤ (IntKind.i64.wrap (n - (IntKind.i64.wrap (2 * (Int.tmod k n))))) ∧ 4 * (IntKind.i64.wrap (n - (IntKind.i64.wrap (2 * (Int.tmod k n))))) ≤ (IntKind.i64.wrap (2 * n)) ∧ 0 < (IntKind.i64.wrap (2 * n)) ∧ (IntKind.i64.wrap (2 * n)) < 100000) ∧
 K (.agg [(.i .i64 (IntKind.i64.wrap (0 - (quarF (IntKind.i64.wrap (n - (IntKind.i64.wrap (2 * (Int.tmod k n))))) (IntKind.i64.wrap (2 * n))).2))), (.i .i64 (IntKind.i64.wrap (0 - (quarF (IntKind.i64.wrap (n - (IntKind.i64.wrap (2 * (Int.tmod k n))))) (IntKind.i64.wrap (2 * n))).1)))]))
 else ((0 ≤ (Int.tmod k n) ∧ 4 * (Int.tmod k n) ≤ n ∧ 0 < n ∧ n < 100000) ∧
 K (.agg [(.i .i64 (quarF (Int.tmod k n) n).1), (.i .i64 (quarF (Int.tmod k n) n).2)]))))) else False)
theorem nf_ref05_Cosine (k : Int) (n : Int) (K : AV → Prop) : WF G_ref05_Cosine 0 FM_ref05_Cosine [(.i .i64 k), (.i .i64 n)] [] (fun a _ => K a) = NF_ref05_Cosine k n K := by kernel_rfl
theorem key_ref05_Cosine (k : Int) (n : Int) {K : AV → Prop} (hp : I64 k ∧ 1 ≤ n ∧ n ≤ 20000) (hk : K (.agg [(.i .i64 (cosG k n).1), (.i .i64 (cosG k n).2)])) : NF_ref05_Cosine k n K := by
  unfold NF_ref05_Cosine
  obtain ⟨hk1, hn1, hn2⟩ := hp
  have m0 := Int.emod_nonneg k (b := n) (by omega)
  have m1 := Int.emod_lt_of_pos k (b := n) (by omega)
  obtain ⟨b1, b2, em⟩ := tmod_cases (k := k) hn1
  have hn : decide (n ≠ 0) = true := by rw [decide_eq_true_eq]; omega
  simp only [hn, cond_true]
  unfold cosG at hk
  have neg : ∀ {a b : Int}, K (.agg [.i .i64 (negP (quarF a b)).1, .i .i64 (negP (quarF a b)).2]) → K (.agg [(.i .i64 (IntKind.i64.wrap (0 - (quarF a b).2))), (.i .i64 (IntKind.i64.wrap (0 - (quarF a b).1)))]) := by
    intro a b hk
    have r := quarF_range a b
    rw [wrap_i64 (n := 0 - (quarF a b).2) (by omega) (by omega), wrap_i64 (n := 0 - (quarF a b).1) (by omega) (by omega), Int.zero_sub, Int.zero_sub]
    exact hk
  have main : ∀ q : Int, q = k % n → (bif decide (n < IntKind.i64.wrap (2 * q)) then (bif decide (n < (IntKind.i64.wrap (4 * (IntKind.i64.wrap (n - q))))) then ((0 ≤ (IntKind.i64.wrap (n - (IntKind.i64.wrap (2 * (IntKind.i64.wrap (n - q)))))) ∧ 4 * (IntKind.i64.wrap (n - (IntKind.i64.wrap (2 * (IntKind.i64.wrap (n - q)))))) ≤ (IntKind.i64.wrap (2 * n)) ∧ 0 < (IntKind.i64.wrap (2 * n)) ∧ (IntKind.i64.wrap (2 * n)) < 100000) ∧
   K (.agg [(.i .i64 (IntKind.i64.wrap (0 - (quarF (IntKind.i64.wrap (n - (IntKind.i64.wrap (2 * (IntKind.i64.wrap (n - q)))))) (IntKind.i64.wrap (2 * n))).2))), (.i .i64 (IntKind.i64.wrap (0 - (quarF (IntKind.i64.wrap (n - (IntKind.i64.wrap (2 * (IntKind.i64.wrap (n - q)))))) (IntKind.i64.wrap (2 * n))).1)))]))
   else ((0 ≤ (IntKind.i64.wrap (n - q)) ∧ 4 * (IntKind.i64.wrap (n - q)) ≤ n ∧ 0 < n ∧ n < 100000) ∧
   K (.agg [(.i .i64 (quarF (IntKind.i64.wrap (n - q)) n).1), (.i .i64 (quarF (IntKind.i64.wrap (n - q)) n).2)])))
   else (bif decide (n < (IntKind.i64.wrap (4 * q))) then ((0 ≤ (IntKind.i64.wrap (n - (IntKind.i64.wrap (2 * q)))) ∧ 4 * (IntKind.i64.wrap (n - (IntKind.i64.wrap (2 * q)))) ≤ (IntKind.i64.wrap (2 * n)) ∧ 0 < (IntKind.i64.wrap (2 * n)) ∧ (IntKind.i64.wrap (2 * n)) < 100000) ∧
   K (.agg [(.i .i64 (IntKind.i64.wrap (0 - (quarF (IntKind.i64.wrap (n - (IntKind.i64.wrap (2 * q)))) (IntKind.i64.wrap (2 * n))).2))), (.i .i64 (IntKind.i64.wrap (0 - (quarF (IntKind.i64.wrap (n - (IntKind.i64.wrap (2 * q)))) (IntKind.i64.wrap (2 * n))).1)))]))
   else ((0 ≤ q ∧ 4 * q ≤ n ∧ 0 < n ∧ n < 100000) ∧
   K (.agg [(.i .i64 (quarF q n).1), (.i .i64 (quarF q n).2)])))) := by
    intro q hq
    rw [← hq] at hk m0 m1
    rw [wrap_i64 (n := 2 * q) (by omega) (by omega), wrap_i64 (n := n - q) (by omega) (by omega), wrap_i64 (n := 4 * (n - q)) (by omega) (by omega), wrap_i64 (n := 2 * (n - q)) (by omega) (by omega), wrap_i64 (n := n - 2 * (n - q)) (by omega) (by omega), wrap_i64 (n := 2 * n) (by omega) (by omega), wrap_i64 (n := 4 * q) (by omega) (by omega), wrap_i64 (n := n - 2 * q) (by omega) (by omega)]
    refine bif_i (fun h => bif_i (fun h2 => ?_) (fun h2 => ?_)) (fun h => bif_i (fun h2 => ?_) (fun h2 => ?_)) <;> simp only [decide_eq_true_eq, decide_eq_false_iff_not] at h h2
    · rw [show min q (n - q) = n - q by omega, if_pos h2] at hk
      exact ⟨⟨by omega, by omega, by omega, by omega⟩, neg hk⟩
    · rw [show min q (n - q) = n - q by omega, if_neg h2] at hk
      exact ⟨⟨by omega, by omega, by omega, by omega⟩, hk⟩
    · rw [show min q (n - q) = q by omega, if_pos h2] at hk
      exact ⟨⟨by omega, by omega, by omega, by omega⟩, neg hk⟩
    · rw [show min q (n - q) = q by omega, if_neg h2] at hk
      exact ⟨⟨by omega, by omega, by omega, by omega⟩, hk⟩
  refine bif_i (fun h => ?_) (fun h => ?_) <;> simp only [decide_eq_true_eq, decide_eq_false_iff_not] at h
  · have ew : IntKind.i64.wrap (Int.tmod k n + n) = Int.tmod k n + n := wrap_i64 (by omega) (by omega)
    rw [ew]
    exact main _ (by omega)
  · exact main _ (by omega)
theorem ok_ref05_Cosine : SoundN Go.Proofs.Try.prog 47 S_ref05_Cosine := by
  refine soundN_of sg_ref05_Cosine fun args H K hS => ?_
  unfold S_ref05_Cosine at hS
  split at hS
  · rename_i k n
    have hS1 := key_ref05_Cosine k n (K := fun a => plainA a = true ∧ K a) hS.1 ⟨by simp [plainA, plainL], hS.2⟩
    refine ⟨by simp [plainA, plainL], ?_⟩
    rw [nf_ref05_Cosine k n fun a => plainA a = true ∧ K a]
    exact hS1
  · exact hS.elim

def FM_ref05_Cos : FM := ⟨16, [(RV.cells 4 2), (RV.tmp 5)], (MC.seq (MC.ops [⟨(some 4), none, (MI.alloc 23 [(AV.i .i64 0), (AV.i .i64 0)])⟩, ⟨(some 5), none, (MI.mv (MO.c (AV.i .i64 0)))⟩]) (MC.seq (MC.seq (MC.ops [⟨(some 6), none, (MI.mv (MO.t 1))⟩, ⟨(some 7), none, (MI.bin .lss (MO.t 6) (MO.c (AV.i .i64 1)))⟩, ⟨(some 8), none, (MI.mv (MO.t 7))⟩, ⟨(some 9), (some (8, false)), (MI.mv (MO.t 1))⟩, ⟨(some 10), (some (8, false)), (MI.bin .gtr (MO.t 9) (MO.c (AV.i .i64 720)))⟩, ⟨(some 11), none, (MI.pick (MO.t 8) (MO.c (AV.b true)) (MO.t 10))⟩]) (MC.cond (MO.t 11) (MC.seq (MC.ops [⟨(some 12), none, (MI.build [(AV.i .i64 0), (AV.i .i64 0)] [])⟩, ⟨none, none, (MI.store 2 (MO.t 4) (MO.t 12))⟩, ⟨(some 5), none, (MI.mv (MO.c (AV.i .i64 2)))⟩]) MC.ret) MC.skip)) (MC.seq (MC.ops [⟨(some 13), none, (MI.mv (MO.t 0))⟩, ⟨(some 14), none, (MI.mv (MO.t 1))⟩, ⟨(some 15), none, (MI.callN 47 [(MO.t 13), (MO.t 14)])⟩, ⟨none, none, (MI.store 2 (MO.t 4) (MO.t 15))⟩, ⟨(some 5), none, (MI.mv (MO.c (AV.i .i64 0)))⟩]) MC.ret)))⟩
theorem FMc_ref05_Cos : compF Go.Proofs.Try.prog (eqsP Go.Proofs.Try.prog) (neutOf [47]) (neutOf [47]) 15 = some FM_ref05_Cos := by kernel_rfl
def G_ref05_Cos : Gam := mkG [(47, S_ref05_Cosine)] []
theorem sg_ref05_Cos : SoundG Go.Proofs.Try.prog 15 (WF G_ref05_Cos 0 FM_ref05_Cos) := WF_sound (allD_ok (n := G_ref05_Cos.n) (l := [47]) ⟨det_ref05_Cosine, trivial⟩) mixP (mkG_ok (n := [(47, S_ref05_Cosine)]) (g := []) ⟨ok_ref05_Cosine, trivial⟩ trivial) eqsP_ok FMc_ref05_Cos
def S_ref05_Cos : NSpec := fun args _ K => match args with
  | [(.i .i64 k), (.i .i64 n)] => (I64 k ∧ I64 n) ∧ K (.tup [(.agg [(.i .i64 (cosH k n).lo), (.i .i64 (cosH k n).hi)]), (.i .i64 (cosH k n).e)])
  | _ => False
theorem det_ref05_Cos : DetN S_ref05_Cos := by
  intro args H K h
  unfold S_ref05_Cos at h
  split at h
  · exact ⟨_, h.2, fun H' K' _ k => ⟨h.1, k⟩⟩
  · exact h.elim

def NF_ref05_Cos (k : Int) (n : Int) (K : AV → Prop) : Prop :=
 (bif decide (n < 1) then K (.tup [(.agg [(.i .i64 0), (.i .i64 0)]), (.i .i64 2)])
 else (bif decide (720 < n) then K (.tup [(.agg [(.i .i64 0), (.i .i64 0)]), (.i .i64 2)])
 else ((I64 k ∧ 1 ≤ n ∧ n ≤ 20000) ∧
 K (.tup [(.agg [(.i .i64 (cosG k n).1), (.i .i64 (cosG k n).2)]), (.i .i64 0)]))))
theorem nf_ref05_Cos (k : Int) (n : Int) (K : AV → Prop) : WF G_ref05_Cos 0 FM_ref05_Cos [(.i .i64 k), (.i .i64 n)] [] (fun a _ => K a) = NF_ref05_Cos k n K := by kernel_rfl
theorem key_ref05_Cos (k : Int) (n : Int) {K : AV → Prop} (hp : I64 k ∧ I64 n) (hk : K (.tup [(.agg [(.i .i64 (cosH k n).lo), (.i .i64 (cosH k n).hi)]), (.i .i64 (cosH k n).e)])) : NF_ref05_Cos k n K := by
  unfold NF_ref05_Cos
  unfold cosH at hk
  refine bif_i (fun h => K_of hk ?_) (fun h => bif_i (fun h2 => K_of hk ?_) (fun h2 => ⟨?_, K_of hk ?_⟩)) <;> simp only [decide_eq_true_eq, decide_eq_false_iff_not] at h <;> (try simp only [decide_eq_true_eq, decide_eq_false_iff_not] at h2)
  · rw [if_pos (.inl h)]
  · rw [if_pos (.inr h2)]
  · exact ⟨hp.1, by omega, by omega⟩
  · rw [if_neg (by omega)]
theorem ok_ref05_Cos : SoundN Go.Proofs.Try.prog 15 S_ref05_Cos := by
  refine soundN_of sg_ref05_Cos fun args H K hS => ?_
  unfold S_ref05_Cos at hS
  split at hS
  · rename_i k n
    have hS1 := key_ref05_Cos k n (K := fun a => plainA a = true ∧ K a) hS.1 ⟨by simp [plainA, plainL], hS.2⟩
    refine ⟨by simp [plainA, plainL], ?_⟩
    rw [nf_ref05_Cos k n fun a => plainA a = true ∧ K a]
    exact hS1
  · exact hS.elim

def FM_ref05_Sin : FM := ⟨22, [(RV.cells 4 2), (RV.tmp 5)], (MC.seq (MC.ops [⟨(some 4), none, (MI.alloc 23 [(AV.i .i64 0), (AV.i .i64 0)])⟩, ⟨(some 5), none, (MI.mv (MO.c (AV.i .i64 0)))⟩]) (MC.seq (MC.seq (MC.ops [⟨(some 6), none, (MI.mv (MO.t 1))⟩, ⟨(some 7), none, (MI.bin .lss (MO.t 6) (MO.c (AV.i .i64 1)))⟩, ⟨(some 8), none, (MI.mv (MO.t 7))⟩, ⟨(some 9), (some (8, false)), (MI.mv (MO.t 1))⟩, ⟨(some 10), (some (8, false)), (MI.bin .gtr (MO.t 9) (MO.c (AV.i .i64 720)))⟩, ⟨(some 11), none, (MI.pick (MO.t 8) (MO.c (AV.b true)) (MO.t 10))⟩]) (MC.cond (MO.t 11) (MC.seq (MC.ops [⟨(some 12), none, (MI.build [(AV.i .i64 0), (AV.i .i64 0)] [])⟩, ⟨none, none, (MI.store 2 (MO.t 4) (MO.t 12))⟩, ⟨(some 5), none, (MI.mv (MO.c (AV.i .i64 2)))⟩]) MC.ret) MC.skip)) (MC.seq (MC.ops [⟨(some 13), none, (MI.mv (MO.t 1))⟩, ⟨(some 14), none, (MI.mv (MO.t 0))⟩, ⟨(some 15), none, (MI.mv (MO.t 1))⟩, ⟨(some 16), none, (MI.bin .rem (MO.t 14) (MO.t 15))⟩, ⟨(some 17), none, (MI.bin .mul (MO.c (AV.i .i64 4)) (MO.t 16))⟩, ⟨(some 18), none, (MI.bin .sub (MO.t 13) (MO.t 17))⟩, ⟨(some 19), none, (MI.mv (MO.t 1))⟩, ⟨(some 20), none, (MI.bin .mul (MO.c (AV.i .i64 4)) (MO.t 19))⟩, ⟨(some 21), none, (MI.callN 47 [(MO.t 18), (MO.t 20)])⟩, ⟨none, none, (MI.store 2 (MO.t 4) (MO.t 21))⟩, ⟨(some 5), none, (MI.mv (MO.c (AV.i .i64 0)))⟩]) MC.ret)))⟩
theorem FMc_ref05_Sin : compF Go.Proofs.Try.prog (eqsP Go.Proofs.Try.prog) (neutOf [47]) (neutOf [47]) 17 = some FM_ref05_Sin := by kernel_rfl
def G_ref05_Sin : Gam := mkG [(47, S_ref05_Cosine)] []
theorem sg_ref05_Sin : SoundG Go.Proofs.Try.prog 17 (WF G_ref05_Sin 0 FM_ref05_Sin) := WF_sound (allD_ok (n := G_ref05_Sin.n) (l := [47]) ⟨det_ref05_Cosine, trivial⟩) mixP (mkG_ok (n := [(47, S_ref05_Cosine)]) (g := []) ⟨ok_ref05_Cosine, trivial⟩ trivial) eqsP_ok FMc_ref05_Sin
def S_ref05_Sin : NSpec := fun args _ K => match args with
  | [(.i .i64 k), (.i .i64 n)] => (I64 k ∧ I64 n) ∧ K (.tup [(.agg [(.i .i64 (sinH k n).lo), (.i .i64 (sinH k n).hi)]), (.i .i64 (sinH k n).e)])
  | _ => False
theorem det_ref05_Sin : DetN S_ref05_Sin := by
  intro args H K h
  unfold S_ref05_Sin at h
  split at h
  · exact ⟨_, h.2, fun H' K' _ k => ⟨h.1, k⟩⟩
  · exact h.elim

def NF_ref05_Sin (k : Int) (n : Int) (K : AV → Prop) : Prop :=
 (bif decide (n < 1) then K (.tup [(.agg [(.i .i64 0), (.i .i64 0)]), (.i .i64 2)])
 else (bif decide (720 < n) then K (.tup [(.agg [(.i .i64 0), (.i .i64 0)]), (.i .i64 2)])
 else (bif decide (n ≠ 0) then ((I64 (IntKind.i64.wrap (n - (IntKind.i64.wrap (4 * (Int.tmod k n))))) ∧ 1 ≤ (IntKind.i64.wrap (4 * n)) ∧ (IntKind.i64.wrap (4 * n)) ≤ 20000) ∧
 K (.tup [(.agg [(.i .i64 (cosG (IntKind.i64.wrap (n - (IntKind.i64.wrap (4 * (Int.tmod k n))))) (IntKind.i64.wrap (4 * n))).1), (.i .i64 (cosG (IntKind.i64.wrap (n - (IntKind.i64.wrap (4 * (Int.tmod k n))))) (IntKind.i64.wrap (4 * n))).2)]), (.i .i64 0)])) else False)))
theorem nf_ref05_Sin (k : Int) (n : Int) (K : AV → Prop) : WF G_ref05_Sin 0 FM_ref05_Sin [(.i .i64 k), (.i .i64 n)] [] (fun a _ => K a) = NF_ref05_Sin k n K := by kernel_rfl
theorem key_ref05_Sin (k : Int) (n : Int) {K : AV → Prop} (hp : I64 k ∧ I64 n) (hk : K (.tup [(.agg [(.i .i64 (sinH k n).lo), (.i .i64 (sinH k n).hi)]), (.i .i64 (sinH k n).e)])) : NF_ref05_Sin k n K := by
  unfold NF_ref05_Sin
  unfold sinH at hk
  refine bif_i (fun h => K_of hk ?_) (fun h => bif_i (fun h2 => K_of hk ?_) (fun h2 => bif_i (fun _ => ?_) (fun h3 => ?_))) <;> simp only [decide_eq_true_eq, decide_eq_false_iff_not] at h <;> (try simp only [decide_eq_true_eq, decide_eq_false_iff_not] at h2) <;> (try simp only [decide_eq_true_eq, decide_eq_false_iff_not] at h3)
  · rw [if_pos (.inl h)]
  · rw [if_pos (.inr h2)]
  · have q := Int.tmod_add_mul_tdiv k n
    have b1 := tmod_emod (x := k) (d := n) (by omega)
    have b2 := Int.emod_nonneg k (b := n) (by omega)
    have b3 := Int.emod_lt_of_pos k (b := n) (by omega)
    have b4 := Int.emod_nonneg (-k) (b := n) (by omega)
    have b5 := Int.emod_lt_of_pos (-k) (b := n) (by omega)
    have b6 : -n < Int.tmod k n ∧ Int.tmod k n < n := by split at b1 <;> omega
    have ew : IntKind.i64.wrap (n - IntKind.i64.wrap (4 * Int.tmod k n)) = n - 4 * Int.tmod k n := by
      rw [wrap_i64 (n := 4 * Int.tmod k n) (by omega) (by omega), wrap_i64 (by omega) (by omega)]
    have ef : cosG (n - 4 * k) (4 * n) = cosG (n - 4 * Int.tmod k n) (4 * n) := by
      have : n - 4 * k = (n - 4 * Int.tmod k n) + 4 * n * -(Int.tdiv k n) := by rw [Int.mul_neg, Int.mul_assoc]; omega
      rw [this, cosG_shift]
    rw [ew, wrap_i64 (n := 4 * n) (by omega) (by omega)]
    refine ⟨⟨⟨by omega, by omega⟩, by omega, by omega⟩, K_of hk ?_⟩
    rw [if_neg (by omega), ef]
  · omega
theorem ok_ref05_Sin : SoundN Go.Proofs.Try.prog 17 S_ref05_Sin := by
  refine soundN_of sg_ref05_Sin fun args H K hS => ?_
  unfold S_ref05_Sin at hS
  split at hS
  · rename_i k n
    have hS1 := key_ref05_Sin k n (K := fun a => plainA a = true ∧ K a) hS.1 ⟨by simp [plainA, plainL], hS.2⟩
    refine ⟨by simp [plainA, plainL], ?_⟩
    rw [nf_ref05_Sin k n fun a => plainA a = true ∧ K a]
    exact hS1
  · exact hS.elim

end Go.Proofs.Ytkmhmabkahaekaa.V
