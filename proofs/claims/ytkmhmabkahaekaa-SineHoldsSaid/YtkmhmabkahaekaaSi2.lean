/-
  Contracts, printed by a program of this session (wip/tool/sym.py) from the unit text si2: what each function comes to, and its proof.
-/
import Derived.Test.YtkmhmabkahaekaaSi1
import Derived.Test.YtkmhmabkahaekaaProg
import Derived.Test.YtkmhmabkahaekaaFin0
set_option linter.unusedVariables false
set_option linter.unusedSimpArgs false
set_option maxRecDepth 100000
namespace Go.Proofs.Ytkmhmabkahaekaa.V
open Go Go.RowKit
open Go.IntKind (u64 i64 u8 i32 u32)


def itC (sq : Nat) : Nat → Nat
  | 0 => 1000000000000000000
  | m + 1 => Fin.cP sq (itC sq m) (2 * (13 - m) * (2 * (13 - m) - 1))
def itS (sq : Nat) : Nat → Nat
  | 0 => 1000000000000000000
  | m + 1 => Fin.cP sq (itS sq m) (2 * (13 - m) * (2 * (13 - m) + 1))
theorem itC_13 (sq : Nat) : itC sq 13 = Fin.cosPs sq := rfl
theorem itS_13 (sq : Nat) : itS sq 13 = Fin.sinPs sq := rfl
theorem itC_le (sq : Nat) : ∀ m, itC sq m ≤ 1000000000000000000
  | 0 => Nat.le_refl _
  | m + 1 => Nat.sub_le _ _
theorem itS_le (sq : Nat) : ∀ m, itS sq m ≤ 1000000000000000000
  | 0 => Nat.le_refl _
  | m + 1 => Nat.sub_le _ _
/-- The cosine and the sine of k / n of a turn, at the program's scale. -/
def cosV (k n : Int) : Int := ((Fin.cosPs (Fin.sqP (Fin.angP k.toNat n.toNat)) : Nat) : Int)
def sinV (k n : Int) : Int := ((Nat.div (Nat.mul (Fin.sinPs (Fin.sqP (Fin.angP k.toNat n.toNat))) (Fin.angP k.toNat n.toNat)) 1000000000000000000 : Nat) : Int)
def FirstP (k m : Int) : Prop := 0 ≤ k ∧ 8 * k ≤ m ∧ 0 < m ∧ m < 1000000
def FirstI (k m : Int) (j : Nat) (c s i : Int) : Prop := FirstP k m ∧ j ≤ 13 ∧ i = 13 - (j : Int) ∧ c = ((itC (Fin.sqP (Fin.angP k.toNat m.toNat)) j : Nat) : Int) ∧ s = ((itS (Fin.sqP (Fin.angP k.toNat m.toNat)) j : Nat) : Int)
theorem first_ang {k m : Int} (h : FirstP k m) : 6283185307179586477 * k / m = ((Fin.angP k.toNat m.toNat : Nat) : Int) ∧ Fin.angP k.toNat m.toNat ≤ 785398163397448309 := by
  obtain ⟨h1, h2, h3, h4⟩ := h
  obtain ⟨a, rfl⟩ := Int.eq_ofNat_of_zero_le h1
  obtain ⟨b, rfl⟩ := Int.eq_ofNat_of_zero_le (Int.le_of_lt h3)
  simp only [Int.toNat_natCast]
  have e : Fin.angP a b = 6283185307179586477 * a / b := rfl
  rw [e]
  refine ⟨by simp, ?_⟩
  have : 6283185307179586477 * a / b < 785398163397448310 := by
    rw [Nat.div_lt_iff_lt_mul (by omega)]; omega
  omega
theorem first_sq (x : Nat) (hx : x ≤ 785398163397448309) : (x : Int) * (x : Int) / 1000000000000000000 = ((Fin.sqP x : Nat) : Int) ∧ Fin.sqP x ≤ 1000000000000000000 := by
  have e : Fin.sqP x = x * x / 1000000000000000000 := rfl
  rw [e]
  refine ⟨by simp, ?_⟩
  have h1 : x * x ≤ 785398163397448309 * 785398163397448309 := Nat.mul_le_mul hx hx
  omega
theorem dC_all : ((List.range 13).all fun j => decide (u64.wrap (u64.wrap (2 * (13 - (j : Int))) * u64.wrap (u64.wrap (2 * (13 - (j : Int))) - 1)) = ((2 * (13 - j) * (2 * (13 - j) - 1) : Nat) : Int) ∧ u64.wrap (u64.wrap (2 * (13 - (j : Int))) * u64.wrap (u64.wrap (2 * (13 - (j : Int))) + 1)) = ((2 * (13 - j) * (2 * (13 - j) + 1) : Nat) : Int) ∧ 0 < 2 * (13 - j) * (2 * (13 - j) - 1) ∧ 0 < 2 * (13 - j) * (2 * (13 - j) + 1))) = true := by decide +kernel
theorem dC {j : Nat} (h : j < 13) : u64.wrap (u64.wrap (2 * (13 - (j : Int))) * u64.wrap (u64.wrap (2 * (13 - (j : Int))) - 1)) = ((2 * (13 - j) * (2 * (13 - j) - 1) : Nat) : Int) ∧ u64.wrap (u64.wrap (2 * (13 - (j : Int))) * u64.wrap (u64.wrap (2 * (13 - (j : Int))) + 1)) = ((2 * (13 - j) * (2 * (13 - j) + 1) : Nat) : Int) ∧ 0 < 2 * (13 - j) * (2 * (13 - j) - 1) ∧ 0 < 2 * (13 - j) * (2 * (13 - j) + 1) := by
  have := List.all_eq_true.1 dC_all j (List.mem_range.2 h)
  exact of_decide_eq_true this
theorem cP_cast {sq c d : Nat} (hs : sq ≤ 1000000000000000000) (hc : c ≤ 1000000000000000000) :
    u64.wrap (1000000000000000000 - u64.wrap (Int.tdiv ((c : Int) * (sq : Int) / 1000000000000000000) (d : Int))) = ((Fin.cP sq c d : Nat) : Int) := by
  have e : Fin.cP sq c d = 1000000000000000000 - c * sq / 1000000000000000000 / d := rfl
  rw [e]
  have h1 : c * sq ≤ 1000000000000000000 * 1000000000000000000 := Nat.mul_le_mul hc hs
  have h2 : c * sq / 1000000000000000000 ≤ 1000000000000000000 := by omega
  have h3 : c * sq / 1000000000000000000 / d ≤ c * sq / 1000000000000000000 := Nat.div_le_self _ _
  have e2 : Int.tdiv ((c : Int) * (sq : Int) / 1000000000000000000) (d : Int) = ((c * sq / 1000000000000000000 / d : Nat) : Int) := by
    rw [tdiv_pos (Int.ediv_nonneg (Int.mul_nonneg (by omega) (by omega)) (by omega))]
    simp
  rw [e2]
  generalize c * sq / 1000000000000000000 / d = z at *
  rw [wrap_u64 (n := (z : Int)) (by omega) (by omega), wrap_u64 (by omega) (by omega)]
  omega
theorem mul_small {c sq : Nat} (hs : sq ≤ 1000000000000000000) (hc : c ≤ 1000000000000000000) : (c : Int) * (sq : Int) < 1000000000000000000 * 18446744073709551616 := by
  have h1 : c * sq ≤ 1000000000000000000 * 1000000000000000000 := Nat.mul_le_mul hc hs
  rw [← Int.natCast_mul]
  omega
theorem cosPs_le (sq : Nat) : Fin.cosPs sq ≤ 1000000000000000000 := Nat.sub_le _ _
theorem sinPs_le (sq : Nat) : Fin.sinPs sq ≤ 1000000000000000000 := Nat.sub_le _ _
/-- The enclosure of an octant. -/
def octF (k n : Int) (s : Bool) : Int × Int :=
  if k = 0 then (if s then (0, 0) else (1000000, 1000000))
  else if s = true ∧ 12 * k = n then (500000, 500000)
  else if s then ((Fin.sinMP (Fin.angP k.toNat n.toNat) : Nat), (Fin.sinMP (Fin.angP k.toNat n.toNat) : Nat) + 1)
  else ((Fin.cosMP (Fin.angP k.toNat n.toNat) : Nat), (Fin.cosMP (Fin.angP k.toNat n.toNat) : Nat) + 1)
theorem sinV_div {k n : Int} (h : FirstP k n) : i64.wrap (u64.wrap (Int.tdiv (sinV k n) 1000000000000)) = ((Fin.sinMP (Fin.angP k.toNat n.toNat) : Nat) : Int) ∧ Fin.sinMP (Fin.angP k.toNat n.toNat) ≤ 1000000 := by
  obtain ⟨_, h1⟩ := first_ang h
  have hs := sinPs_le (Fin.sqP (Fin.angP k.toNat n.toNat))
  have e : Fin.sinMP (Fin.angP k.toNat n.toNat) = Nat.div (Nat.mul (Fin.sinPs (Fin.sqP (Fin.angP k.toNat n.toNat))) (Fin.angP k.toNat n.toNat)) 1000000000000000000 / 1000000000000 := rfl
  rw [e]
  unfold sinV
  have m := Nat.mul_le_mul hs h1
  have b : Nat.div (Nat.mul (Fin.sinPs (Fin.sqP (Fin.angP k.toNat n.toNat))) (Fin.angP k.toNat n.toNat)) 1000000000000000000 ≤ 785398163397448309 := by
    show Fin.sinPs (Fin.sqP (Fin.angP k.toNat n.toNat)) * Fin.angP k.toNat n.toNat / 1000000000000000000 ≤ _
    omega
  generalize Nat.div (Nat.mul (Fin.sinPs (Fin.sqP (Fin.angP k.toNat n.toNat))) (Fin.angP k.toNat n.toNat)) 1000000000000000000 = z at *
  rw [tdiv_pos (by omega)]
  rw [wrap_u64 (by omega) (by omega), wrap_i64 (by omega) (by omega)]
  omega
theorem cosV_div {k n : Int} (h : FirstP k n) : i64.wrap (u64.wrap (Int.tdiv (cosV k n) 1000000000000)) = ((Fin.cosMP (Fin.angP k.toNat n.toNat) : Nat) : Int) ∧ Fin.cosMP (Fin.angP k.toNat n.toNat) ≤ 1000000 := by
  have hs := cosPs_le (Fin.sqP (Fin.angP k.toNat n.toNat))
  have e : Fin.cosMP (Fin.angP k.toNat n.toNat) = Fin.cosPs (Fin.sqP (Fin.angP k.toNat n.toNat)) / 1000000000000 := rfl
  rw [e]
  unfold cosV
  generalize Fin.cosPs (Fin.sqP (Fin.angP k.toNat n.toNat)) = z at *
  rw [tdiv_pos (by omega)]
  rw [wrap_u64 (by omega) (by omega), wrap_i64 (by omega) (by omega)]
  omega
theorem octF_range {k n : Int} {s : Bool} (h : FirstP k n) : (0 ≤ (octF k n s).1 ∧ (octF k n s).1 ≤ 1000000) ∧ 0 ≤ (octF k n s).2 ∧ (octF k n s).2 ≤ 1000001 := by
  have h1 := (sinV_div h).2
  have h2 := (cosV_div h).2
  unfold octF
  split
  · split <;> simp
  · split
    · simp
    · split <;> simp only <;> omega
def negP (p : Int × Int) : Int × Int := (-p.2, -p.1)
/-- The enclosure of a cosine, by octants. -/
def cosQ (q n : Int) : Int × Int :=
  if 3 * n < 8 * q then negP (octF (4 * n - 8 * q) (8 * n) false)
  else if 2 * n < 8 * q then negP (octF (8 * q - 2 * n) (8 * n) true)
  else if n < 8 * q then octF (2 * n - 8 * q) (8 * n) true
  else octF (8 * q) (8 * n) false
def cosF (k n : Int) : Int × Int := cosQ (min (k % n) (n - k % n)) n
structure SE where
  lo : Int
  hi : Int
  e : Int
def cosE (k n : Int) : SE := if n < 1 ∨ 720 < n then ⟨0, 0, 2⟩ else ⟨(cosF k n).1, (cosF k n).2, 0⟩
def sinE (k n : Int) : SE := if n < 1 ∨ 720 < n then ⟨0, 0, 2⟩ else ⟨(cosF (4 * k - n) (4 * n)).1, (cosF (4 * k - n) (4 * n)).2, 0⟩
theorem tmod_add_mod {k n : Int} (hk : I64 k) (h : 1 ≤ n) (h2 : n ≤ 100000) : Int.tmod (i64.wrap (Int.tmod k n + n)) n = k % n ∧ 0 ≤ k % n ∧ k % n < n := by
  have m0 := Int.emod_nonneg k (b := n) (by omega)
  have m1 := Int.emod_lt_of_pos k (b := n) (by omega)
  have m2 := Int.emod_nonneg (-k) (b := n) (by omega)
  have m3 := Int.emod_lt_of_pos (-k) (b := n) (by omega)
  refine ⟨?_, m0, m1⟩
  have e := tmod_emod (x := k) (d := n) (by omega)
  by_cases h0 : 0 ≤ k
  · rw [if_pos h0] at e
    rw [e, wrap_i64 (by omega) (by omega), tmod_pos (by omega), Int.add_emod_right, Int.emod_emod]
  · rw [if_neg h0] at e
    rw [e, wrap_i64 (by omega) (by omega), tmod_pos (by omega)]
    have q := Int.mul_ediv_add_emod (-k) n
    rw [show -(-k % n) + n = k + n * (-k / n + 1) by rw [Int.mul_add]; omega, Int.add_mul_emod_self_left]
theorem tmod_cases {k n : Int} (h : 1 ≤ n) : -n < Int.tmod k n ∧ Int.tmod k n < n ∧ ((Int.tmod k n < 0 ∧ Int.tmod k n + n = k % n) ∨ (0 ≤ Int.tmod k n ∧ Int.tmod k n = k % n)) := by
  have q := Int.tmod_add_mul_tdiv k n
  have b1 := tmod_emod (x := k) (d := n) (by omega)
  have b2 := Int.emod_nonneg k (b := n) (by omega)
  have b3 := Int.emod_lt_of_pos k (b := n) (by omega)
  have b4 := Int.emod_nonneg (-k) (b := n) (by omega)
  have b5 := Int.emod_lt_of_pos (-k) (b := n) (by omega)
  have b6 : -n < Int.tmod k n ∧ Int.tmod k n < n := by split at b1 <;> omega
  refine ⟨b6.1, b6.2, ?_⟩
  have e : k % n = Int.tmod k n % n := by
    have := Int.add_mul_emod_self_left (Int.tmod k n) n (Int.tdiv k n)
    rw [q] at this; exact this
  by_cases h0 : Int.tmod k n < 0
  · refine .inl ⟨h0, ?_⟩
    rw [e, ← Int.add_emod_right, Int.emod_eq_of_lt (by omega) (by omega)]
  · refine .inr ⟨by omega, ?_⟩
    rw [e, Int.emod_eq_of_lt (by omega) (by omega)]
theorem cosF_shift {k n : Int} (j : Int) : cosF (k + n * j) n = cosF k n := by
  unfold cosF; rw [Int.add_mul_emod_self_left]

def FM_sine_part : FM := ⟨25, [(RV.tmp 6)], (MC.seq (MC.ops [⟨(some 6), none, (MI.mv (MO.c (AV.i .u64 0)))⟩]) (MC.seq (MC.ops [⟨(some 12), none, (MI.mv (MO.t 0))⟩, ⟨(some 13), none, (MI.mv (MO.t 1))⟩, ⟨(some 14), none, (MI.callN 54 [(MO.t 12), (MO.t 13)])⟩, ⟨(some 11), none, (MI.mv (MO.t 14))⟩, ⟨(some 15), none, (MI.ext (MO.t 11) 0)⟩, ⟨(some 16), none, (MI.ext (MO.t 11) 1)⟩, ⟨(some 7), none, (MI.mv (MO.t 15))⟩, ⟨(some 8), none, (MI.mv (MO.t 16))⟩]) (MC.seq (MC.ops [⟨(some 18), none, (MI.mv (MO.t 7))⟩, ⟨(some 19), none, (MI.mv (MO.t 8))⟩, ⟨(some 20), none, (MI.mv (MO.t 2))⟩, ⟨(some 21), none, (MI.callN 55 [(MO.t 18), (MO.t 19), (MO.t 20)])⟩, ⟨(some 17), none, (MI.mv (MO.t 21))⟩, ⟨(some 22), none, (MI.ext (MO.t 17) 0)⟩, ⟨(some 23), none, (MI.ext (MO.t 17) 1)⟩, ⟨(some 9), none, (MI.mv (MO.t 22))⟩, ⟨(some 10), none, (MI.mv (MO.t 23))⟩]) (MC.seq (MC.ops [⟨(some 24), none, (MI.mv (MO.t 9))⟩, ⟨(some 6), none, (MI.mv (MO.t 24))⟩]) MC.ret))))⟩
theorem FMc_sine_part : compF Go.Proofs.Try.prog (eqsP Go.Proofs.Try.prog) (neutOf [54, 55]) (neutOf [54, 55]) 93 = some FM_sine_part := by kernel_rfl
def G_sine_part : Gam := mkG [(54, S_math_bits_Mul64), (55, S_math_bits_Div64)] []
theorem sg_sine_part : SoundG Go.Proofs.Try.prog 93 (WF G_sine_part 0 FM_sine_part) := WF_sound (allD_ok (n := G_sine_part.n) (l := [54, 55]) ⟨det_math_bits_Mul64, det_math_bits_Div64, trivial⟩) mixP (mkG_ok (n := [(54, S_math_bits_Mul64), (55, S_math_bits_Div64)]) (g := []) ⟨ok_math_bits_Mul64, ok_math_bits_Div64, trivial⟩ trivial) eqsP_ok FMc_sine_part
def S_sine_part : NSpec := fun args _ K => match args with
  | [(.i .u64 a), (.i .u64 b), (.i .u64 c)] => ((U64 a ∧ U64 b) ∧ (0 < c ∧ U64 c) ∧ a * b < c * 18446744073709551616) ∧ K (.i .u64 (a * b / c))
  | _ => False
theorem det_sine_part : DetN S_sine_part := by
  intro args H K h
  unfold S_sine_part at h
  split at h
  · exact ⟨_, h.2, fun H' K' _ k => ⟨h.1, k⟩⟩
  · exact h.elim

def NF_sine_part (a b c : Int) (K : AV → Prop) : Prop :=
 ((U64 a ∧ U64 b) ∧
 (((U64 (a * b / 18446744073709551616) ∧ U64 (a * b % 18446744073709551616)) ∧ (a * b / 18446744073709551616) < c ∧ U64 c) ∧
 K (.i .u64 (((a * b / 18446744073709551616) * 18446744073709551616 + (a * b % 18446744073709551616)) / c))))
theorem nf_sine_part (a b c : Int) (K : AV → Prop) : WF G_sine_part 0 FM_sine_part [(.i .u64 a), (.i .u64 b), (.i .u64 c)] [] (fun a _ => K a) = NF_sine_part a b c K := by kernel_rfl
theorem key_sine_part (a b c : Int) {K : AV → Prop} (hp : (U64 a ∧ U64 b) ∧ (0 < c ∧ U64 c) ∧ a * b < c * 18446744073709551616) (hk : K (.i .u64 (a * b / c))) : NF_sine_part a b c K := by
  unfold NF_sine_part
  obtain ⟨⟨ha, hb⟩, ⟨hc0, hc⟩, hm⟩ := hp
  have p0 : 0 ≤ a * b := Int.mul_nonneg ha.1 hb.1
  have hc2 := hc.2
  refine ⟨⟨ha, hb⟩, ⟨⟨?_, ?_⟩, ?_, hc⟩, K_of hk (by rw [wide_val])⟩
  · generalize a * b = P at *; unfold U64; omega
  · generalize a * b = P at *; unfold U64; omega
  · generalize a * b = P at *; omega
theorem ok_sine_part : SoundN Go.Proofs.Try.prog 93 S_sine_part := by
  refine soundN_of sg_sine_part fun args H K hS => ?_
  unfold S_sine_part at hS
  split at hS
  · rename_i a b c
    have hS1 := key_sine_part a b c (K := fun a => plainA a = true ∧ K a) hS.1 ⟨by simp [plainA, plainL], hS.2⟩
    refine ⟨by simp [plainA, plainL], ?_⟩
    rw [nf_sine_part a b c fun a => plainA a = true ∧ K a]
    exact hS1
  · exact hS.elim

def MC_sine_first_0 : MC := (MC.seq (MC.seq (MC.ops [⟨(some 15), none, (MI.mv (MO.t 8))⟩, ⟨(some 16), none, (MI.bin .gtr (MO.t 15) (MO.c (AV.i .u64 0)))⟩]) (MC.cond (MO.t 16) MC.skip (MC.exit 0))) (MC.seq (MC.block 1 (MC.seq (MC.ops [⟨(some 19), none, (MI.mv (MO.t 4))⟩, ⟨(some 20), none, (MI.mv (MO.t 7))⟩, ⟨(some 21), none, (MI.callN 93 [(MO.t 19), (MO.t 20), (MO.c (AV.i .u64 1000000000000000000))])⟩, ⟨(some 22), none, (MI.mv (MO.t 8))⟩, ⟨(some 23), none, (MI.bin .mul (MO.c (AV.i .u64 2)) (MO.t 22))⟩, ⟨(some 24), none, (MI.mv (MO.t 8))⟩, ⟨(some 25), none, (MI.bin .mul (MO.c (AV.i .u64 2)) (MO.t 24))⟩, ⟨(some 26), none, (MI.bin .sub (MO.t 25) (MO.c (AV.i .u64 1)))⟩, ⟨(some 27), none, (MI.bin .mul (MO.t 23) (MO.t 26))⟩, ⟨(some 28), none, (MI.bin .quo (MO.t 21) (MO.t 27))⟩, ⟨(some 29), none, (MI.bin .sub (MO.c (AV.i .u64 1000000000000000000)) (MO.t 28))⟩, ⟨(some 4), none, (MI.mv (MO.t 29))⟩]) (MC.ops [⟨(some 30), none, (MI.mv (MO.t 5))⟩, ⟨(some 31), none, (MI.mv (MO.t 7))⟩, ⟨(some 32), none, (MI.callN 93 [(MO.t 30), (MO.t 31), (MO.c (AV.i .u64 1000000000000000000))])⟩, ⟨(some 33), none, (MI.mv (MO.t 8))⟩, ⟨(some 34), none, (MI.bin .mul (MO.c (AV.i .u64 2)) (MO.t 33))⟩, ⟨(some 35), none, (MI.mv (MO.t 8))⟩, ⟨(some 36), none, (MI.bin .mul (MO.c (AV.i .u64 2)) (MO.t 35))⟩, ⟨(some 37), none, (MI.bin .add (MO.t 36) (MO.c (AV.i .u64 1)))⟩, ⟨(some 38), none, (MI.bin .mul (MO.t 34) (MO.t 37))⟩, ⟨(some 39), none, (MI.bin .quo (MO.t 32) (MO.t 38))⟩, ⟨(some 40), none, (MI.bin .sub (MO.c (AV.i .u64 1000000000000000000)) (MO.t 39))⟩, ⟨(some 5), none, (MI.mv (MO.t 40))⟩]))) (MC.ops [⟨(some 17), none, (MI.mv (MO.t 8))⟩, ⟨(some 18), none, (MI.bin .sub (MO.t 17) (MO.c (AV.i .u64 1)))⟩, ⟨(some 8), none, (MI.mv (MO.t 18))⟩])))
def MC_sine_first_1 : MC := (MC.seq (MC.ops [⟨(some 41), none, (MI.mv (MO.t 4))⟩, ⟨(some 42), none, (MI.mv (MO.t 5))⟩, ⟨(some 43), none, (MI.mv (MO.t 6))⟩, ⟨(some 44), none, (MI.callN 93 [(MO.t 42), (MO.t 43), (MO.c (AV.i .u64 1000000000000000000))])⟩, ⟨(some 4), none, (MI.mv (MO.t 41))⟩, ⟨(some 5), none, (MI.mv (MO.t 44))⟩]) MC.ret)
def RES_sine_first : List RV := [(RV.tmp 4), (RV.tmp 5)]
def FM_sine_first : FM := ⟨45, RES_sine_first, (MC.seq (MC.ops [⟨(some 4), none, (MI.mv (MO.c (AV.i .u64 0)))⟩, ⟨(some 5), none, (MI.mv (MO.c (AV.i .u64 0)))⟩]) (MC.seq (MC.ops [⟨(some 9), none, (MI.mv (MO.t 0))⟩, ⟨(some 10), none, (MI.mv (MO.t 1))⟩, ⟨(some 11), none, (MI.callN 93 [(MO.c (AV.i .u64 6283185307179586477)), (MO.t 9), (MO.t 10)])⟩, ⟨(some 6), none, (MI.mv (MO.t 11))⟩]) (MC.seq (MC.ops [⟨(some 12), none, (MI.mv (MO.t 6))⟩, ⟨(some 13), none, (MI.mv (MO.t 6))⟩, ⟨(some 14), none, (MI.callN 93 [(MO.t 12), (MO.t 13), (MO.c (AV.i .u64 1000000000000000000))])⟩, ⟨(some 7), none, (MI.mv (MO.t 14))⟩]) (MC.seq (MC.ops [⟨(some 4), none, (MI.mv (MO.c (AV.i .u64 1000000000000000000)))⟩, ⟨(some 5), none, (MI.mv (MO.c (AV.i .u64 1000000000000000000)))⟩]) (MC.seq (MC.seq (MC.ops [⟨(some 8), none, (MI.mv (MO.c (AV.i .u64 13)))⟩]) (MC.block 0 (MC.loop MC_sine_first_0))) MC_sine_first_1)))))⟩
theorem FMc_sine_first : compF Go.Proofs.Try.prog (eqsP Go.Proofs.Try.prog) (neutOf [93]) (neutOf [93]) 84 = some FM_sine_first := by kernel_rfl
def G_sine_first : Gam := mkG [(93, S_sine_part)] []
theorem sg_sine_first : SoundG Go.Proofs.Try.prog 84 (WF G_sine_first 0 FM_sine_first) := WF_sound (allD_ok (n := G_sine_first.n) (l := [93]) ⟨det_sine_part, trivial⟩) mixP (mkG_ok (n := [(93, S_sine_part)]) (g := []) ⟨ok_sine_part, trivial⟩ trivial) eqsP_ok FMc_sine_first
def S_sine_first : NSpec := fun args _ K => match args with
  | [(.i .u64 k), (.i .u64 m)] => (FirstP k m) ∧ K (.tup [(.i .u64 (cosV k m)), (.i .u64 (sinV k m))])
  | _ => False
theorem det_sine_first : DetN S_sine_first := by
  intro args H K h
  unfold S_sine_first at h
  split at h
  · exact ⟨_, h.2, fun H' K' _ k => ⟨h.1, k⟩⟩
  · exact h.elim

def RL_sine_first_1 (k m c_0 s_0 i_0 : Int) (J_0 : Nat → AV) : List AV := [(.i .u64 k), (.i .u64 m), (.v undef), (.v undef), (.i .u64 c_0), (.i .u64 s_0), (.i .u64 ((6283185307179586477 : Int) * k / m)), (.i .u64 (((6283185307179586477 : Int) * k / m) * ((6283185307179586477 : Int) * k / m) / (1000000000000000000 : Int))), (.i .u64 i_0), (.i .u64 k), (.i .u64 m), (.i .u64 ((6283185307179586477 : Int) * k / m)), (.i .u64 ((6283185307179586477 : Int) * k / m)), (.i .u64 ((6283185307179586477 : Int) * k / m)), (.i .u64 (((6283185307179586477 : Int) * k / m) * ((6283185307179586477 : Int) * k / m) / (1000000000000000000 : Int))), (J_0 15), (J_0 16), (J_0 17), (J_0 18), (J_0 19), (J_0 20), (J_0 21), (J_0 22), (J_0 23), (J_0 24), (J_0 25), (J_0 26), (J_0 27), (J_0 28), (J_0 29), (J_0 30), (J_0 31), (J_0 32), (J_0 33), (J_0 34), (J_0 35), (J_0 36), (J_0 37), (J_0 38), (J_0 39), (J_0 40), (.v undef), (.v undef), (.v undef), (.v undef)]
def RL_sine_first_2 (k m c_0 s_0 i_0 : Int) : List AV := [(.i .u64 k), (.i .u64 m), (.v undef), (.v undef), (.i .u64 (u64.wrap (1000000000000000000 - (u64.wrap (Int.tdiv (c_0 * (((6283185307179586477 : Int) * k / m) * ((6283185307179586477 : Int) * k / m) / (1000000000000000000 : Int)) / (1000000000000000000 : Int)) (u64.wrap ((u64.wrap (2 * i_0)) * (u64.wrap ((u64.wrap (2 * i_0)) - 1))))))))), (.i .u64 (u64.wrap (1000000000000000000 - (u64.wrap (Int.tdiv (s_0 * (((6283185307179586477 : Int) * k / m) * ((6283185307179586477 : Int) * k / m) / (1000000000000000000 : Int)) / (1000000000000000000 : Int)) (u64.wrap ((u64.wrap (2 * i_0)) * (u64.wrap ((u64.wrap (2 * i_0)) + 1))))))))), (.i .u64 ((6283185307179586477 : Int) * k / m)), (.i .u64 (((6283185307179586477 : Int) * k / m) * ((6283185307179586477 : Int) * k / m) / (1000000000000000000 : Int))), (.i .u64 (u64.wrap (i_0 - 1))), (.i .u64 k), (.i .u64 m), (.i .u64 ((6283185307179586477 : Int) * k / m)), (.i .u64 ((6283185307179586477 : Int) * k / m)), (.i .u64 ((6283185307179586477 : Int) * k / m)), (.i .u64 (((6283185307179586477 : Int) * k / m) * ((6283185307179586477 : Int) * k / m) / (1000000000000000000 : Int))), (.i .u64 i_0), (.b true), (.i .u64 i_0), (.i .u64 (u64.wrap (i_0 - 1))), (.i .u64 c_0), (.i .u64 (((6283185307179586477 : Int) * k / m) * ((6283185307179586477 : Int) * k / m) / (1000000000000000000 : Int))), (.i .u64 (c_0 * (((6283185307179586477 : Int) * k / m) * ((6283185307179586477 : Int) * k / m) / (1000000000000000000 : Int)) / (1000000000000000000 : Int))), (.i .u64 i_0), (.i .u64 (u64.wrap (2 * i_0))), (.i .u64 i_0), (.i .u64 (u64.wrap (2 * i_0))), (.i .u64 (u64.wrap ((u64.wrap (2 * i_0)) - 1))), (.i .u64 (u64.wrap ((u64.wrap (2 * i_0)) * (u64.wrap ((u64.wrap (2 * i_0)) - 1))))), (.i .u64 (u64.wrap (Int.tdiv (c_0 * (((6283185307179586477 : Int) * k / m) * ((6283185307179586477 : Int) * k / m) / (1000000000000000000 : Int)) / (1000000000000000000 : Int)) (u64.wrap ((u64.wrap (2 * i_0)) * (u64.wrap ((u64.wrap (2 * i_0)) - 1))))))), (.i .u64 (u64.wrap (1000000000000000000 - (u64.wrap (Int.tdiv (c_0 * (((6283185307179586477 : Int) * k / m) * ((6283185307179586477 : Int) * k / m) / (1000000000000000000 : Int)) / (1000000000000000000 : Int)) (u64.wrap ((u64.wrap (2 * i_0)) * (u64.wrap ((u64.wrap (2 * i_0)) - 1))))))))), (.i .u64 s_0), (.i .u64 (((6283185307179586477 : Int) * k / m) * ((6283185307179586477 : Int) * k / m) / (1000000000000000000 : Int))), (.i .u64 (s_0 * (((6283185307179586477 : Int) * k / m) * ((6283185307179586477 : Int) * k / m) / (1000000000000000000 : Int)) / (1000000000000000000 : Int))), (.i .u64 i_0), (.i .u64 (u64.wrap (2 * i_0))), (.i .u64 i_0), (.i .u64 (u64.wrap (2 * i_0))), (.i .u64 (u64.wrap ((u64.wrap (2 * i_0)) + 1))), (.i .u64 (u64.wrap ((u64.wrap (2 * i_0)) * (u64.wrap ((u64.wrap (2 * i_0)) + 1))))), (.i .u64 (u64.wrap (Int.tdiv (s_0 * (((6283185307179586477 : Int) * k / m) * ((6283185307179586477 : Int) * k / m) / (1000000000000000000 : Int)) / (1000000000000000000 : Int)) (u64.wrap ((u64.wrap (2 * i_0)) * (u64.wrap ((u64.wrap (2 * i_0)) + 1))))))), (.i .u64 (u64.wrap (1000000000000000000 - (u64.wrap (Int.tdiv (s_0 * (((6283185307179586477 : Int) * k / m) * ((6283185307179586477 : Int) * k / m) / (1000000000000000000 : Int)) / (1000000000000000000 : Int)) (u64.wrap ((u64.wrap (2 * i_0)) * (u64.wrap ((u64.wrap (2 * i_0)) + 1))))))))), (.v undef), (.v undef), (.v undef), (.v undef)]
def RL_sine_first_3 (k m c_0 s_0 i_0 : Int) (J_0 : Nat → AV) : List AV := [(.i .u64 k), (.i .u64 m), (.v undef), (.v undef), (.i .u64 c_0), (.i .u64 s_0), (.i .u64 ((6283185307179586477 : Int) * k / m)), (.i .u64 (((6283185307179586477 : Int) * k / m) * ((6283185307179586477 : Int) * k / m) / (1000000000000000000 : Int))), (.i .u64 i_0), (.i .u64 k), (.i .u64 m), (.i .u64 ((6283185307179586477 : Int) * k / m)), (.i .u64 ((6283185307179586477 : Int) * k / m)), (.i .u64 ((6283185307179586477 : Int) * k / m)), (.i .u64 (((6283185307179586477 : Int) * k / m) * ((6283185307179586477 : Int) * k / m) / (1000000000000000000 : Int))), (.i .u64 i_0), (.b false), (J_0 17), (J_0 18), (J_0 19), (J_0 20), (J_0 21), (J_0 22), (J_0 23), (J_0 24), (J_0 25), (J_0 26), (J_0 27), (J_0 28), (J_0 29), (J_0 30), (J_0 31), (J_0 32), (J_0 33), (J_0 34), (J_0 35), (J_0 36), (J_0 37), (J_0 38), (J_0 39), (J_0 40), (.v undef), (.v undef), (.v undef), (.v undef)]
def NFb_sine_first_0_0 (k m c_0 s_0 i_0 : Int) (J_0 : Nat → AV) (K_0 : KE) : Prop :=
 (bif decide (0 < i_0) then (((U64 c_0 ∧ U64 (((6283185307179586477 : Int) * k / m) * ((6283185307179586477 : Int) * k / m) / (1000000000000000000 : Int))) ∧ (0 < (1000000000000000000 : Int) ∧ U64 (1000000000000000000 : Int)) ∧ c_0 * (((6283185307179586477 : Int) * k / m) * ((6283185307179586477 : Int) * k / m) / (1000000000000000000 : Int)) < (1000000000000000000 : Int) * 18446744073709551616) ∧
 (bif decide ((u64.wrap ((u64.wrap (2 * i_0)) * (u64.wrap ((u64.wrap (2 * i_0)) - 1)))) ≠ 0) then (((U64 s_0 ∧ U64 (((6283185307179586477 : Int) * k / m) * ((6283185307179586477 : Int) * k / m) / (1000000000000000000 : Int))) ∧ (0 < (1000000000000000000 : Int) ∧ U64 (1000000000000000000 : Int)) ∧ s_0 * (((6283185307179586477 : Int) * k / m) * ((6283185307179586477 : Int) * k / m) / (1000000000000000000 : Int)) < (1000000000000000000 : Int) * 18446744073709551616) ∧
 (bif decide ((u64.wrap ((u64.wrap (2 * i_0)) * (u64.wrap ((u64.wrap (2 * i_0)) + 1)))) ≠ 0) then K_0 .normal (RL_sine_first_2 k m c_0 s_0 i_0) [] else False)) else False))
 else K_0 (.exit 0) (RL_sine_first_3 k m c_0 s_0 i_0 J_0) [])
theorem nfb_sine_first_0_0 (k m c_0 s_0 i_0 : Int) (J_0 : Nat → AV) (K_0 : KE) : W G_sine_first 0 MC_sine_first_0 (RL_sine_first_1 k m c_0 s_0 i_0 J_0) [] K_0 = NFb_sine_first_0_0 k m c_0 s_0 i_0 J_0 K_0 := by kernel_rfl
theorem keyb_sine_first_0_0 (k m c_0 s_0 i_0 : Int) (J_0 : Nat → AV) (hi : ∃ j : Nat, FirstI k m j c_0 s_0 i_0) {K_0 : KE} (h0 : (∃ j : Nat, FirstI k m j ((u64.wrap (1000000000000000000 - (u64.wrap (Int.tdiv (c_0 * (((6283185307179586477 : Int) * k / m) * ((6283185307179586477 : Int) * k / m) / (1000000000000000000 : Int)) / (1000000000000000000 : Int)) (u64.wrap ((u64.wrap (2 * i_0)) * (u64.wrap ((u64.wrap (2 * i_0)) - 1))))))))) ((u64.wrap (1000000000000000000 - (u64.wrap (Int.tdiv (s_0 * (((6283185307179586477 : Int) * k / m) * ((6283185307179586477 : Int) * k / m) / (1000000000000000000 : Int)) / (1000000000000000000 : Int)) (u64.wrap ((u64.wrap (2 * i_0)) * (u64.wrap ((u64.wrap (2 * i_0)) + 1))))))))) ((u64.wrap (i_0 - 1)))) → (Int.toNat ((u64.wrap (i_0 - 1)))) < (Int.toNat i_0) → K_0 .normal (RL_sine_first_2 k m c_0 s_0 i_0) []) (h1 : (FirstI k m 13 c_0 s_0 i_0) → K_0 (.exit 0) (RL_sine_first_3 k m c_0 s_0 i_0 J_0) []) : NFb_sine_first_0_0 k m c_0 s_0 i_0 J_0 K_0 := by
  unfold NFb_sine_first_0_0
  obtain ⟨j, hP, hj, hi', hc, hs⟩ := hi
  obtain ⟨ex, lx⟩ := first_ang hP
  obtain ⟨eq, lq⟩ := first_sq _ lx
  have lc := itC_le (Fin.sqP (Fin.angP k.toNat m.toNat)) j
  have ls := itS_le (Fin.sqP (Fin.angP k.toNat m.toNat)) j
  simp only [ex, eq] at h0 ⊢
  subst hi' hc hs
  have us : U64 (1000000000000000000 : Int) := ⟨by omega, by omega⟩
  have uq : U64 ((Fin.sqP (Fin.angP k.toNat m.toNat) : Nat) : Int) := ⟨by omega, by omega⟩
  refine bif_i (fun h => ?_) (fun h => ?_)
  · simp only [decide_eq_true_eq] at h
    obtain ⟨d1, d2, d3, d4⟩ := dC (j := j) (by omega)
    rw [d1, d2, cP_cast lq lc, cP_cast lq ls] at h0
    rw [d1, d2]
    refine ⟨⟨⟨⟨by omega, by omega⟩, uq⟩, ⟨by omega, us⟩, mul_small lq lc⟩, bif_i (fun _ => ⟨⟨⟨⟨by omega, by omega⟩, uq⟩, ⟨by omega, us⟩, mul_small lq ls⟩, bif_i (fun _ => h0 ⟨j + 1, hP, by omega, ?_, rfl, rfl⟩ ?_) (fun h2 => ?_)⟩) (fun h2 => ?_)⟩
    · rw [wrap_u64 (by omega) (by omega)]; omega
    · rw [wrap_u64 (by omega) (by omega)]; omega
    · simp only [decide_eq_false_iff_not] at h2; omega
    · simp only [decide_eq_false_iff_not] at h2; omega
  · simp only [decide_eq_false_iff_not] at h
    have : j = 13 := by omega
    subst this
    exact h1 ⟨hP, by omega, by omega, rfl, rfl⟩
theorem loop_sine_first_0 (k m c_0 s_0 i_0 : Int) (J_0 : Nat → AV) {K_0 : KE} (hi : ∃ j : Nat, FirstI k m j c_0 s_0 i_0) (x0_1 : ∀ (c_0 s_0 i_0 : Int) (J_0 : Nat → AV), (FirstI k m 13 c_0 s_0 i_0) → K_0 (.exit 0) (RL_sine_first_3 k m c_0 s_0 i_0 J_0) []) :
    loopW (W G_sine_first 0 MC_sine_first_0) 0 (RL_sine_first_1 k m c_0 s_0 i_0 J_0) [] K_0 := by
  refine ⟨[true, true, true, true, true, true, true, true, true, true, true, true, true, true, true, false, false, false, false, false, false, false, false, false, false, false, false, false, false, false, false, false, false, false, false, false, false, false, false, false, false, true, true, true, true], fun n t H => (∃ (c_0 s_0 i_0 : Int) (J_0 : Nat → AV), (∃ j : Nat, FirstI k m j c_0 s_0 i_0) ∧ n = Int.toNat i_0 ∧ t = (RL_sine_first_1 k m c_0 s_0 i_0 J_0) ∧ H = []), ⟨_, ⟨c_0, s_0, i_0, J_0, hi, rfl, rfl, rfl⟩⟩, ?_⟩
  rintro n t1 H1 (⟨c_0, s_0, i_0, J_0, hi, rfl, rfl, rfl⟩)
  · rw [nfb_sine_first_0_0]
    exact keyb_sine_first_0_0 k m c_0 s_0 i_0 J_0 hi (fun  hv hl => next_of (σ := []) (by kernel_rfl) (fun js => (RL_sine_first_1 k m ((u64.wrap (1000000000000000000 - (u64.wrap (Int.tdiv (c_0 * (((6283185307179586477 : Int) * k / m) * ((6283185307179586477 : Int) * k / m) / (1000000000000000000 : Int)) / (1000000000000000000 : Int)) (u64.wrap ((u64.wrap (2 * i_0)) * (u64.wrap ((u64.wrap (2 * i_0)) - 1))))))))) ((u64.wrap (1000000000000000000 - (u64.wrap (Int.tdiv (s_0 * (((6283185307179586477 : Int) * k / m) * ((6283185307179586477 : Int) * k / m) / (1000000000000000000 : Int)) / (1000000000000000000 : Int)) (u64.wrap ((u64.wrap (2 * i_0)) * (u64.wrap ((u64.wrap (2 * i_0)) + 1))))))))) ((u64.wrap (i_0 - 1))) js)) (fun js => by kernel_rfl) (by kernel_rfl) ([]) (by kernel_rfl) trivial (fun js => ⟨_, hl, ⟨((u64.wrap (1000000000000000000 - (u64.wrap (Int.tdiv (c_0 * (((6283185307179586477 : Int) * k / m) * ((6283185307179586477 : Int) * k / m) / (1000000000000000000 : Int)) / (1000000000000000000 : Int)) (u64.wrap ((u64.wrap (2 * i_0)) * (u64.wrap ((u64.wrap (2 * i_0)) - 1))))))))), ((u64.wrap (1000000000000000000 - (u64.wrap (Int.tdiv (s_0 * (((6283185307179586477 : Int) * k / m) * ((6283185307179586477 : Int) * k / m) / (1000000000000000000 : Int)) / (1000000000000000000 : Int)) (u64.wrap ((u64.wrap (2 * i_0)) * (u64.wrap ((u64.wrap (2 * i_0)) + 1))))))))), ((u64.wrap (i_0 - 1))), (js), hv, rfl, rfl, rfl⟩⟩)) (fun  hv => x0_1 c_0 s_0 i_0 J_0  hv)
def NFx_sine_first_0_0_1 (k m c_0 s_0 i_0 : Int) (J_0 : Nat → AV) (K : AV → Prop) : Prop :=
 (((U64 s_0 ∧ U64 ((6283185307179586477 : Int) * k / m)) ∧ (0 < (1000000000000000000 : Int) ∧ U64 (1000000000000000000 : Int)) ∧ s_0 * ((6283185307179586477 : Int) * k / m) < (1000000000000000000 : Int) * 18446744073709551616) ∧
 K (.tup [(.i .u64 c_0), (.i .u64 (s_0 * ((6283185307179586477 : Int) * k / m) / (1000000000000000000 : Int)))]))
theorem nfx_sine_first_0_0_1 (k m c_0 s_0 i_0 : Int) (J_0 : Nat → AV) (K : AV → Prop) : (kBlock 0 (kSeq G_sine_first 0 MC_sine_first_1 (kFin RES_sine_first fun a _ => K a))) (.exit 0) (RL_sine_first_3 k m c_0 s_0 i_0 J_0) [] = NFx_sine_first_0_0_1 k m c_0 s_0 i_0 J_0 K := by kernel_rfl
def JF_sine_first_4 (k m : Int) : Nat → AV := fun i => (bif Nat.ble i 21 then (bif Nat.ble i 10 then (bif Nat.ble i 4 then (bif Nat.ble i 1 then (bif Nat.ble i 0 then (.i .u64 k) else (.i .u64 m)) else (bif Nat.ble i 2 then (.v undef) else (bif Nat.ble i 3 then (.v undef) else (.i .u64 1000000000000000000)))) else (bif Nat.ble i 7 then (bif Nat.ble i 5 then (.i .u64 1000000000000000000) else (bif Nat.ble i 6 then (.i .u64 ((6283185307179586477 : Int) * k / m)) else (.i .u64 (((6283185307179586477 : Int) * k / m) * ((6283185307179586477 : Int) * k / m) / (1000000000000000000 : Int))))) else (bif Nat.ble i 8 then (.i .u64 13) else (bif Nat.ble i 9 then (.i .u64 k) else (.i .u64 m))))) else (bif Nat.ble i 15 then (bif Nat.ble i 12 then (.i .u64 ((6283185307179586477 : Int) * k / m)) else (bif Nat.ble i 13 then (.i .u64 ((6283185307179586477 : Int) * k / m)) else (bif Nat.ble i 14 then (.i .u64 (((6283185307179586477 : Int) * k / m) * ((6283185307179586477 : Int) * k / m) / (1000000000000000000 : Int))) else (.v undef)))) else (.v undef))) else (.v undef))
def NF_sine_first (k m : Int) (K : AV → Prop) : Prop :=
 (((U64 (6283185307179586477 : Int) ∧ U64 k) ∧ (0 < m ∧ U64 m) ∧ (6283185307179586477 : Int) * k < m * 18446744073709551616) ∧
 (((U64 ((6283185307179586477 : Int) * k / m) ∧ U64 ((6283185307179586477 : Int) * k / m)) ∧ (0 < (1000000000000000000 : Int) ∧ U64 (1000000000000000000 : Int)) ∧ ((6283185307179586477 : Int) * k / m) * ((6283185307179586477 : Int) * k / m) < (1000000000000000000 : Int) * 18446744073709551616) ∧
 (loopW (W G_sine_first 0 MC_sine_first_0) 0 (RL_sine_first_1 k m 1000000000000000000 1000000000000000000 13 (JF_sine_first_4 k m)) [] (kBlock 0 (kSeq G_sine_first 0 MC_sine_first_1 (kFin RES_sine_first fun a _ => K a))))))
theorem nf_sine_first (k m : Int) (K : AV → Prop) : WF G_sine_first 0 FM_sine_first [(.i .u64 k), (.i .u64 m)] [] (fun a _ => K a) = NF_sine_first k m K := by kernel_rfl
theorem key_sine_first (k m : Int) {K : AV → Prop} (hp : FirstP k m) (hk : K (.tup [(.i .u64 (cosV k m)), (.i .u64 (sinV k m))])) : NF_sine_first k m K := by
  unfold NF_sine_first
  obtain ⟨ex, lx⟩ := first_ang hp
  obtain ⟨eq, lq⟩ := first_sq _ lx
  obtain ⟨h1, h2, h3, h4⟩ := id hp
  have us : U64 (1000000000000000000 : Int) := ⟨by omega, by omega⟩
  have ux : U64 ((Fin.angP k.toNat m.toNat : Nat) : Int) := ⟨by omega, by omega⟩
  refine ⟨⟨⟨⟨by omega, by omega⟩, ⟨by omega, by omega⟩⟩, ⟨by omega, ⟨by omega, by omega⟩⟩, by omega⟩, ⟨⟨by rw [ex]; exact ux, by rw [ex]; exact ux⟩, ⟨by omega, us⟩, ?_⟩, ?_⟩
  · rw [ex]; exact mul_small (by omega) (by omega)
  refine loop_sine_first_0 k m _ _ _ _ ⟨0, hp, by omega, by omega, rfl, rfl⟩ ?_
  intro c s i J hx
  obtain ⟨_, _, _, rfl, rfl⟩ := hx
  rw [nfx_sine_first_0_0_1]
  unfold NFx_sine_first_0_0_1
  rw [ex, itC_13, itS_13]
  have lc := sinPs_le (Fin.sqP (Fin.angP k.toNat m.toNat))
  refine ⟨⟨⟨⟨by omega, by omega⟩, ux⟩, ⟨by omega, us⟩, mul_small (by omega) lc⟩, K_of hk ?_⟩
  unfold cosV sinV
  congr 1
theorem ok_sine_first : SoundN Go.Proofs.Try.prog 84 S_sine_first := by
  refine soundN_of sg_sine_first fun args H K hS => ?_
  unfold S_sine_first at hS
  split at hS
  · rename_i k m
    have hS1 := key_sine_first k m (K := fun a => plainA a = true ∧ K a) hS.1 ⟨by simp [plainA, plainL], hS.2⟩
    refine ⟨by simp [plainA, plainL], ?_⟩
    rw [nf_sine_first k m fun a => plainA a = true ∧ K a]
    exact hS1
  · exact hS.elim

def FM_sine_octant : FM := ⟨47, [(RV.cells 6 2)], (MC.seq (MC.ops [⟨(some 6), none, (MI.alloc 23 [(AV.i .i64 0), (AV.i .i64 0)])⟩]) (MC.seq (MC.block 0 (MC.seq (MC.ops [⟨(some 11), none, (MI.mv (MO.t 0))⟩, ⟨(some 12), none, (MI.bin .eql (MO.t 11) (MO.c (AV.i .i64 0)))⟩, ⟨(some 13), none, (MI.mv (MO.t 12))⟩, ⟨(some 14), (some (13, true)), (MI.mv (MO.t 2))⟩, ⟨(some 15), none, (MI.pick (MO.t 13) (MO.t 14) (MO.c (AV.b false)))⟩, ⟨(some 10), none, (MI.mv (MO.t 15))⟩]) (MC.cond (MO.t 10) (MC.seq (MC.ops [⟨(some 16), none, (MI.build [(AV.i .i64 0), (AV.i .i64 0)] [])⟩, ⟨none, none, (MI.store 2 (MO.t 6) (MO.t 16))⟩]) MC.ret) (MC.seq (MC.ops [⟨(some 18), none, (MI.mv (MO.t 0))⟩, ⟨(some 19), none, (MI.bin .eql (MO.t 18) (MO.c (AV.i .i64 0)))⟩, ⟨(some 17), none, (MI.mv (MO.t 19))⟩]) (MC.cond (MO.t 17) (MC.seq (MC.ops [⟨(some 20), none, (MI.build [(AV.i .i64 0), (AV.i .i64 0)] [(0, 1, (MO.c (AV.i .i64 1000000))), (1, 1, (MO.c (AV.i .i64 1000000)))])⟩, ⟨none, none, (MI.store 2 (MO.t 6) (MO.t 20))⟩]) MC.ret) (MC.seq (MC.ops [⟨(some 22), none, (MI.mv (MO.t 2))⟩, ⟨(some 23), none, (MI.mv (MO.t 22))⟩, ⟨(some 24), (some (23, true)), (MI.mv (MO.t 0))⟩, ⟨(some 25), (some (23, true)), (MI.bin .mul (MO.c (AV.i .i64 12)) (MO.t 24))⟩, ⟨(some 26), (some (23, true)), (MI.mv (MO.t 1))⟩, ⟨(some 27), (some (23, true)), (MI.bin .eql (MO.t 25) (MO.t 26))⟩, ⟨(some 28), none, (MI.pick (MO.t 23) (MO.t 27) (MO.c (AV.b false)))⟩, ⟨(some 21), none, (MI.mv (MO.t 28))⟩]) (MC.cond (MO.t 21) (MC.seq (MC.ops [⟨(some 29), none, (MI.build [(AV.i .i64 0), (AV.i .i64 0)] [(0, 1, (MO.c (AV.i .i64 500000))), (1, 1, (MO.c (AV.i .i64 500000)))])⟩, ⟨none, none, (MI.store 2 (MO.t 6) (MO.t 29))⟩]) MC.ret) MC.skip))))))) (MC.seq (MC.ops [⟨(some 31), none, (MI.mv (MO.t 0))⟩, ⟨(some 32), none, (MI.conv .u64 (MO.t 31))⟩, ⟨(some 33), none, (MI.mv (MO.t 1))⟩, ⟨(some 34), none, (MI.conv .u64 (MO.t 33))⟩, ⟨(some 35), none, (MI.callN 84 [(MO.t 32), (MO.t 34)])⟩, ⟨(some 30), none, (MI.mv (MO.t 35))⟩, ⟨(some 36), none, (MI.ext (MO.t 30) 0)⟩, ⟨(some 37), none, (MI.ext (MO.t 30) 1)⟩, ⟨(some 7), none, (MI.mv (MO.t 36))⟩, ⟨(some 8), none, (MI.mv (MO.t 37))⟩]) (MC.seq (MC.seq (MC.ops [⟨(some 38), none, (MI.mv (MO.t 2))⟩]) (MC.cond (MO.t 38) (MC.ops [⟨(some 39), none, (MI.mv (MO.t 8))⟩, ⟨(some 7), none, (MI.mv (MO.t 39))⟩]) MC.skip)) (MC.seq (MC.ops [⟨(some 40), none, (MI.mv (MO.t 7))⟩, ⟨(some 41), none, (MI.bin .quo (MO.t 40) (MO.c (AV.i .u64 1000000000000)))⟩, ⟨(some 42), none, (MI.conv .i64 (MO.t 41))⟩, ⟨(some 9), none, (MI.mv (MO.t 42))⟩]) (MC.seq (MC.ops [⟨(some 43), none, (MI.mv (MO.t 9))⟩, ⟨(some 44), none, (MI.mv (MO.t 9))⟩, ⟨(some 45), none, (MI.bin .add (MO.t 44) (MO.c (AV.i .i64 1)))⟩, ⟨(some 46), none, (MI.build [(AV.i .i64 0), (AV.i .i64 0)] [(0, 1, (MO.t 43)), (1, 1, (MO.t 45))])⟩, ⟨none, none, (MI.store 2 (MO.t 6) (MO.t 46))⟩]) MC.ret))))))⟩
theorem FMc_sine_octant : compF Go.Proofs.Try.prog (eqsP Go.Proofs.Try.prog) (neutOf [84]) (neutOf [84]) 72 = some FM_sine_octant := by kernel_rfl
def G_sine_octant : Gam := mkG [(84, S_sine_first)] []
theorem sg_sine_octant : SoundG Go.Proofs.Try.prog 72 (WF G_sine_octant 0 FM_sine_octant) := WF_sound (allD_ok (n := G_sine_octant.n) (l := [84]) ⟨det_sine_first, trivial⟩) mixP (mkG_ok (n := [(84, S_sine_first)]) (g := []) ⟨ok_sine_first, trivial⟩ trivial) eqsP_ok FMc_sine_octant
def S_sine_octant : NSpec := fun args _ K => match args with
  | [(.i .i64 k), (.i .i64 n), (.b s)] => (FirstP k n) ∧ K (.agg [(.i .i64 (octF k n s).1), (.i .i64 (octF k n s).2)])
  | _ => False
theorem det_sine_octant : DetN S_sine_octant := by
  intro args H K h
  unfold S_sine_octant at h
  split at h
  · exact ⟨_, h.2, fun H' K' _ k => ⟨h.1, k⟩⟩
  · exact h.elim

def NF_sine_octant (k n : Int) (s : Bool) (K : AV → Prop) : Prop :=
 (bif (k == 0) then (bif s then K (.agg [(.i .i64 0), (.i .i64 0)])
 else (bif (k == 0) then K (.agg [(.i .i64 1000000), (.i .i64 1000000)])
 else (bif s then (bif ((i64.wrap (12 * k)) == n) then K (.agg [(.i .i64 500000), (.i .i64 500000)])
 else ((FirstP (u64.wrap k) (u64.wrap n)) ∧
 (bif s then K (.agg [(.i .i64 (i64.wrap (u64.wrap (Int.tdiv (sinV (u64.wrap k) (u64.wrap n)) 1000000000000)))), (.i .i64 (i64.wrap ((i64.wrap (u64.wrap (Int.tdiv (sinV (u64.wrap k) (u64.wrap n)) 1000000000000))) + 1)))])
 else K (.agg [(.i .i64 (i64.wrap (u64.wrap (Int.tdiv (cosV (u64.wrap k) (u64.wrap n)) 1000000000000)))), (.i .i64 (i64.wrap ((i64.wrap (u64.wrap (Int.tdiv (cosV (u64.wrap k) (u64.wrap n)) 1000000000000))) + 1)))]))))
 else ((FirstP (u64.wrap k) (u64.wrap n)) ∧
 (bif s then K (.agg [(.i .i64 (i64.wrap (u64.wrap (Int.tdiv (sinV (u64.wrap k) (u64.wrap n)) 1000000000000)))), (.i .i64 (i64.wrap ((i64.wrap (u64.wrap (Int.tdiv (sinV (u64.wrap k) (u64.wrap n)) 1000000000000))) + 1)))])
 else K (.agg [(.i .i64 (i64.wrap (u64.wrap (Int.tdiv (cosV (u64.wrap k) (u64.wrap n)) 1000000000000)))), (.i .i64 (i64.wrap ((i64.wrap (u64.wrap (Int.tdiv (cosV (u64.wrap k) (u64.wrap n)) 1000000000000))) + 1)))]))))))
 else (bif (k == 0) then K (.agg [(.i .i64 1000000), (.i .i64 1000000)])
 else (bif s then (bif ((i64.wrap (12 * k)) == n) then K (.agg [(.i .i64 500000), (.i .i64 500000)])
 else ((FirstP (u64.wrap k) (u64.wrap n)) ∧
 (bif s then K (.agg [(.i .i64 (i64.wrap (u64.wrap (Int.tdiv (sinV (u64.wrap k) (u64.wrap n)) 1000000000000)))), (.i .i64 (i64.wrap ((i64.wrap (u64.wrap (Int.tdiv (sinV (u64.wrap k) (u64.wrap n)) 1000000000000))) + 1)))])
 else K (.agg [(.i .i64 (i64.wrap (u64.wrap (Int.tdiv (cosV (u64.wrap k) (u64.wrap n)) 1000000000000)))), (.i .i64 (i64.wrap ((i64.wrap (u64.wrap (Int.tdiv (cosV (u64.wrap k) (u64.wrap n)) 1000000000000))) + 1)))]))))
 else ((FirstP (u64.wrap k) (u64.wrap n)) ∧
 (bif s then K (.agg [(.i .i64 (i64.wrap (u64.wrap (Int.tdiv (sinV (u64.wrap k) (u64.wrap n)) 1000000000000)))), (.i .i64 (i64.wrap ((i64.wrap (u64.wrap (Int.tdiv (sinV (u64.wrap k) (u64.wrap n)) 1000000000000))) + 1)))])
 else K (.agg [(.i .i64 (i64.wrap (u64.wrap (Int.tdiv (cosV (u64.wrap k) (u64.wrap n)) 1000000000000)))), (.i .i64 (i64.wrap ((i64.wrap (u64.wrap (Int.tdiv (cosV (u64.wrap k) (u64.wrap n)) 1000000000000))) + 1)))]))))))
theorem nf_sine_octant (k n : Int) (s : Bool) (K : AV → Prop) : WF G_sine_octant 0 FM_sine_octant [(.i .i64 k), (.i .i64 n), (.b s)] [] (fun a _ => K a) = NF_sine_octant k n s K := by kernel_rfl
theorem key_sine_octant (k n : Int) (s : Bool) {K : AV → Prop} (hp : FirstP k n) (hk : K (.agg [(.i .i64 (octF k n s).1), (.i .i64 (octF k n s).2)])) : NF_sine_octant k n s K := by
  unfold NF_sine_octant
  obtain ⟨h1, h2, h3, h4⟩ := id hp
  obtain ⟨es, ls⟩ := sinV_div hp
  obtain ⟨ec, lc⟩ := cosV_div hp
  rw [wrap_u64 (n := k) (by omega) (by omega), wrap_u64 (n := n) (by omega) (by omega), wrap_i64 (n := 12 * k) (by omega) (by omega), es, ec, wrap_i64 (n := ((Fin.sinMP (Fin.angP k.toNat n.toNat) : Nat) : Int) + 1) (by omega) (by omega), wrap_i64 (n := ((Fin.cosMP (Fin.angP k.toNat n.toNat) : Nat) : Int) + 1) (by omega) (by omega)]
  unfold octF at hk
  by_cases k0 : k = 0
  · subst k0
    cases s <;> simpa using hk
  · have kb : (k == 0) = false := by simpa using k0
    rw [if_neg k0] at hk
    simp only [kb, cond_false]
    cases s
    · simp only [Bool.false_eq_true, false_and, if_false] at hk
      exact ⟨hp, hk⟩
    · simp only [true_and, if_true] at hk
      by_cases h12 : 12 * k = n
      · rw [if_pos h12] at hk
        have : (12 * k == n) = true := by simpa using h12
        simp only [this, cond_true]
        exact hk
      · rw [if_neg h12] at hk
        have : (12 * k == n) = false := by simpa using h12
        simp only [this, cond_true, cond_false]
        exact ⟨hp, hk⟩
theorem ok_sine_octant : SoundN Go.Proofs.Try.prog 72 S_sine_octant := by
  refine soundN_of sg_sine_octant fun args H K hS => ?_
  unfold S_sine_octant at hS
  split at hS
  · rename_i k n s
    have hS1 := key_sine_octant k n s (K := fun a => plainA a = true ∧ K a) hS.1 ⟨by simp [plainA, plainL], hS.2⟩
    refine ⟨by simp [plainA, plainL], ?_⟩
    rw [nf_sine_octant k n s fun a => plainA a = true ∧ K a]
    exact hS1
  · exact hS.elim

def FM_sine_minus : FM := ⟨10, [(RV.cells 2 2)], (MC.seq (MC.ops [⟨(some 1), none, (MI.box 23 (MO.t 0))⟩, ⟨(some 2), none, (MI.alloc 23 [(AV.i .i64 0), (AV.i .i64 0)])⟩]) (MC.seq (MC.ops [⟨(some 3), none, (MI.faddr 1 (MO.t 1))⟩, ⟨(some 4), none, (MI.load (MO.t 3))⟩, ⟨(some 5), none, (MI.un .neg (MO.t 4))⟩, ⟨(some 6), none, (MI.faddr 0 (MO.t 1))⟩, ⟨(some 7), none, (MI.load (MO.t 6))⟩, ⟨(some 8), none, (MI.un .neg (MO.t 7))⟩, ⟨(some 9), none, (MI.build [(AV.i .i64 0), (AV.i .i64 0)] [(0, 1, (MO.t 5)), (1, 1, (MO.t 8))])⟩, ⟨none, none, (MI.store 2 (MO.t 2) (MO.t 9))⟩]) MC.ret))⟩
theorem FMc_sine_minus : compF Go.Proofs.Try.prog (eqsP Go.Proofs.Try.prog) (neutOf []) (neutOf []) 71 = some FM_sine_minus := by kernel_rfl
def G_sine_minus : Gam := mkG [] []
theorem sg_sine_minus : SoundG Go.Proofs.Try.prog 71 (WF G_sine_minus 0 FM_sine_minus) := WF_sound (allD_ok (n := G_sine_minus.n) (l := []) trivial) mixP (mkG_ok (n := []) (g := []) trivial trivial) eqsP_ok FMc_sine_minus
def S_sine_minus : NSpec := fun args _ K => match args with
  | [(.agg [(.i .i64 a), (.i .i64 b)])] => K (.agg [(.i .i64 (i64.wrap (0 - b))), (.i .i64 (i64.wrap (0 - a)))])
  | _ => False
theorem det_sine_minus : DetN S_sine_minus := by
  intro args H K h
  unfold S_sine_minus at h
  split at h
  · exact ⟨_, h, fun H' K' _ k => k⟩
  · exact h.elim

def NF_sine_minus (a b : Int) (K : AV → Prop) : Prop :=
 K (.agg [(.i .i64 (i64.wrap (0 - b))), (.i .i64 (i64.wrap (0 - a)))])
theorem nf_sine_minus (a b : Int) (K : AV → Prop) : WF G_sine_minus 0 FM_sine_minus [(.agg [(.i .i64 a), (.i .i64 b)])] [] (fun a _ => K a) = NF_sine_minus a b K := by kernel_rfl
theorem key_sine_minus (a b : Int) {K : AV → Prop} (hk : K (.agg [(.i .i64 (i64.wrap (0 - b))), (.i .i64 (i64.wrap (0 - a)))])) : NF_sine_minus a b K := by
  exact hk
theorem ok_sine_minus : SoundN Go.Proofs.Try.prog 71 S_sine_minus := by
  refine soundN_of sg_sine_minus fun args H K hS => ?_
  unfold S_sine_minus at hS
  split at hS
  · rename_i a b
    have hS1 := key_sine_minus a b (K := fun a => plainA a = true ∧ K a) ⟨by simp [plainA, plainL], hS⟩
    refine ⟨by simp [plainA, plainL], ?_⟩
    rw [nf_sine_minus a b fun a => plainA a = true ∧ K a]
    exact hS1
  · exact hS.elim

def FM_sine_cosine : FM := ⟨60, [(RV.cells 4 2)], (MC.seq (MC.ops [⟨(some 4), none, (MI.alloc 23 [(AV.i .i64 0), (AV.i .i64 0)])⟩]) (MC.seq (MC.ops [⟨(some 5), none, (MI.mv (MO.t 0))⟩, ⟨(some 6), none, (MI.mv (MO.t 1))⟩, ⟨(some 7), none, (MI.bin .rem (MO.t 5) (MO.t 6))⟩, ⟨(some 8), none, (MI.mv (MO.t 1))⟩, ⟨(some 9), none, (MI.bin .add (MO.t 7) (MO.t 8))⟩, ⟨(some 10), none, (MI.mv (MO.t 1))⟩, ⟨(some 11), none, (MI.bin .rem (MO.t 9) (MO.t 10))⟩, ⟨(some 0), none, (MI.mv (MO.t 11))⟩]) (MC.seq (MC.ops [⟨(some 12), none, (MI.mv (MO.t 0))⟩, ⟨(some 13), none, (MI.mv (MO.t 1))⟩, ⟨(some 14), none, (MI.mv (MO.t 0))⟩, ⟨(some 15), none, (MI.bin .sub (MO.t 13) (MO.t 14))⟩, ⟨(some 16), none, (MI.mnmx false (MO.t 12) [(MO.t 15)])⟩, ⟨(some 0), none, (MI.mv (MO.t 16))⟩]) (MC.seq (MC.ops [⟨(some 17), none, (MI.mv (MO.t 0))⟩, ⟨(some 18), none, (MI.bin .mul (MO.c (AV.i .i64 8)) (MO.t 17))⟩, ⟨(some 19), none, (MI.mv (MO.t 1))⟩, ⟨(some 20), none, (MI.bin .mul (MO.c (AV.i .i64 8)) (MO.t 19))⟩, ⟨(some 0), none, (MI.mv (MO.t 18))⟩, ⟨(some 1), none, (MI.mv (MO.t 20))⟩]) (MC.block 0 (MC.seq (MC.ops [⟨(some 25), none, (MI.mv (MO.t 0))⟩, ⟨(some 26), none, (MI.mv (MO.t 1))⟩, ⟨(some 27), none, (MI.bin .mul (MO.c (AV.i .i64 3)) (MO.t 26))⟩, ⟨(some 28), none, (MI.bin .quo (MO.t 27) (MO.c (AV.i .i64 8)))⟩, ⟨(some 29), none, (MI.bin .gtr (MO.t 25) (MO.t 28))⟩, ⟨(some 24), none, (MI.mv (MO.t 29))⟩]) (MC.cond (MO.t 24) (MC.seq (MC.ops [⟨(some 30), none, (MI.mv (MO.t 1))⟩, ⟨(some 31), none, (MI.bin .quo (MO.t 30) (MO.c (AV.i .i64 2)))⟩, ⟨(some 32), none, (MI.mv (MO.t 0))⟩, ⟨(some 33), none, (MI.bin .sub (MO.t 31) (MO.t 32))⟩, ⟨(some 34), none, (MI.mv (MO.t 1))⟩, ⟨(some 35), none, (MI.callN 72 [(MO.t 33), (MO.t 34), (MO.c (AV.b false))])⟩, ⟨(some 36), none, (MI.callN 71 [(MO.t 35)])⟩, ⟨none, none, (MI.store 2 (MO.t 4) (MO.t 36))⟩]) MC.ret) (MC.seq (MC.ops [⟨(some 38), none, (MI.mv (MO.t 0))⟩, ⟨(some 39), none, (MI.mv (MO.t 1))⟩, ⟨(some 40), none, (MI.bin .quo (MO.t 39) (MO.c (AV.i .i64 4)))⟩, ⟨(some 41), none, (MI.bin .gtr (MO.t 38) (MO.t 40))⟩, ⟨(some 37), none, (MI.mv (MO.t 41))⟩]) (MC.cond (MO.t 37) (MC.seq (MC.ops [⟨(some 42), none, (MI.mv (MO.t 0))⟩, ⟨(some 43), none, (MI.mv (MO.t 1))⟩, ⟨(some 44), none, (MI.bin .quo (MO.t 43) (MO.c (AV.i .i64 4)))⟩, ⟨(some 45), none, (MI.bin .sub (MO.t 42) (MO.t 44))⟩, ⟨(some 46), none, (MI.mv (MO.t 1))⟩, ⟨(some 47), none, (MI.callN 72 [(MO.t 45), (MO.t 46), (MO.c (AV.b true))])⟩, ⟨(some 48), none, (MI.callN 71 [(MO.t 47)])⟩, ⟨none, none, (MI.store 2 (MO.t 4) (MO.t 48))⟩]) MC.ret) (MC.seq (MC.ops [⟨(some 50), none, (MI.mv (MO.t 0))⟩, ⟨(some 51), none, (MI.mv (MO.t 1))⟩, ⟨(some 52), none, (MI.bin .quo (MO.t 51) (MO.c (AV.i .i64 8)))⟩, ⟨(some 53), none, (MI.bin .gtr (MO.t 50) (MO.t 52))⟩, ⟨(some 49), none, (MI.mv (MO.t 53))⟩]) (MC.cond (MO.t 49) (MC.seq (MC.ops [⟨(some 54), none, (MI.mv (MO.t 1))⟩, ⟨(some 55), none, (MI.bin .quo (MO.t 54) (MO.c (AV.i .i64 4)))⟩, ⟨(some 56), none, (MI.mv (MO.t 0))⟩, ⟨(some 57), none, (MI.bin .sub (MO.t 55) (MO.t 56))⟩, ⟨(some 58), none, (MI.mv (MO.t 1))⟩, ⟨(some 59), none, (MI.callN 72 [(MO.t 57), (MO.t 58), (MO.c (AV.b true))])⟩, ⟨none, none, (MI.store 2 (MO.t 4) (MO.t 59))⟩]) MC.ret) (MC.seq (MC.ops [⟨(some 21), none, (MI.mv (MO.t 0))⟩, ⟨(some 22), none, (MI.mv (MO.t 1))⟩, ⟨(some 23), none, (MI.callN 72 [(MO.t 21), (MO.t 22), (MO.c (AV.b false))])⟩, ⟨none, none, (MI.store 2 (MO.t 4) (MO.t 23))⟩]) MC.ret))))))))))))⟩
theorem FMc_sine_cosine : compF Go.Proofs.Try.prog (eqsP Go.Proofs.Try.prog) (neutOf [71, 72]) (neutOf [71, 72]) 46 = some FM_sine_cosine := by kernel_rfl
def G_sine_cosine : Gam := mkG [(71, S_sine_minus), (72, S_sine_octant)] []
theorem sg_sine_cosine : SoundG Go.Proofs.Try.prog 46 (WF G_sine_cosine 0 FM_sine_cosine) := WF_sound (allD_ok (n := G_sine_cosine.n) (l := [71, 72]) ⟨det_sine_minus, det_sine_octant, trivial⟩) mixP (mkG_ok (n := [(71, S_sine_minus), (72, S_sine_octant)]) (g := []) ⟨ok_sine_minus, ok_sine_octant, trivial⟩ trivial) eqsP_ok FMc_sine_cosine
def S_sine_cosine : NSpec := fun args _ K => match args with
  | [(.i .i64 k), (.i .i64 n)] => (I64 k ∧ 1 ≤ n ∧ n ≤ 100000) ∧ K (.agg [(.i .i64 (cosF k n).1), (.i .i64 (cosF k n).2)])
  | _ => False
theorem det_sine_cosine : DetN S_sine_cosine := by
  intro args H K h
  unfold S_sine_cosine at h
  split at h
  · exact ⟨_, h.2, fun H' K' _ k => ⟨h.1, k⟩⟩
  · exact h.elim

def NF_sine_cosine (k n : Int) (K : AV → Prop) : Prop :=
 (bif decide (n ≠ 0) then (bif decide (n ≠ 0) then (bif decide ((i64.wrap (Int.tdiv (i64.wrap (3 * (i64.wrap (8 * n)))) 8)) < (i64.wrap (8 * (imin (Int.tmod (i64.wrap ((Int.tmod k n) + n)) n) (i64.wrap (n - (Int.tmod (i64.wrap ((Int.tmod k n) + n)) n))))))) then ((FirstP (i64.wrap ((i64.wrap (Int.tdiv (i64.wrap (8 * n)) 2)) - (i64.wrap (8 * (imin (Int.tmod (i64.wrap ((Int.tmod k n) + n)) n) (i64.wrap (n - (Int.tmod (i64.wrap ((Int.tmod k n) + n)) n)))))))) (i64.wrap (8 * n))) ∧
 K (.agg [(.i .i64 (i64.wrap (0 - (octF (i64.wrap ((i64.wrap (Int.tdiv (i64.wrap (8 * n)) 2)) - (i64.wrap (8 * (imin (Int.tmod (i64.wrap ((Int.tmod k n) + n)) n) (i64.wrap (n - (Int.tmod (i64.wrap ((Int.tmod k n) + n)) n)))))))) (i64.wrap (8 * n)) false).2))), (.i .i64 (i64.wrap (0 - (octF (i64.wrap ((i64.wrap (Int.tdiv (i64.wrap (8 * n)) 2)) - (i64.wrap (8 * (imin (Int.tmod (i64.wrap ((Int.tmod k n) + n)) n) (i64.wrap (n - (Int.tmod (i64.wrap ((Int.tmod k n) + n)) n)))))))) (i64.wrap (8 * n)) false).1)))]))
 else (bif decide ((i64.wrap (Int.tdiv (i64.wrap (8 * n)) 4)) < (i64.wrap (8 * (imin (Int.tmod (i64.wrap ((Int.tmod k n) + n)) n) (i64.wrap (n - (Int.tmod (i64.wrap ((Int.tmod k n) + n)) n))))))) then ((FirstP (i64.wrap ((i64.wrap (8 * (imin (Int.tmod (i64.wrap ((Int.tmod k n) + n)) n) (i64.wrap (n - (Int.tmod (i64.wrap ((Int.tmod k n) + n)) n)))))) - (i64.wrap (Int.tdiv (i64.wrap (8 * n)) 4)))) (i64.wrap (8 * n))) ∧
 K (.agg [(.i .i64 (i64.wrap (0 - (octF (i64.wrap ((i64.wrap (8 * (imin (Int.tmod (i64.wrap ((Int.tmod k n) + n)) n) (i64.wrap (n - (Int.tmod (i64.wrap ((Int.tmod k n) + n)) n)))))) - (i64.wrap (Int.tdiv (i64.wrap (8 * n)) 4)))) (i64.wrap (8 * n)) true).2))), (.i .i64 (i64.wrap (0 - (octF (i64.wrap ((i64.wrap (8 * (imin (Int.tmod (i64.wrap ((Int.tmod k n) + n)) n) (i64.wrap (n - (Int.tmod (i64.wrap ((Int.tmod k n) + n)) n)))))) - (i64.wrap (Int.tdiv (i64.wrap (8 * n)) 4)))) (i64.wrap (8 * n)) true).1)))]))
 else (bif decide ((i64.wrap (Int.tdiv (i64.wrap (8 * n)) 8)) < (i64.wrap (8 * (imin (Int.tmod (i64.wrap ((Int.tmod k n) + n)) n) (i64.wrap (n - (Int.tmod (i64.wrap ((Int.tmod k n) + n)) n))))))) then ((FirstP (i64.wrap ((i64.wrap (Int.tdiv (i64.wrap (8 * n)) 4)) - (i64.wrap (8 * (imin (Int.tmod (i64.wrap ((Int.tmod k n) + n)) n) (i64.wrap (n - (Int.tmod (i64.wrap ((Int.tmod k n) + n)) n)))))))) (i64.wrap (8 * n))) ∧
 K (.agg [(.i .i64 (octF (i64.wrap ((i64.wrap (Int.tdiv (i64.wrap (8 * n)) 4)) - (i64.wrap (8 * (imin (Int.tmod (i64.wrap ((Int.tmod k n) + n)) n) (i64.wrap (n - (Int.tmod (i64.wrap ((Int.tmod k n) + n)) n)))))))) (i64.wrap (8 * n)) true).1), (.i .i64 (octF (i64.wrap ((i64.wrap (Int.tdiv (i64.wrap (8 * n)) 4)) - (i64.wrap (8 * (imin (Int.tmod (i64.wrap ((Int.tmod k n) + n)) n) (i64.wrap (n - (Int.tmod (i64.wrap ((Int.tmod k n) + n)) n)))))))) (i64.wrap (8 * n)) true).2)]))
 else ((FirstP (i64.wrap (8 * (imin (Int.tmod (i64.wrap ((Int.tmod k n) + n)) n) (i64.wrap (n - (Int.tmod (i64.wrap ((Int.tmod k n) + n)) n)))))) (i64.wrap (8 * n))) ∧
 K (.agg [(.i .i64 (octF (i64.wrap (8 * (imin (Int.tmod (i64.wrap ((Int.tmod k n) + n)) n) (i64.wrap (n - (Int.tmod (i64.wrap ((Int.tmod k n) + n)) n)))))) (i64.wrap (8 * n)) false).1), (.i .i64 (octF (i64.wrap (8 * (imin (Int.tmod (i64.wrap ((Int.tmod k n) + n)) n) (i64.wrap (n - (Int.tmod (i64.wrap ((Int.tmod k n) + n)) n)))))) (i64.wrap (8 * n)) false).2)]))))) else False) else False)
theorem nf_sine_cosine (k n : Int) (K : AV → Prop) : WF G_sine_cosine 0 FM_sine_cosine [(.i .i64 k), (.i .i64 n)] [] (fun a _ => K a) = NF_sine_cosine k n K := by kernel_rfl
theorem key_sine_cosine (k n : Int) {K : AV → Prop} (hp : I64 k ∧ 1 ≤ n ∧ n ≤ 100000) (hk : K (.agg [(.i .i64 (cosF k n).1), (.i .i64 (cosF k n).2)])) : NF_sine_cosine k n K := by
  unfold NF_sine_cosine
  obtain ⟨hk1, hn1, hn2⟩ := hp
  obtain ⟨em, m0, m1⟩ := tmod_add_mod hk1 hn1 hn2
  rw [em]
  unfold cosF at hk
  have ei : imin (k % n) (i64.wrap (n - k % n)) = min (k % n) (n - k % n) := by
    rw [wrap_i64 (by omega) (by omega)]; unfold imin; split <;> omega
  rw [ei]
  generalize hq : min (k % n) (n - k % n) = q at *
  have q0 : 0 ≤ q ∧ 2 * q ≤ n := by omega
  clear hq ei em m0 m1
  have e8 : i64.wrap (8 * n) = 8 * n := wrap_i64 (by omega) (by omega)
  have e8q : i64.wrap (8 * q) = 8 * q := wrap_i64 (by omega) (by omega)
  have e2 : i64.wrap (Int.tdiv (8 * n) 2) = 4 * n := by rw [tdiv_pos (by omega), wrap_i64 (by omega) (by omega)]; omega
  have e4 : i64.wrap (Int.tdiv (8 * n) 4) = 2 * n := by rw [tdiv_pos (by omega), wrap_i64 (by omega) (by omega)]; omega
  have e1 : i64.wrap (Int.tdiv (8 * n) 8) = n := by rw [tdiv_pos (by omega), wrap_i64 (by omega) (by omega)]; omega
  have e3 : i64.wrap (Int.tdiv (i64.wrap (3 * (8 * n))) 8) = 3 * n := by rw [wrap_i64 (n := 3 * (8 * n)) (by omega) (by omega), tdiv_pos (by omega), wrap_i64 (by omega) (by omega)]; omega
  simp only [e8, e8q, e2, e4, e1, e3, wrap_i64 (n := 4 * n - 8 * q) (by omega) (by omega), wrap_i64 (n := 8 * q - 2 * n) (by omega) (by omega), wrap_i64 (n := 2 * n - 8 * q) (by omega) (by omega)]
  have hn : decide (n ≠ 0) = true := by rw [decide_eq_true_eq]; omega
  simp only [hn, cond_true]
  unfold cosQ at hk
  have neg : ∀ {a : Int} {s : Bool}, FirstP a (8 * n) → K (.agg [.i .i64 (negP (octF a (8 * n) s)).1, .i .i64 (negP (octF a (8 * n) s)).2]) → K (.agg [(.i .i64 (i64.wrap (0 - (octF a (8 * n) s).2))), (.i .i64 (i64.wrap (0 - (octF a (8 * n) s).1)))]) := by
    intro a s ha hk
    have r := octF_range (s := s) ha
    rw [wrap_i64 (n := 0 - (octF a (8 * n) s).2) (by omega) (by omega), wrap_i64 (n := 0 - (octF a (8 * n) s).1) (by omega) (by omega), Int.zero_sub, Int.zero_sub]
    exact hk
  refine bif_i (fun h => ?_) (fun h => bif_i (fun h2 => ?_) (fun h2 => bif_i (fun h3 => ?_) (fun h3 => ?_))) <;> simp only [decide_eq_true_eq, decide_eq_false_iff_not] at h <;> (try simp only [decide_eq_true_eq, decide_eq_false_iff_not] at h2) <;> (try simp only [decide_eq_true_eq, decide_eq_false_iff_not] at h3)
  · rw [if_pos h] at hk
    have fp : FirstP (4 * n - 8 * q) (8 * n) := ⟨by omega, by omega, by omega, by omega⟩
    exact ⟨fp, neg fp hk⟩
  · rw [if_neg h, if_pos h2] at hk
    have fp : FirstP (8 * q - 2 * n) (8 * n) := ⟨by omega, by omega, by omega, by omega⟩
    exact ⟨fp, neg fp hk⟩
  · rw [if_neg h, if_neg h2, if_pos h3] at hk
    exact ⟨⟨by omega, by omega, by omega, by omega⟩, hk⟩
  · rw [if_neg h, if_neg h2, if_neg h3] at hk
    exact ⟨⟨by omega, by omega, by omega, by omega⟩, hk⟩
theorem ok_sine_cosine : SoundN Go.Proofs.Try.prog 46 S_sine_cosine := by
  refine soundN_of sg_sine_cosine fun args H K hS => ?_
  unfold S_sine_cosine at hS
  split at hS
  · rename_i k n
    have hS1 := key_sine_cosine k n (K := fun a => plainA a = true ∧ K a) hS.1 ⟨by simp [plainA, plainL], hS.2⟩
    refine ⟨by simp [plainA, plainL], ?_⟩
    rw [nf_sine_cosine k n fun a => plainA a = true ∧ K a]
    exact hS1
  · exact hS.elim

def FM_sine_Cos : FM := ⟨16, [(RV.cells 4 2), (RV.tmp 5)], (MC.seq (MC.ops [⟨(some 4), none, (MI.alloc 23 [(AV.i .i64 0), (AV.i .i64 0)])⟩, ⟨(some 5), none, (MI.mv (MO.c (AV.i .i64 0)))⟩]) (MC.seq (MC.seq (MC.ops [⟨(some 6), none, (MI.mv (MO.t 1))⟩, ⟨(some 7), none, (MI.bin .lss (MO.t 6) (MO.c (AV.i .i64 1)))⟩, ⟨(some 8), none, (MI.mv (MO.t 7))⟩, ⟨(some 9), (some (8, false)), (MI.mv (MO.t 1))⟩, ⟨(some 10), (some (8, false)), (MI.bin .gtr (MO.t 9) (MO.c (AV.i .i64 720)))⟩, ⟨(some 11), none, (MI.pick (MO.t 8) (MO.c (AV.b true)) (MO.t 10))⟩]) (MC.cond (MO.t 11) (MC.seq (MC.ops [⟨(some 12), none, (MI.build [(AV.i .i64 0), (AV.i .i64 0)] [])⟩, ⟨none, none, (MI.store 2 (MO.t 4) (MO.t 12))⟩, ⟨(some 5), none, (MI.mv (MO.c (AV.i .i64 2)))⟩]) MC.ret) MC.skip)) (MC.seq (MC.ops [⟨(some 13), none, (MI.mv (MO.t 0))⟩, ⟨(some 14), none, (MI.mv (MO.t 1))⟩, ⟨(some 15), none, (MI.callN 46 [(MO.t 13), (MO.t 14)])⟩, ⟨none, none, (MI.store 2 (MO.t 4) (MO.t 15))⟩, ⟨(some 5), none, (MI.mv (MO.c (AV.i .i64 0)))⟩]) MC.ret)))⟩
theorem FMc_sine_Cos : compF Go.Proofs.Try.prog (eqsP Go.Proofs.Try.prog) (neutOf [46]) (neutOf [46]) 14 = some FM_sine_Cos := by kernel_rfl
def G_sine_Cos : Gam := mkG [(46, S_sine_cosine)] []
theorem sg_sine_Cos : SoundG Go.Proofs.Try.prog 14 (WF G_sine_Cos 0 FM_sine_Cos) := WF_sound (allD_ok (n := G_sine_Cos.n) (l := [46]) ⟨det_sine_cosine, trivial⟩) mixP (mkG_ok (n := [(46, S_sine_cosine)]) (g := []) ⟨ok_sine_cosine, trivial⟩ trivial) eqsP_ok FMc_sine_Cos
def S_sine_Cos : NSpec := fun args _ K => match args with
  | [(.i .i64 k), (.i .i64 n)] => (I64 k ∧ I64 n) ∧ K (.tup [(.agg [(.i .i64 (cosE k n).lo), (.i .i64 (cosE k n).hi)]), (.i .i64 (cosE k n).e)])
  | _ => False
theorem det_sine_Cos : DetN S_sine_Cos := by
  intro args H K h
  unfold S_sine_Cos at h
  split at h
  · exact ⟨_, h.2, fun H' K' _ k => ⟨h.1, k⟩⟩
  · exact h.elim

def NF_sine_Cos (k n : Int) (K : AV → Prop) : Prop :=
 (bif decide (n < 1) then K (.tup [(.agg [(.i .i64 0), (.i .i64 0)]), (.i .i64 2)])
 else (bif decide (720 < n) then K (.tup [(.agg [(.i .i64 0), (.i .i64 0)]), (.i .i64 2)])
 else ((I64 k ∧ 1 ≤ n ∧ n ≤ 100000) ∧
 K (.tup [(.agg [(.i .i64 (cosF k n).1), (.i .i64 (cosF k n).2)]), (.i .i64 0)]))))
theorem nf_sine_Cos (k n : Int) (K : AV → Prop) : WF G_sine_Cos 0 FM_sine_Cos [(.i .i64 k), (.i .i64 n)] [] (fun a _ => K a) = NF_sine_Cos k n K := by kernel_rfl
theorem key_sine_Cos (k n : Int) {K : AV → Prop} (hp : I64 k ∧ I64 n) (hk : K (.tup [(.agg [(.i .i64 (cosE k n).lo), (.i .i64 (cosE k n).hi)]), (.i .i64 (cosE k n).e)])) : NF_sine_Cos k n K := by
  unfold NF_sine_Cos
  unfold cosE at hk
  refine bif_i (fun h => K_of hk ?_) (fun h => bif_i (fun h2 => K_of hk ?_) (fun h2 => ⟨?_, K_of hk ?_⟩)) <;> simp only [decide_eq_true_eq, decide_eq_false_iff_not] at h <;> (try simp only [decide_eq_true_eq, decide_eq_false_iff_not] at h2)
  · rw [if_pos (.inl h)]
  · rw [if_pos (.inr h2)]
  · exact ⟨hp.1, by omega, by omega⟩
  · rw [if_neg (by omega)]
theorem ok_sine_Cos : SoundN Go.Proofs.Try.prog 14 S_sine_Cos := by
  refine soundN_of sg_sine_Cos fun args H K hS => ?_
  unfold S_sine_Cos at hS
  split at hS
  · rename_i k n
    have hS1 := key_sine_Cos k n (K := fun a => plainA a = true ∧ K a) hS.1 ⟨by simp [plainA, plainL], hS.2⟩
    refine ⟨by simp [plainA, plainL], ?_⟩
    rw [nf_sine_Cos k n fun a => plainA a = true ∧ K a]
    exact hS1
  · exact hS.elim

def FM_sine_Sin : FM := ⟨22, [(RV.cells 4 2), (RV.tmp 5)], (MC.seq (MC.ops [⟨(some 4), none, (MI.alloc 23 [(AV.i .i64 0), (AV.i .i64 0)])⟩, ⟨(some 5), none, (MI.mv (MO.c (AV.i .i64 0)))⟩]) (MC.seq (MC.seq (MC.ops [⟨(some 6), none, (MI.mv (MO.t 1))⟩, ⟨(some 7), none, (MI.bin .lss (MO.t 6) (MO.c (AV.i .i64 1)))⟩, ⟨(some 8), none, (MI.mv (MO.t 7))⟩, ⟨(some 9), (some (8, false)), (MI.mv (MO.t 1))⟩, ⟨(some 10), (some (8, false)), (MI.bin .gtr (MO.t 9) (MO.c (AV.i .i64 720)))⟩, ⟨(some 11), none, (MI.pick (MO.t 8) (MO.c (AV.b true)) (MO.t 10))⟩]) (MC.cond (MO.t 11) (MC.seq (MC.ops [⟨(some 12), none, (MI.build [(AV.i .i64 0), (AV.i .i64 0)] [])⟩, ⟨none, none, (MI.store 2 (MO.t 4) (MO.t 12))⟩, ⟨(some 5), none, (MI.mv (MO.c (AV.i .i64 2)))⟩]) MC.ret) MC.skip)) (MC.seq (MC.ops [⟨(some 13), none, (MI.mv (MO.t 0))⟩, ⟨(some 14), none, (MI.mv (MO.t 1))⟩, ⟨(some 15), none, (MI.bin .rem (MO.t 13) (MO.t 14))⟩, ⟨(some 16), none, (MI.bin .mul (MO.c (AV.i .i64 4)) (MO.t 15))⟩, ⟨(some 17), none, (MI.mv (MO.t 1))⟩, ⟨(some 18), none, (MI.bin .sub (MO.t 16) (MO.t 17))⟩, ⟨(some 19), none, (MI.mv (MO.t 1))⟩, ⟨(some 20), none, (MI.bin .mul (MO.c (AV.i .i64 4)) (MO.t 19))⟩, ⟨(some 21), none, (MI.callN 46 [(MO.t 18), (MO.t 20)])⟩, ⟨none, none, (MI.store 2 (MO.t 4) (MO.t 21))⟩, ⟨(some 5), none, (MI.mv (MO.c (AV.i .i64 0)))⟩]) MC.ret)))⟩
theorem FMc_sine_Sin : compF Go.Proofs.Try.prog (eqsP Go.Proofs.Try.prog) (neutOf [46]) (neutOf [46]) 16 = some FM_sine_Sin := by kernel_rfl
def G_sine_Sin : Gam := mkG [(46, S_sine_cosine)] []
theorem sg_sine_Sin : SoundG Go.Proofs.Try.prog 16 (WF G_sine_Sin 0 FM_sine_Sin) := WF_sound (allD_ok (n := G_sine_Sin.n) (l := [46]) ⟨det_sine_cosine, trivial⟩) mixP (mkG_ok (n := [(46, S_sine_cosine)]) (g := []) ⟨ok_sine_cosine, trivial⟩ trivial) eqsP_ok FMc_sine_Sin
def S_sine_Sin : NSpec := fun args _ K => match args with
  | [(.i .i64 k), (.i .i64 n)] => (I64 k ∧ I64 n) ∧ K (.tup [(.agg [(.i .i64 (sinE k n).lo), (.i .i64 (sinE k n).hi)]), (.i .i64 (sinE k n).e)])
  | _ => False
theorem det_sine_Sin : DetN S_sine_Sin := by
  intro args H K h
  unfold S_sine_Sin at h
  split at h
  · exact ⟨_, h.2, fun H' K' _ k => ⟨h.1, k⟩⟩
  · exact h.elim

def NF_sine_Sin (k n : Int) (K : AV → Prop) : Prop :=
 (bif decide (n < 1) then K (.tup [(.agg [(.i .i64 0), (.i .i64 0)]), (.i .i64 2)])
 else (bif decide (720 < n) then K (.tup [(.agg [(.i .i64 0), (.i .i64 0)]), (.i .i64 2)])
 else (bif decide (n ≠ 0) then ((I64 (i64.wrap ((i64.wrap (4 * (Int.tmod k n))) - n)) ∧ 1 ≤ (i64.wrap (4 * n)) ∧ (i64.wrap (4 * n)) ≤ 100000) ∧
 K (.tup [(.agg [(.i .i64 (cosF (i64.wrap ((i64.wrap (4 * (Int.tmod k n))) - n)) (i64.wrap (4 * n))).1), (.i .i64 (cosF (i64.wrap ((i64.wrap (4 * (Int.tmod k n))) - n)) (i64.wrap (4 * n))).2)]), (.i .i64 0)])) else False)))
theorem nf_sine_Sin (k n : Int) (K : AV → Prop) : WF G_sine_Sin 0 FM_sine_Sin [(.i .i64 k), (.i .i64 n)] [] (fun a _ => K a) = NF_sine_Sin k n K := by kernel_rfl
theorem key_sine_Sin (k n : Int) {K : AV → Prop} (hp : I64 k ∧ I64 n) (hk : K (.tup [(.agg [(.i .i64 (sinE k n).lo), (.i .i64 (sinE k n).hi)]), (.i .i64 (sinE k n).e)])) : NF_sine_Sin k n K := by
  unfold NF_sine_Sin
  unfold sinE at hk
  refine bif_i (fun h => K_of hk ?_) (fun h => bif_i (fun h2 => K_of hk ?_) (fun h2 => bif_i (fun _ => ?_) (fun h3 => ?_))) <;> simp only [decide_eq_true_eq, decide_eq_false_iff_not] at h <;> (try simp only [decide_eq_true_eq, decide_eq_false_iff_not] at h2) <;> (try simp only [decide_eq_true_eq, decide_eq_false_iff_not] at h3)
  · rw [if_pos (.inl h)]
  · rw [if_pos (.inr h2)]
  · have q := Int.tmod_add_mul_tdiv k n
    have b1 := tmod_emod (x := k) (d := n) (by omega)
    have b2 := Int.emod_nonneg k (b := n) (by omega)
    have b3 := Int.emod_lt_of_pos k (b := n) (by omega)
    have b4 := Int.emod_nonneg (-k) (b := n) (by omega)
    have b5 := Int.emod_lt_of_pos (-k) (b := n) (by omega)
    have b6 : -n < Int.tmod k n ∧ Int.tmod k n < n := by split at b1 <;> omega
    have ew : i64.wrap (i64.wrap (4 * Int.tmod k n) - n) = 4 * Int.tmod k n - n := by
      rw [wrap_i64 (n := 4 * Int.tmod k n) (by omega) (by omega), wrap_i64 (by omega) (by omega)]
    have ef : cosF (4 * k - n) (4 * n) = cosF (4 * Int.tmod k n - n) (4 * n) := by
      have : 4 * k - n = (4 * Int.tmod k n - n) + 4 * n * Int.tdiv k n := by rw [Int.mul_assoc]; omega
      rw [this, cosF_shift]
    rw [ew, wrap_i64 (n := 4 * n) (by omega) (by omega)]
    refine ⟨⟨⟨by omega, by omega⟩, by omega, by omega⟩, K_of hk ?_⟩
    rw [if_neg (by omega), ef]
  · omega
theorem ok_sine_Sin : SoundN Go.Proofs.Try.prog 16 S_sine_Sin := by
  refine soundN_of sg_sine_Sin fun args H K hS => ?_
  unfold S_sine_Sin at hS
  split at hS
  · rename_i k n
    have hS1 := key_sine_Sin k n (K := fun a => plainA a = true ∧ K a) hS.1 ⟨by simp [plainA, plainL], hS.2⟩
    refine ⟨by simp [plainA, plainL], ?_⟩
    rw [nf_sine_Sin k n fun a => plainA a = true ∧ K a]
    exact hS1
  · exact hS.elim

end Go.Proofs.Ytkmhmabkahaekaa.V
