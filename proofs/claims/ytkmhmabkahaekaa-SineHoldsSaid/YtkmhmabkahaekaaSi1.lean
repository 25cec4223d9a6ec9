/-
  Contracts, printed by a program of this session (wip/tool/sym.py) from the unit text si1: what each function comes to, and its proof.
-/
import Derived.Test.YtkmhmabkahaekaaRf3
import Derived.Test.YtkmhmabkahaekaaProg
set_option linter.unusedVariables false
set_option linter.unusedSimpArgs false
set_option maxRecDepth 100000
namespace Go.Proofs.Ytkmhmabkahaekaa.V
open Go Go.RowKit
open Go.IntKind (u64 i64 u8 i32 u32)


def spanOk (lo hi : Int) : Prop := lo ≤ hi ∧ -3000000000 ≤ lo ∧ hi ≤ 3000000000
instance (lo hi : Int) : Decidable (spanOk lo hi) := by unfold spanOk; infer_instance
structure RD where
  w : Int
  lo : Int
  hi : Int
  e : Int
def dsplit (lo hi : Int) : RD :=
  if spanOk lo hi then
    if (hi + 500000) / 1000000 = (lo + 500000) / 1000000 then ⟨(lo + 500000) / 1000000, lo - (lo + 500000) / 1000000 * 1000000, hi - (lo + 500000) / 1000000 * 1000000, 0⟩ else ⟨0, 0, 0, 24⟩
  else ⟨0, 0, 0, 8⟩
structure RS where
  lo : Int
  hi : Int
  e : Int
def djoin (w lo hi : Int) : RS :=
  if lo ≤ hi ∧ -500000 ≤ lo ∧ hi < 500000 then
    if spanOk (lo + w * 1000000) (hi + w * 1000000) then ⟨lo + w * 1000000, hi + w * 1000000, 0⟩ else ⟨0, 0, 16⟩
  else ⟨0, 0, 8⟩
structure RI where
  v : Int
  e : Int
def ssign (lo hi : Int) : RI :=
  if spanOk lo hi then (if 0 < lo then ⟨1, 0⟩ else if hi < 0 then ⟨-1, 0⟩ else if lo = hi then ⟨0, 0⟩ else ⟨0, 24⟩) else ⟨0, 8⟩
theorem ssign_e8 (lo hi : Int) : (ssign lo hi).e = 8 ↔ ¬ spanOk lo hi := by
  unfold ssign
  split
  · split
    · simp [*]
    · split
      · simp [*]
      · rename_i h _ _; split <;> simp [h]
  · simp [*]

def FM_sine_valid : FM := ⟨17, [(RV.tmp 2)], (MC.seq (MC.ops [⟨(some 1), none, (MI.box 23 (MO.t 0))⟩, ⟨(some 2), none, (MI.mv (MO.c (AV.b false)))⟩]) (MC.seq (MC.ops [⟨(some 3), none, (MI.faddr 0 (MO.t 1))⟩, ⟨(some 4), none, (MI.load (MO.t 3))⟩, ⟨(some 5), none, (MI.faddr 1 (MO.t 1))⟩, ⟨(some 6), none, (MI.load (MO.t 5))⟩, ⟨(some 7), none, (MI.bin .leq (MO.t 4) (MO.t 6))⟩, ⟨(some 8), none, (MI.mv (MO.t 7))⟩, ⟨(some 9), (some (8, true)), (MI.faddr 0 (MO.t 1))⟩, ⟨(some 10), (some (8, true)), (MI.load (MO.t 9))⟩, ⟨(some 11), (some (8, true)), (MI.faddr 1 (MO.t 1))⟩, ⟨(some 12), (some (8, true)), (MI.load (MO.t 11))⟩, ⟨(some 13), (some (8, true)), (MI.un .neg (MO.t 12))⟩, ⟨(some 14), (some (8, true)), (MI.mnmx false (MO.t 10) [(MO.t 13)])⟩, ⟨(some 15), (some (8, true)), (MI.bin .geq (MO.t 14) (MO.c (AV.i .i64 (-3000000000))))⟩, ⟨(some 16), none, (MI.pick (MO.t 8) (MO.t 15) (MO.c (AV.b false)))⟩, ⟨(some 2), none, (MI.mv (MO.t 16))⟩]) MC.ret))⟩
theorem FMc_sine_valid : compF Go.Proofs.Try.prog (eqsP Go.Proofs.Try.prog) (neutOf []) (neutOf []) 48 = some FM_sine_valid := by kernel_rfl
def G_sine_valid : Gam := mkG [] []
theorem sg_sine_valid : SoundG Go.Proofs.Try.prog 48 (WF G_sine_valid 0 FM_sine_valid) := WF_sound (allD_ok (n := G_sine_valid.n) (l := []) trivial) mixP (mkG_ok (n := []) (g := []) trivial trivial) eqsP_ok FMc_sine_valid
def S_sine_valid : NSpec := fun args _ K => match args with
  | [(.agg [(.i .i64 lo), (.i .i64 hi)])] => (I64 lo ∧ I64 hi) ∧ K (.b (decide (spanOk lo hi)))
  | _ => False
theorem det_sine_valid : DetN S_sine_valid := by
  intro args H K h
  unfold S_sine_valid at h
  split at h
  · exact ⟨_, h.2, fun H' K' _ k => ⟨h.1, k⟩⟩
  · exact h.elim

def NF_sine_valid (lo hi : Int) (K : AV → Prop) : Prop :=
 (bif decide (lo ≤ hi) then K (.b (decide ((-3000000000) ≤ (imin lo (i64.wrap (0 - hi))))))
 else K (.b false))
theorem nf_sine_valid (lo hi : Int) (K : AV → Prop) : WF G_sine_valid 0 FM_sine_valid [(.agg [(.i .i64 lo), (.i .i64 hi)])] [] (fun a _ => K a) = NF_sine_valid lo hi K := by kernel_rfl
theorem key_sine_valid (lo hi : Int) {K : AV → Prop} (hp : I64 lo ∧ I64 hi) (hk : K (.b (decide (spanOk lo hi)))) : NF_sine_valid lo hi K := by
  unfold NF_sine_valid
  have hw := wrap_neg hp.2
  obtain ⟨⟨a1, a2⟩, b1, b2⟩ := hp
  generalize i64.wrap (0 - hi) = q at hw ⊢
  refine bif_i (fun h => K_of hk ?_) (fun h => K_of hk ?_) <;> simp at h
  · congr 1
    rw [Bool.eq_iff_iff]
    rw [decide_eq_true_eq, decide_eq_true_eq]
    unfold spanOk imin
    constructor
    · rintro ⟨_, _, _⟩; split <;> omega
    · intro h; split at h <;> refine ⟨?_, ?_, ?_⟩ <;> omega
  · have : ¬ spanOk lo hi := by unfold spanOk; omega
    simp [this]
theorem ok_sine_valid : SoundN Go.Proofs.Try.prog 48 S_sine_valid := by
  refine soundN_of sg_sine_valid fun args H K hS => ?_
  unfold S_sine_valid at hS
  split at hS
  · rename_i lo hi
    have hS1 := key_sine_valid lo hi (K := fun a => plainA a = true ∧ K a) hS.1 ⟨by simp [plainA, plainL], hS.2⟩
    refine ⟨by simp [plainA, plainL], ?_⟩
    rw [nf_sine_valid lo hi fun a => plainA a = true ∧ K a]
    exact hS1
  · exact hS.elim

def FM_sine_Sign : FM := ⟨22, [(RV.tmp 2), (RV.tmp 3)], (MC.seq (MC.ops [⟨(some 1), none, (MI.box 23 (MO.t 0))⟩, ⟨(some 2), none, (MI.mv (MO.c (AV.i .i64 0)))⟩, ⟨(some 3), none, (MI.mv (MO.c (AV.i .i64 0)))⟩]) (MC.seq (MC.block 0 (MC.seq (MC.ops [⟨(some 5), none, (MI.loadn 2 (MO.t 1))⟩, ⟨(some 6), none, (MI.callN 48 [(MO.t 5)])⟩, ⟨(some 7), none, (MI.un .not (MO.t 6))⟩, ⟨(some 4), none, (MI.mv (MO.t 7))⟩]) (MC.cond (MO.t 4) (MC.seq (MC.ops [⟨(some 2), none, (MI.mv (MO.c (AV.i .i64 0)))⟩, ⟨(some 3), none, (MI.mv (MO.c (AV.i .i64 8)))⟩]) MC.ret) (MC.seq (MC.ops [⟨(some 9), none, (MI.faddr 0 (MO.t 1))⟩, ⟨(some 10), none, (MI.load (MO.t 9))⟩, ⟨(some 11), none, (MI.bin .gtr (MO.t 10) (MO.c (AV.i .i64 0)))⟩, ⟨(some 8), none, (MI.mv (MO.t 11))⟩]) (MC.cond (MO.t 8) (MC.seq (MC.ops [⟨(some 2), none, (MI.mv (MO.c (AV.i .i64 1)))⟩, ⟨(some 3), none, (MI.mv (MO.c (AV.i .i64 0)))⟩]) MC.ret) (MC.seq (MC.ops [⟨(some 13), none, (MI.faddr 1 (MO.t 1))⟩, ⟨(some 14), none, (MI.load (MO.t 13))⟩, ⟨(some 15), none, (MI.bin .lss (MO.t 14) (MO.c (AV.i .i64 0)))⟩, ⟨(some 12), none, (MI.mv (MO.t 15))⟩]) (MC.cond (MO.t 12) (MC.seq (MC.ops [⟨(some 2), none, (MI.mv (MO.c (AV.i .i64 (-1))))⟩, ⟨(some 3), none, (MI.mv (MO.c (AV.i .i64 0)))⟩]) MC.ret) (MC.seq (MC.ops [⟨(some 17), none, (MI.faddr 0 (MO.t 1))⟩, ⟨(some 18), none, (MI.load (MO.t 17))⟩, ⟨(some 19), none, (MI.faddr 1 (MO.t 1))⟩, ⟨(some 20), none, (MI.load (MO.t 19))⟩, ⟨(some 21), none, (MI.bin .eql (MO.t 18) (MO.t 20))⟩, ⟨(some 16), none, (MI.mv (MO.t 21))⟩]) (MC.cond (MO.t 16) (MC.seq (MC.ops [⟨(some 2), none, (MI.mv (MO.c (AV.i .i64 0)))⟩, ⟨(some 3), none, (MI.mv (MO.c (AV.i .i64 0)))⟩]) MC.ret) MC.skip))))))))) (MC.seq (MC.ops [⟨(some 2), none, (MI.mv (MO.c (AV.i .i64 0)))⟩, ⟨(some 3), none, (MI.mv (MO.c (AV.i .i64 24)))⟩]) MC.ret)))⟩
theorem FMc_sine_Sign : compF Go.Proofs.Try.prog (eqsP Go.Proofs.Try.prog) (neutOf [48]) (neutOf [48]) 31 = some FM_sine_Sign := by kernel_rfl
def G_sine_Sign : Gam := mkG [(48, S_sine_valid)] []
theorem sg_sine_Sign : SoundG Go.Proofs.Try.prog 31 (WF G_sine_Sign 0 FM_sine_Sign) := WF_sound (allD_ok (n := G_sine_Sign.n) (l := [48]) ⟨det_sine_valid, trivial⟩) mixP (mkG_ok (n := [(48, S_sine_valid)]) (g := []) ⟨ok_sine_valid, trivial⟩ trivial) eqsP_ok FMc_sine_Sign
def S_sine_Sign : NSpec := fun args _ K => match args with
  | [(.agg [(.i .i64 lo), (.i .i64 hi)])] => (I64 lo ∧ I64 hi) ∧ K (.tup [(.i .i64 (ssign lo hi).v), (.i .i64 (ssign lo hi).e)])
  | _ => False
theorem det_sine_Sign : DetN S_sine_Sign := by
  intro args H K h
  unfold S_sine_Sign at h
  split at h
  · exact ⟨_, h.2, fun H' K' _ k => ⟨h.1, k⟩⟩
  · exact h.elim

def NF_sine_Sign (lo hi : Int) (K : AV → Prop) : Prop :=
 ((I64 lo ∧ I64 hi) ∧
 (bif (!(decide (spanOk lo hi))) then K (.tup [(.i .i64 0), (.i .i64 8)])
 else (bif decide (0 < lo) then K (.tup [(.i .i64 1), (.i .i64 0)])
 else (bif decide (hi < 0) then K (.tup [(.i .i64 (-1)), (.i .i64 0)])
 else (bif (lo == hi) then K (.tup [(.i .i64 0), (.i .i64 0)])
 else K (.tup [(.i .i64 0), (.i .i64 24)]))))))
theorem nf_sine_Sign (lo hi : Int) (K : AV → Prop) : WF G_sine_Sign 0 FM_sine_Sign [(.agg [(.i .i64 lo), (.i .i64 hi)])] [] (fun a _ => K a) = NF_sine_Sign lo hi K := by kernel_rfl
theorem key_sine_Sign (lo hi : Int) {K : AV → Prop} (hp : I64 lo ∧ I64 hi) (hk : K (.tup [(.i .i64 (ssign lo hi).v), (.i .i64 (ssign lo hi).e)])) : NF_sine_Sign lo hi K := by
  unfold NF_sine_Sign
  refine ⟨hp, ?_⟩
  refine bif_i (fun h => K_of hk ?_) (fun h => ?_)
  · simp at h; simp [ssign, h]
  simp at h
  refine bif_i (fun h1 => K_of hk ?_) (fun h1 => ?_)
  · simp at h1; simp [ssign, h, h1]
  simp at h1
  refine bif_i (fun h2 => K_of hk ?_) (fun h2 => ?_)
  · simp at h2; simp [ssign, h, h2, show ¬ 0 < lo from by omega]
  simp at h2
  refine bif_i (fun h3 => K_of hk ?_) (fun h3 => K_of hk ?_)
  · simp at h3; subst h3; simp [ssign, h, show ¬ 0 < lo from by omega, show ¬ lo < 0 from by omega]
  · simp at h3; simp [ssign, h, show ¬ 0 < lo from by omega, show ¬ hi < 0 from by omega, h3]
theorem ok_sine_Sign : SoundN Go.Proofs.Try.prog 31 S_sine_Sign := by
  refine soundN_of sg_sine_Sign fun args H K hS => ?_
  unfold S_sine_Sign at hS
  split at hS
  · rename_i lo hi
    have hS1 := key_sine_Sign lo hi (K := fun a => plainA a = true ∧ K a) hS.1 ⟨by simp [plainA, plainL], hS.2⟩
    refine ⟨by simp [plainA, plainL], ?_⟩
    rw [nf_sine_Sign lo hi fun a => plainA a = true ∧ K a]
    exact hS1
  · exact hS.elim

def FM_ref05_Valid : FM := ⟨18, [(RV.tmp 2)], (MC.seq (MC.ops [⟨(some 1), none, (MI.box 23 (MO.t 0))⟩, ⟨(some 2), none, (MI.mv (MO.c (AV.b false)))⟩]) (MC.seq (MC.ops [⟨(some 3), none, (MI.faddr 0 (MO.t 1))⟩, ⟨(some 4), none, (MI.load (MO.t 3))⟩, ⟨(some 5), none, (MI.faddr 1 (MO.t 1))⟩, ⟨(some 6), none, (MI.load (MO.t 5))⟩, ⟨(some 7), none, (MI.bin .leq (MO.t 4) (MO.t 6))⟩, ⟨(some 8), none, (MI.mv (MO.t 7))⟩, ⟨(some 9), (some (8, true)), (MI.faddr 0 (MO.t 1))⟩, ⟨(some 10), (some (8, true)), (MI.load (MO.t 9))⟩, ⟨(some 11), (some (8, true)), (MI.bin .geq (MO.t 10) (MO.c (AV.i .i64 (-3000000000))))⟩, ⟨(some 12), none, (MI.pick (MO.t 8) (MO.t 11) (MO.c (AV.b false)))⟩, ⟨(some 13), none, (MI.mv (MO.t 12))⟩, ⟨(some 14), (some (13, true)), (MI.faddr 1 (MO.t 1))⟩, ⟨(some 15), (some (13, true)), (MI.load (MO.t 14))⟩, ⟨(some 16), (some (13, true)), (MI.bin .leq (MO.t 15) (MO.c (AV.i .i64 3000000000)))⟩, ⟨(some 17), none, (MI.pick (MO.t 13) (MO.t 16) (MO.c (AV.b false)))⟩, ⟨(some 2), none, (MI.mv (MO.t 17))⟩]) MC.ret))⟩
theorem FMc_ref05_Valid : compF Go.Proofs.Try.prog (eqsP Go.Proofs.Try.prog) (neutOf []) (neutOf []) 36 = some FM_ref05_Valid := by kernel_rfl
def G_ref05_Valid : Gam := mkG [] []
theorem sg_ref05_Valid : SoundG Go.Proofs.Try.prog 36 (WF G_ref05_Valid 0 FM_ref05_Valid) := WF_sound (allD_ok (n := G_ref05_Valid.n) (l := []) trivial) mixP (mkG_ok (n := []) (g := []) trivial trivial) eqsP_ok FMc_ref05_Valid
def S_ref05_Valid : NSpec := fun args _ K => match args with
  | [(.agg [(.i .i64 lo), (.i .i64 hi)])] => (I64 lo ∧ I64 hi) ∧ K (.b (decide (spanOk lo hi)))
  | _ => False
theorem det_ref05_Valid : DetN S_ref05_Valid := by
  intro args H K h
  unfold S_ref05_Valid at h
  split at h
  · exact ⟨_, h.2, fun H' K' _ k => ⟨h.1, k⟩⟩
  · exact h.elim

def NF_ref05_Valid (lo hi : Int) (K : AV → Prop) : Prop :=
 (bif decide (lo ≤ hi) then (bif decide ((-3000000000) ≤ lo) then K (.b (decide (hi ≤ 3000000000)))
 else K (.b false))
 else K (.b false))
theorem nf_ref05_Valid (lo hi : Int) (K : AV → Prop) : WF G_ref05_Valid 0 FM_ref05_Valid [(.agg [(.i .i64 lo), (.i .i64 hi)])] [] (fun a _ => K a) = NF_ref05_Valid lo hi K := by kernel_rfl
theorem key_ref05_Valid (lo hi : Int) {K : AV → Prop} (hp : I64 lo ∧ I64 hi) (hk : K (.b (decide (spanOk lo hi)))) : NF_ref05_Valid lo hi K := by
  unfold NF_ref05_Valid
  refine bif_i (fun h => bif_i (fun h1 => K_of hk ?_) (fun h1 => K_of hk ?_)) (fun h => K_of hk ?_) <;> simp at * <;> simp [spanOk, *] <;> omega
theorem ok_ref05_Valid : SoundN Go.Proofs.Try.prog 36 S_ref05_Valid := by
  refine soundN_of sg_ref05_Valid fun args H K hS => ?_
  unfold S_ref05_Valid at hS
  split at hS
  · rename_i lo hi
    have hS1 := key_ref05_Valid lo hi (K := fun a => plainA a = true ∧ K a) hS.1 ⟨by simp [plainA, plainL], hS.2⟩
    refine ⟨by simp [plainA, plainL], ?_⟩
    rw [nf_ref05_Valid lo hi fun a => plainA a = true ∧ K a]
    exact hS1
  · exact hS.elim


structure SR where
  lo : Int
  hi : Int
  e : Int
def mkS (lo hi : Int) : SR := if spanOk lo hi then ⟨lo, hi, 0⟩ else ⟨0, 0, 16⟩
def sAdd (a b c d : Int) : SR := if spanOk a b ∧ spanOk c d then mkS (a + c) (b + d) else ⟨0, 0, 8⟩
def sSub (a b c d : Int) : SR := if spanOk a b ∧ spanOk c d then mkS (a - d) (b - c) else ⟨0, 0, 8⟩
def mn4 (p q r s : Int) : Int := imin (imin (imin p q) r) s
def mx4 (p q r s : Int) : Int := imax (imax (imax p q) r) s
def sMul (a b c d : Int) : SR := if spanOk a b ∧ spanOk c d then mkS (mn4 (a * c) (a * d) (b * c) (b * d) / 1000000) (-((-mx4 (a * c) (a * d) (b * c) (b * d)) / 1000000)) else ⟨0, 0, 8⟩
def sOf (n d : Int) : SR := if okF n d then (if -3000000000 ≤ n / d ∧ n / d ≤ 3000000000 then (if n * 1000000 % d = 0 then mkS (n * 1000000 / d) (n * 1000000 / d) else mkS (n * 1000000 / d) (n * 1000000 / d + 1)) else ⟨0, 0, 16⟩) else ⟨0, 0, 8⟩
theorem mn4_mem (p q r s : Int) : (mn4 p q r s = p ∨ mn4 p q r s = q ∨ mn4 p q r s = r ∨ mn4 p q r s = s) ∧ mn4 p q r s ≤ p ∧ mn4 p q r s ≤ q ∧ mn4 p q r s ≤ r ∧ mn4 p q r s ≤ s := by
  unfold mn4 imin; (repeat' split) <;> omega
theorem mx4_mem (p q r s : Int) : (mx4 p q r s = p ∨ mx4 p q r s = q ∨ mx4 p q r s = r ∨ mx4 p q r s = s) ∧ p ≤ mx4 p q r s ∧ q ≤ mx4 p q r s ∧ r ≤ mx4 p q r s ∧ s ≤ mx4 p q r s := by
  unfold mx4 imax; (repeat' split) <;> omega
theorem abs_mul {x y A B : Int} (hx : -A ≤ x ∧ x ≤ A) (hy : -B ≤ y ∧ y ≤ B) : -(A * B) ≤ x * y ∧ x * y ≤ A * B := by
  have h1 : (x * y).natAbs ≤ (A * B).toNat := by
    rw [Int.natAbs_mul]
    have := Nat.mul_le_mul (show x.natAbs ≤ A.toNat by omega) (show y.natAbs ≤ B.toNat by omega)
    have e : (A * B).toNat = A.toNat * B.toNat := by
      obtain ⟨a, rfl⟩ := Int.eq_ofNat_of_zero_le (show 0 ≤ A by omega)
      obtain ⟨b, rfl⟩ := Int.eq_ofNat_of_zero_le (show 0 ≤ B by omega)
      rw [← Int.natCast_mul, Int.toNat_natCast, Int.toNat_natCast, Int.toNat_natCast]
    omega
  have h2 : 0 ≤ A * B := Int.mul_nonneg (by omega) (by omega)
  omega
theorem span_mul {a b c d : Int} (h : spanOk a b) (k : spanOk c d) : (-9000000000000000000 ≤ a * c ∧ a * c ≤ 9000000000000000000) ∧ (-9000000000000000000 ≤ a * d ∧ a * d ≤ 9000000000000000000) ∧ (-9000000000000000000 ≤ b * c ∧ b * c ≤ 9000000000000000000) ∧ (-9000000000000000000 ≤ b * d ∧ b * d ≤ 9000000000000000000) := by
  obtain ⟨h1, h2, h3⟩ := h
  obtain ⟨k1, k2, k3⟩ := k
  exact ⟨abs_mul (A := 3000000000) (B := 3000000000) ⟨by omega, by omega⟩ ⟨by omega, by omega⟩, abs_mul (A := 3000000000) (B := 3000000000) ⟨by omega, by omega⟩ ⟨by omega, by omega⟩, abs_mul (A := 3000000000) (B := 3000000000) ⟨by omega, by omega⟩ ⟨by omega, by omega⟩, abs_mul (A := 3000000000) (B := 3000000000) ⟨by omega, by omega⟩ ⟨by omega, by omega⟩⟩
/-- An end of an enclosure, as a fraction. -/
theorem make_unit {a : Int} (h : -3000000000 ≤ a ∧ a ≤ 3000000000) : ∃ p q : Int, makeF a 1000000 = ⟨p, q, 0⟩ ∧ okF p q ∧ p * 1000000 = a * q ∧ 0 < q := by
  obtain ⟨g, p, q, hg, h0, hn, hq, h1⟩ := gcd_lowest (n := a) (d := 1000000) (by omega)
  have hq0 : 0 < q := by
    rcases Int.lt_or_le 0 q with h | h
    · exact h
    · have := Int.mul_nonpos_of_nonneg_of_nonpos (show 0 ≤ g by omega) h; omega
  have hq1 : q ≤ 1000000 := by
    rw [hq]
    have := Int.mul_le_mul_of_nonneg_right (show 1 ≤ g by omega) (show 0 ≤ q by omega)
    omega
  have hp : -3000000000 ≤ p ∧ p ≤ 3000000000 := by
    have e : a.natAbs = g.natAbs * p.natAbs := by rw [hn, Int.natAbs_mul]
    have : p.natAbs ≤ a.natAbs := by
      rw [e]
      exact Nat.le_mul_of_pos_left _ (by omega)
    omega
  have hr : makeF a 1000000 = ⟨p, q, 0⟩ := by
    unfold makeF
    rw [if_neg (by omega), hn, hq, rat_mul_div (by omega), ofRat_lowest hq0 h1, if_pos (by unfold inR; omega)]
  refine ⟨p, q, hr, ⟨by omega, h1⟩, ?_, hq0⟩
  rw [hq, hn, ← Int.mul_assoc, Int.mul_comm p g]
theorem unit_le {p q a n d : Int} (hq : 0 < q) (h : p * 1000000 = a * q) : (p * d ≤ n * q ↔ a * d ≤ n * 1000000) ∧ (n * q ≤ p * d ↔ n * 1000000 ≤ a * d) := by
  have e1 : p * d * 1000000 = q * (a * d) := by
    rw [Int.mul_right_comm, h, Int.mul_right_comm, Int.mul_comm]
  have e2 : n * q * 1000000 = q * (n * 1000000) := by
    rw [Int.mul_right_comm, Int.mul_comm]
  constructor
  · constructor
    · intro hh
      have : q * (a * d) ≤ q * (n * 1000000) := by omega
      exact Int.le_of_mul_le_mul_left this hq
    · intro hh
      have := Int.mul_le_mul_of_nonneg_left hh (show 0 ≤ q by omega)
      omega
  · constructor
    · intro hh
      have : q * (n * 1000000) ≤ q * (a * d) := by omega
      exact Int.le_of_mul_le_mul_left this hq
    · intro hh
      have := Int.mul_le_mul_of_nonneg_left hh (show 0 ≤ q by omega)
      omega
/-- One digit more. -/
theorem digit_more {x d k : Int} (hd : 0 < d) : (x * k) / d = k * (x / d) + (x % d * k) / d ∧ (x * k) % d = (x % d * k) % d := by
  have e := Int.mul_ediv_add_emod x d
  have e2 : x * k = x % d * k + d * (k * (x / d)) := by
    have : d * (k * (x / d)) = d * (x / d) * k := by rw [Int.mul_assoc, Int.mul_comm k]
    rw [this, ← Int.add_mul]
    congr 1; omega
  constructor
  · rw [e2, Int.add_mul_ediv_left _ _ (by omega)]; omega
  · rw [e2, Int.add_mul_emod_self_left]
structure OfStep (x d : Int) : Prop where
  a : u64.wrap (x % d * 10) = x % d * 10
  b : Int.tdiv (x % d * 10) d = x % d * 10 / d
  c : u64.wrap (x % d * 10 / d) = x % d * 10 / d
  e : i64.wrap (x % d * 10 / d) = x % d * 10 / d
  f : i64.wrap (10 * (x / d)) = 10 * (x / d)
  g : i64.wrap (10 * (x / d) + x % d * 10 / d) = x * 10 / d
  h : Int.tmod (x % d * 10) d = x * 10 % d
  k : 10 * (x / d) ≤ x * 10 / d ∧ x * 10 / d ≤ 10 * (x / d) + 9
theorem of_step {x d : Int} (hd : 0 < d) (hd2 : d ≤ 1000000000000000000) (hx : -90000000000000000 ≤ x / d ∧ x / d ≤ 90000000000000000) : OfStep x d := by
  obtain ⟨e1, e2⟩ := digit_more (x := x) (k := 10) hd
  have r0 := Int.emod_nonneg x (b := d) (by omega)
  have r1 := Int.emod_lt_of_pos x (b := d) hd
  have q0 : 0 ≤ x % d * 10 / d := Int.ediv_nonneg (by omega) (by omega)
  have q1 : x % d * 10 / d < 10 := Int.ediv_lt_of_lt_mul hd (by omega)
  refine ⟨wrap_u64 (by omega) (by omega), tdiv_pos (by omega), wrap_u64 q0 (by omega), wrap_i64 (by omega) (by omega), wrap_i64 (by omega) (by omega), ?_, ?_, by omega, by omega⟩
  · rw [wrap_i64 (by omega) (by omega), e1]
  · rw [tmod_pos (by omega), e2]
structure BR where
  v : Bool
  e : Int
def sHas (a b n d : Int) : BR := if spanOk a b ∧ okF n d then ⟨decide (a * d ≤ n * 1000000 ∧ n * 1000000 ≤ b * d), 0⟩ else ⟨false, 8⟩

def FM_sine_made : FM := ⟨15, [(RV.cells 4 2), (RV.tmp 5)], (MC.seq (MC.ops [⟨(some 4), none, (MI.alloc 23 [(AV.i .i64 0), (AV.i .i64 0)])⟩, ⟨(some 5), none, (MI.mv (MO.c (AV.i .i64 0)))⟩]) (MC.seq (MC.ops [⟨(some 7), none, (MI.mv (MO.t 0))⟩, ⟨(some 8), none, (MI.mv (MO.t 1))⟩, ⟨(some 9), none, (MI.build [(AV.i .i64 0), (AV.i .i64 0)] [(0, 1, (MO.t 7)), (1, 1, (MO.t 8))])⟩, ⟨(some 6), none, (MI.alloc 23 [(AV.i .i64 0), (AV.i .i64 0)])⟩, ⟨none, none, (MI.store 2 (MO.t 6) (MO.t 9))⟩]) (MC.seq (MC.seq (MC.ops [⟨(some 10), none, (MI.loadn 2 (MO.t 6))⟩, ⟨(some 11), none, (MI.callN 48 [(MO.t 10)])⟩, ⟨(some 12), none, (MI.un .not (MO.t 11))⟩]) (MC.cond (MO.t 12) (MC.seq (MC.ops [⟨(some 13), none, (MI.build [(AV.i .i64 0), (AV.i .i64 0)] [])⟩, ⟨none, none, (MI.store 2 (MO.t 4) (MO.t 13))⟩, ⟨(some 5), none, (MI.mv (MO.c (AV.i .i64 16)))⟩]) MC.ret) MC.skip)) (MC.seq (MC.ops [⟨(some 14), none, (MI.loadn 2 (MO.t 6))⟩, ⟨none, none, (MI.store 2 (MO.t 4) (MO.t 14))⟩, ⟨(some 5), none, (MI.mv (MO.c (AV.i .i64 0)))⟩]) MC.ret))))⟩
theorem FMc_sine_made : compF Go.Proofs.Try.prog (eqsP Go.Proofs.Try.prog) (neutOf [48]) (neutOf [48]) 49 = some FM_sine_made := by kernel_rfl
def G_sine_made : Gam := mkG [(48, S_sine_valid)] []
theorem sg_sine_made : SoundG Go.Proofs.Try.prog 49 (WF G_sine_made 0 FM_sine_made) := WF_sound (allD_ok (n := G_sine_made.n) (l := [48]) ⟨det_sine_valid, trivial⟩) mixP (mkG_ok (n := [(48, S_sine_valid)]) (g := []) ⟨ok_sine_valid, trivial⟩ trivial) eqsP_ok FMc_sine_made
def S_sine_made : NSpec := fun args _ K => match args with
  | [(.i .i64 lo), (.i .i64 hi)] => (I64 lo ∧ I64 hi) ∧ K (.tup [(.agg [(.i .i64 (mkS lo hi).lo), (.i .i64 (mkS lo hi).hi)]), (.i .i64 (mkS lo hi).e)])
  | _ => False
theorem det_sine_made : DetN S_sine_made := by
  intro args H K h
  unfold S_sine_made at h
  split at h
  · exact ⟨_, h.2, fun H' K' _ k => ⟨h.1, k⟩⟩
  · exact h.elim

def NF_sine_made (lo hi : Int) (K : AV → Prop) : Prop :=
 ((I64 lo ∧ I64 hi) ∧
 (bif (!(decide (spanOk lo hi))) then K (.tup [(.agg [(.i .i64 0), (.i .i64 0)]), (.i .i64 16)])
 else K (.tup [(.agg [(.i .i64 lo), (.i .i64 hi)]), (.i .i64 0)])))
theorem nf_sine_made (lo hi : Int) (K : AV → Prop) : WF G_sine_made 0 FM_sine_made [(.i .i64 lo), (.i .i64 hi)] [] (fun a _ => K a) = NF_sine_made lo hi K := by kernel_rfl
theorem key_sine_made (lo hi : Int) {K : AV → Prop} (hp : I64 lo ∧ I64 hi) (hk : K (.tup [(.agg [(.i .i64 (mkS lo hi).lo), (.i .i64 (mkS lo hi).hi)]), (.i .i64 (mkS lo hi).e)])) : NF_sine_made lo hi K := by
  unfold NF_sine_made
  refine ⟨hp, ?_⟩
  refine bif_i (fun h => K_of hk ?_) (fun h => K_of hk ?_) <;> simp only [Bool.not_eq_true', Bool.not_eq_false', decide_eq_true_eq, decide_eq_false_iff_not] at h <;> simp [mkS, h]
theorem ok_sine_made : SoundN Go.Proofs.Try.prog 49 S_sine_made := by
  refine soundN_of sg_sine_made fun args H K hS => ?_
  unfold S_sine_made at hS
  split at hS
  · rename_i lo hi
    have hS1 := key_sine_made lo hi (K := fun a => plainA a = true ∧ K a) hS.1 ⟨by simp [plainA, plainL], hS.2⟩
    refine ⟨by simp [plainA, plainL], ?_⟩
    rw [nf_sine_made lo hi fun a => plainA a = true ∧ K a]
    exact hS1
  · exact hS.elim

def FM_sine_Add : FM := ⟨28, [(RV.cells 4 2), (RV.tmp 5)], (MC.seq (MC.ops [⟨(some 2), none, (MI.box 23 (MO.t 0))⟩, ⟨(some 3), none, (MI.box 23 (MO.t 1))⟩, ⟨(some 4), none, (MI.alloc 23 [(AV.i .i64 0), (AV.i .i64 0)])⟩, ⟨(some 5), none, (MI.mv (MO.c (AV.i .i64 0)))⟩]) (MC.seq (MC.seq (MC.ops [⟨(some 6), none, (MI.loadn 2 (MO.t 2))⟩, ⟨(some 7), none, (MI.callN 48 [(MO.t 6)])⟩, ⟨(some 8), none, (MI.un .not (MO.t 7))⟩, ⟨(some 9), none, (MI.mv (MO.t 8))⟩, ⟨(some 10), (some (9, false)), (MI.loadn 2 (MO.t 3))⟩, ⟨(some 11), (some (9, false)), (MI.callN 48 [(MO.t 10)])⟩, ⟨(some 12), (some (9, false)), (MI.un .not (MO.t 11))⟩, ⟨(some 13), none, (MI.pick (MO.t 9) (MO.c (AV.b true)) (MO.t 12))⟩]) (MC.cond (MO.t 13) (MC.seq (MC.ops [⟨(some 14), none, (MI.build [(AV.i .i64 0), (AV.i .i64 0)] [])⟩, ⟨none, none, (MI.store 2 (MO.t 4) (MO.t 14))⟩, ⟨(some 5), none, (MI.mv (MO.c (AV.i .i64 8)))⟩]) MC.ret) MC.skip)) (MC.seq (MC.ops [⟨(some 15), none, (MI.faddr 0 (MO.t 2))⟩, ⟨(some 16), none, (MI.load (MO.t 15))⟩, ⟨(some 17), none, (MI.faddr 0 (MO.t 3))⟩, ⟨(some 18), none, (MI.load (MO.t 17))⟩, ⟨(some 19), none, (MI.bin .add (MO.t 16) (MO.t 18))⟩, ⟨(some 20), none, (MI.faddr 1 (MO.t 2))⟩, ⟨(some 21), none, (MI.load (MO.t 20))⟩, ⟨(some 22), none, (MI.faddr 1 (MO.t 3))⟩, ⟨(some 23), none, (MI.load (MO.t 22))⟩, ⟨(some 24), none, (MI.bin .add (MO.t 21) (MO.t 23))⟩, ⟨(some 25), none, (MI.callN 49 [(MO.t 19), (MO.t 24)])⟩, ⟨(some 26), none, (MI.ext (MO.t 25) 0)⟩, ⟨(some 27), none, (MI.ext (MO.t 25) 1)⟩, ⟨none, none, (MI.store 2 (MO.t 4) (MO.t 26))⟩, ⟨(some 5), none, (MI.mv (MO.t 27))⟩]) MC.ret)))⟩
theorem FMc_sine_Add : compF Go.Proofs.Try.prog (eqsP Go.Proofs.Try.prog) (neutOf [48, 49]) (neutOf [48, 49]) 20 = some FM_sine_Add := by kernel_rfl
def G_sine_Add : Gam := mkG [(48, S_sine_valid), (49, S_sine_made)] []
theorem sg_sine_Add : SoundG Go.Proofs.Try.prog 20 (WF G_sine_Add 0 FM_sine_Add) := WF_sound (allD_ok (n := G_sine_Add.n) (l := [48, 49]) ⟨det_sine_valid, det_sine_made, trivial⟩) mixP (mkG_ok (n := [(48, S_sine_valid), (49, S_sine_made)]) (g := []) ⟨ok_sine_valid, ok_sine_made, trivial⟩ trivial) eqsP_ok FMc_sine_Add
def S_sine_Add : NSpec := fun args _ K => match args with
  | [(.agg [(.i .i64 a), (.i .i64 b)]), (.agg [(.i .i64 c), (.i .i64 d)])] => ((I64 a ∧ I64 b) ∧ I64 c ∧ I64 d) ∧ K (.tup [(.agg [(.i .i64 (sAdd a b c d).lo), (.i .i64 (sAdd a b c d).hi)]), (.i .i64 (sAdd a b c d).e)])
  | _ => False
theorem det_sine_Add : DetN S_sine_Add := by
  intro args H K h
  unfold S_sine_Add at h
  split at h
  · exact ⟨_, h.2, fun H' K' _ k => ⟨h.1, k⟩⟩
  · exact h.elim

def NF_sine_Add (a b c d : Int) (K : AV → Prop) : Prop :=
 ((I64 a ∧ I64 b) ∧
 (bif (!(decide (spanOk a b))) then K (.tup [(.agg [(.i .i64 0), (.i .i64 0)]), (.i .i64 8)])
 else ((I64 c ∧ I64 d) ∧
 (bif (!(decide (spanOk c d))) then K (.tup [(.agg [(.i .i64 0), (.i .i64 0)]), (.i .i64 8)])
 else ((I64 (i64.wrap (a + c)) ∧ I64 (i64.wrap (b + d))) ∧
 K (.tup [(.agg [(.i .i64 (mkS (i64.wrap (a + c)) (i64.wrap (b + d))).lo), (.i .i64 (mkS (i64.wrap (a + c)) (i64.wrap (b + d))).hi)]), (.i .i64 (mkS (i64.wrap (a + c)) (i64.wrap (b + d))).e)]))))))
theorem nf_sine_Add (a b c d : Int) (K : AV → Prop) : WF G_sine_Add 0 FM_sine_Add [(.agg [(.i .i64 a), (.i .i64 b)]), (.agg [(.i .i64 c), (.i .i64 d)])] [] (fun a _ => K a) = NF_sine_Add a b c d K := by kernel_rfl
theorem key_sine_Add (a b c d : Int) {K : AV → Prop} (hp : (I64 a ∧ I64 b) ∧ I64 c ∧ I64 d) (hk : K (.tup [(.agg [(.i .i64 (sAdd a b c d).lo), (.i .i64 (sAdd a b c d).hi)]), (.i .i64 (sAdd a b c d).e)])) : NF_sine_Add a b c d K := by
  unfold NF_sine_Add
  have no : ¬ (spanOk a b ∧ spanOk c d) → K (.tup [(.agg [(.i .i64 0), (.i .i64 0)]), (.i .i64 8)]) := fun h => K_of hk (by simp only [sAdd, if_neg h])
  refine ⟨hp.1, bif_i (fun h => no ?_) (fun h => ⟨hp.2, bif_i (fun h2 => no ?_) (fun h2 => ?_)⟩)⟩ <;> simp only [Bool.not_eq_true', Bool.not_eq_false', decide_eq_true_eq, decide_eq_false_iff_not] at h <;> (try simp only [Bool.not_eq_true', Bool.not_eq_false', decide_eq_true_eq, decide_eq_false_iff_not] at h2)
  · exact fun x => h x.1
  · exact fun x => h2 x.2
  
  have e : sAdd a b c d = mkS (a + c) (b + d) := by simp only [sAdd, if_pos (And.intro h h2)]
  rw [e] at hk
  unfold spanOk at h h2
  rw [wrap_i64 (n := a + c) (by omega) (by omega), wrap_i64 (n := b + d) (by omega) (by omega)]
  exact ⟨⟨⟨by omega, by omega⟩, by omega, by omega⟩, hk⟩
theorem ok_sine_Add : SoundN Go.Proofs.Try.prog 20 S_sine_Add := by
  refine soundN_of sg_sine_Add fun args H K hS => ?_
  unfold S_sine_Add at hS
  split at hS
  · rename_i a b c d
    have hS1 := key_sine_Add a b c d (K := fun a => plainA a = true ∧ K a) hS.1 ⟨by simp [plainA, plainL], hS.2⟩
    refine ⟨by simp [plainA, plainL], ?_⟩
    rw [nf_sine_Add a b c d fun a => plainA a = true ∧ K a]
    exact hS1
  · exact hS.elim

def FM_sine_Sub : FM := ⟨28, [(RV.cells 4 2), (RV.tmp 5)], (MC.seq (MC.ops [⟨(some 2), none, (MI.box 23 (MO.t 0))⟩, ⟨(some 3), none, (MI.box 23 (MO.t 1))⟩, ⟨(some 4), none, (MI.alloc 23 [(AV.i .i64 0), (AV.i .i64 0)])⟩, ⟨(some 5), none, (MI.mv (MO.c (AV.i .i64 0)))⟩]) (MC.seq (MC.seq (MC.ops [⟨(some 6), none, (MI.loadn 2 (MO.t 2))⟩, ⟨(some 7), none, (MI.callN 48 [(MO.t 6)])⟩, ⟨(some 8), none, (MI.un .not (MO.t 7))⟩, ⟨(some 9), none, (MI.mv (MO.t 8))⟩, ⟨(some 10), (some (9, false)), (MI.loadn 2 (MO.t 3))⟩, ⟨(some 11), (some (9, false)), (MI.callN 48 [(MO.t 10)])⟩, ⟨(some 12), (some (9, false)), (MI.un .not (MO.t 11))⟩, ⟨(some 13), none, (MI.pick (MO.t 9) (MO.c (AV.b true)) (MO.t 12))⟩]) (MC.cond (MO.t 13) (MC.seq (MC.ops [⟨(some 14), none, (MI.build [(AV.i .i64 0), (AV.i .i64 0)] [])⟩, ⟨none, none, (MI.store 2 (MO.t 4) (MO.t 14))⟩, ⟨(some 5), none, (MI.mv (MO.c (AV.i .i64 8)))⟩]) MC.ret) MC.skip)) (MC.seq (MC.ops [⟨(some 15), none, (MI.faddr 0 (MO.t 2))⟩, ⟨(some 16), none, (MI.load (MO.t 15))⟩, ⟨(some 17), none, (MI.faddr 1 (MO.t 3))⟩, ⟨(some 18), none, (MI.load (MO.t 17))⟩, ⟨(some 19), none, (MI.bin .sub (MO.t 16) (MO.t 18))⟩, ⟨(some 20), none, (MI.faddr 1 (MO.t 2))⟩, ⟨(some 21), none, (MI.load (MO.t 20))⟩, ⟨(some 22), none, (MI.faddr 0 (MO.t 3))⟩, ⟨(some 23), none, (MI.load (MO.t 22))⟩, ⟨(some 24), none, (MI.bin .sub (MO.t 21) (MO.t 23))⟩, ⟨(some 25), none, (MI.callN 49 [(MO.t 19), (MO.t 24)])⟩, ⟨(some 26), none, (MI.ext (MO.t 25) 0)⟩, ⟨(some 27), none, (MI.ext (MO.t 25) 1)⟩, ⟨none, none, (MI.store 2 (MO.t 4) (MO.t 26))⟩, ⟨(some 5), none, (MI.mv (MO.t 27))⟩]) MC.ret)))⟩
theorem FMc_sine_Sub : compF Go.Proofs.Try.prog (eqsP Go.Proofs.Try.prog) (neutOf [48, 49]) (neutOf [48, 49]) 22 = some FM_sine_Sub := by kernel_rfl
def G_sine_Sub : Gam := mkG [(48, S_sine_valid), (49, S_sine_made)] []
theorem sg_sine_Sub : SoundG Go.Proofs.Try.prog 22 (WF G_sine_Sub 0 FM_sine_Sub) := WF_sound (allD_ok (n := G_sine_Sub.n) (l := [48, 49]) ⟨det_sine_valid, det_sine_made, trivial⟩) mixP (mkG_ok (n := [(48, S_sine_valid), (49, S_sine_made)]) (g := []) ⟨ok_sine_valid, ok_sine_made, trivial⟩ trivial) eqsP_ok FMc_sine_Sub
def S_sine_Sub : NSpec := fun args _ K => match args with
  | [(.agg [(.i .i64 a), (.i .i64 b)]), (.agg [(.i .i64 c), (.i .i64 d)])] => ((I64 a ∧ I64 b) ∧ I64 c ∧ I64 d) ∧ K (.tup [(.agg [(.i .i64 (sSub a b c d).lo), (.i .i64 (sSub a b c d).hi)]), (.i .i64 (sSub a b c d).e)])
  | _ => False
theorem det_sine_Sub : DetN S_sine_Sub := by
  intro args H K h
  unfold S_sine_Sub at h
  split at h
  · exact ⟨_, h.2, fun H' K' _ k => ⟨h.1, k⟩⟩
  · exact h.elim

def NF_sine_Sub (a b c d : Int) (K : AV → Prop) : Prop :=
 ((I64 a ∧ I64 b) ∧
 (bif (!(decide (spanOk a b))) then K (.tup [(.agg [(.i .i64 0), (.i .i64 0)]), (.i .i64 8)])
 else ((I64 c ∧ I64 d) ∧
 (bif (!(decide (spanOk c d))) then K (.tup [(.agg [(.i .i64 0), (.i .i64 0)]), (.i .i64 8)])
 else ((I64 (i64.wrap (a - d)) ∧ I64 (i64.wrap (b - c))) ∧
 K (.tup [(.agg [(.i .i64 (mkS (i64.wrap (a - d)) (i64.wrap (b - c))).lo), (.i .i64 (mkS (i64.wrap (a - d)) (i64.wrap (b - c))).hi)]), (.i .i64 (mkS (i64.wrap (a - d)) (i64.wrap (b - c))).e)]))))))
theorem nf_sine_Sub (a b c d : Int) (K : AV → Prop) : WF G_sine_Sub 0 FM_sine_Sub [(.agg [(.i .i64 a), (.i .i64 b)]), (.agg [(.i .i64 c), (.i .i64 d)])] [] (fun a _ => K a) = NF_sine_Sub a b c d K := by kernel_rfl
theorem key_sine_Sub (a b c d : Int) {K : AV → Prop} (hp : (I64 a ∧ I64 b) ∧ I64 c ∧ I64 d) (hk : K (.tup [(.agg [(.i .i64 (sSub a b c d).lo), (.i .i64 (sSub a b c d).hi)]), (.i .i64 (sSub a b c d).e)])) : NF_sine_Sub a b c d K := by
  unfold NF_sine_Sub
  have no : ¬ (spanOk a b ∧ spanOk c d) → K (.tup [(.agg [(.i .i64 0), (.i .i64 0)]), (.i .i64 8)]) := fun h => K_of hk (by simp only [sSub, if_neg h])
  refine ⟨hp.1, bif_i (fun h => no ?_) (fun h => ⟨hp.2, bif_i (fun h2 => no ?_) (fun h2 => ?_)⟩)⟩ <;> simp only [Bool.not_eq_true', Bool.not_eq_false', decide_eq_true_eq, decide_eq_false_iff_not] at h <;> (try simp only [Bool.not_eq_true', Bool.not_eq_false', decide_eq_true_eq, decide_eq_false_iff_not] at h2)
  · exact fun x => h x.1
  · exact fun x => h2 x.2
  
  have e : sSub a b c d = mkS (a - d) (b - c) := by simp only [sSub, if_pos (And.intro h h2)]
  rw [e] at hk
  unfold spanOk at h h2
  rw [wrap_i64 (n := a - d) (by omega) (by omega), wrap_i64 (n := b - c) (by omega) (by omega)]
  exact ⟨⟨⟨by omega, by omega⟩, by omega, by omega⟩, hk⟩
theorem ok_sine_Sub : SoundN Go.Proofs.Try.prog 22 S_sine_Sub := by
  refine soundN_of sg_sine_Sub fun args H K hS => ?_
  unfold S_sine_Sub at hS
  split at hS
  · rename_i a b c d
    have hS1 := key_sine_Sub a b c d (K := fun a => plainA a = true ∧ K a) hS.1 ⟨by simp [plainA, plainL], hS.2⟩
    refine ⟨by simp [plainA, plainL], ?_⟩
    rw [nf_sine_Sub a b c d fun a => plainA a = true ∧ K a]
    exact hS1
  · exact hS.elim

def FM_sine_floor : FM := ⟨17, [(RV.tmp 4)], (MC.seq (MC.ops [⟨(some 4), none, (MI.mv (MO.c (AV.i .i64 0)))⟩]) (MC.seq (MC.ops [⟨(some 6), none, (MI.mv (MO.t 0))⟩, ⟨(some 7), none, (MI.mv (MO.t 1))⟩, ⟨(some 8), none, (MI.bin .quo (MO.t 6) (MO.t 7))⟩, ⟨(some 5), none, (MI.mv (MO.t 8))⟩]) (MC.seq (MC.seq (MC.ops [⟨(some 9), none, (MI.mv (MO.t 5))⟩, ⟨(some 10), none, (MI.mv (MO.t 1))⟩, ⟨(some 11), none, (MI.bin .mul (MO.t 9) (MO.t 10))⟩, ⟨(some 12), none, (MI.mv (MO.t 0))⟩, ⟨(some 13), none, (MI.bin .gtr (MO.t 11) (MO.t 12))⟩]) (MC.cond (MO.t 13) (MC.ops [⟨(some 14), none, (MI.mv (MO.t 5))⟩, ⟨(some 15), none, (MI.bin .sub (MO.t 14) (MO.c (AV.i .i64 1)))⟩, ⟨(some 5), none, (MI.mv (MO.t 15))⟩]) MC.skip)) (MC.seq (MC.ops [⟨(some 16), none, (MI.mv (MO.t 5))⟩, ⟨(some 4), none, (MI.mv (MO.t 16))⟩]) MC.ret))))⟩
theorem FMc_sine_floor : compF Go.Proofs.Try.prog (eqsP Go.Proofs.Try.prog) (neutOf []) (neutOf []) 50 = some FM_sine_floor := by kernel_rfl
def G_sine_floor : Gam := mkG [] []
theorem sg_sine_floor : SoundG Go.Proofs.Try.prog 50 (WF G_sine_floor 0 FM_sine_floor) := WF_sound (allD_ok (n := G_sine_floor.n) (l := []) trivial) mixP (mkG_ok (n := []) (g := []) trivial trivial) eqsP_ok FMc_sine_floor
def S_sine_floor : NSpec := fun args _ K => match args with
  | [(.i .i64 n), (.i .i64 1000000)] => (I64 n) ∧ K (.i .i64 (n / 1000000))
  | _ => False
theorem det_sine_floor : DetN S_sine_floor := by
  intro args H K h
  unfold S_sine_floor at h
  split at h
  · exact ⟨_, h.2, fun H' K' _ k => ⟨h.1, k⟩⟩
  · exact h.elim

def NF_sine_floor (n : Int) (K : AV → Prop) : Prop :=
 (bif decide (n < (i64.wrap ((i64.wrap (Int.tdiv n 1000000)) * 1000000))) then K (.i .i64 (i64.wrap ((i64.wrap (Int.tdiv n 1000000)) - 1)))
 else K (.i .i64 (i64.wrap (Int.tdiv n 1000000))))
theorem nf_sine_floor (n : Int) (K : AV → Prop) : WF G_sine_floor 0 FM_sine_floor [(.i .i64 n), (.i .i64 1000000)] [] (fun a _ => K a) = NF_sine_floor n K := by kernel_rfl
theorem key_sine_floor (n : Int) {K : AV → Prop} (hp : I64 n) (hk : K (.i .i64 (n / 1000000))) : NF_sine_floor n K := by
  unfold NF_sine_floor
  obtain ⟨a1, a2⟩ := hp
  have e : Int.tdiv n 1000000 = if 0 ≤ n then n / 1000000 else -((-n) / 1000000) := tdiv_ediv (by omega)
  have e2 : i64.wrap (Int.tdiv n 1000000) = Int.tdiv n 1000000 := wrap_i64 (by rw [e]; split <;> omega) (by rw [e]; split <;> omega)
  have e3 : i64.wrap (Int.tdiv n 1000000 * 1000000) = Int.tdiv n 1000000 * 1000000 := wrap_i64 (by rw [e]; split <;> omega) (by rw [e]; split <;> omega)
  have e4 : i64.wrap (Int.tdiv n 1000000 - 1) = Int.tdiv n 1000000 - 1 := wrap_i64 (by rw [e]; split <;> omega) (by rw [e]; split <;> omega)
  rw [e2, e3, e4]
  refine bif_i (fun h => K_of hk ?_) (fun h => K_of hk ?_) <;> simp at h <;> congr 1 <;> rw [e] at h ⊢ <;> split at h <;> simp only [*, if_true, if_false] <;> omega
theorem ok_sine_floor : SoundN Go.Proofs.Try.prog 50 S_sine_floor := by
  refine soundN_of sg_sine_floor fun args H K hS => ?_
  unfold S_sine_floor at hS
  split at hS
  · rename_i n
    have hS1 := key_sine_floor n (K := fun a => plainA a = true ∧ K a) hS.1 ⟨by simp [plainA, plainL], hS.2⟩
    refine ⟨by simp [plainA, plainL], ?_⟩
    rw [nf_sine_floor n fun a => plainA a = true ∧ K a]
    exact hS1
  · exact hS.elim

def FM_sine_Mul : FM := ⟨68, [(RV.cells 4 2), (RV.tmp 5)], (MC.seq (MC.ops [⟨(some 2), none, (MI.box 23 (MO.t 0))⟩, ⟨(some 3), none, (MI.box 23 (MO.t 1))⟩, ⟨(some 4), none, (MI.alloc 23 [(AV.i .i64 0), (AV.i .i64 0)])⟩, ⟨(some 5), none, (MI.mv (MO.c (AV.i .i64 0)))⟩]) (MC.seq (MC.seq (MC.ops [⟨(some 12), none, (MI.loadn 2 (MO.t 2))⟩, ⟨(some 13), none, (MI.callN 48 [(MO.t 12)])⟩, ⟨(some 14), none, (MI.un .not (MO.t 13))⟩, ⟨(some 15), none, (MI.mv (MO.t 14))⟩, ⟨(some 16), (some (15, false)), (MI.loadn 2 (MO.t 3))⟩, ⟨(some 17), (some (15, false)), (MI.callN 48 [(MO.t 16)])⟩, ⟨(some 18), (some (15, false)), (MI.un .not (MO.t 17))⟩, ⟨(some 19), none, (MI.pick (MO.t 15) (MO.c (AV.b true)) (MO.t 18))⟩]) (MC.cond (MO.t 19) (MC.seq (MC.ops [⟨(some 20), none, (MI.build [(AV.i .i64 0), (AV.i .i64 0)] [])⟩, ⟨none, none, (MI.store 2 (MO.t 4) (MO.t 20))⟩, ⟨(some 5), none, (MI.mv (MO.c (AV.i .i64 8)))⟩]) MC.ret) MC.skip)) (MC.seq (MC.dr (SchM.op ⟨(some 21), none, (MI.faddr 0 (MO.t 2))⟩ (SchM.op ⟨(some 22), none, (MI.load (MO.t 21))⟩ (SchM.op ⟨(some 23), none, (MI.faddr 0 (MO.t 3))⟩ (SchM.op ⟨(some 24), none, (MI.load (MO.t 23))⟩ (SchM.op ⟨(some 25), none, (MI.bin .mul (MO.t 22) (MO.t 24))⟩ (SchM.op ⟨(some 26), none, (MI.faddr 0 (MO.t 2))⟩ (SchM.op ⟨(some 27), none, (MI.load (MO.t 26))⟩ (SchM.op ⟨(some 28), none, (MI.faddr 0 (MO.t 3))⟩ (SchM.op ⟨(some 29), none, (MI.load (MO.t 28))⟩ (SchM.op ⟨(some 30), none, (MI.bin .mul (MO.t 27) (MO.t 29))⟩ (SchM.op ⟨(some 6), none, (MI.mv (MO.t 25))⟩ (SchM.op ⟨(some 7), none, (MI.mv (MO.t 30))⟩ SchM.done))))))))))))) (MC.seq (MC.seq (MC.ops [⟨(some 31), none, (MI.faddr 0 (MO.t 2))⟩, ⟨(some 32), none, (MI.load (MO.t 31))⟩, ⟨(some 33), none, (MI.faddr 1 (MO.t 2))⟩, ⟨(some 34), none, (MI.load (MO.t 33))⟩, ⟨(some 35), none, (MI.build [(AV.i .i64 0), (AV.i .i64 0)] [(0, 1, (MO.t 32)), (1, 1, (MO.t 34))])⟩, ⟨(some 36), none, (MI.mv (MO.c (AV.i .i64 0)))⟩]) (MC.block 0 (MC.loop (MC.seq (MC.ops [⟨(some 37), none, (MI.bin .lss (MO.t 36) (MO.c (AV.i .i64 2)))⟩]) (MC.seq (MC.cond (MO.t 37) MC.skip (MC.exit 0)) (MC.seq (MC.block 1 (MC.seq (MC.ops [⟨(some 38), none, (MI.idx 2 (MO.t 35) (MO.t 36))⟩, ⟨(some 9), none, (MI.mv (MO.t 38))⟩]) (MC.seq (MC.ops [⟨(some 39), none, (MI.faddr 0 (MO.t 3))⟩, ⟨(some 40), none, (MI.load (MO.t 39))⟩, ⟨(some 41), none, (MI.faddr 1 (MO.t 3))⟩, ⟨(some 42), none, (MI.load (MO.t 41))⟩, ⟨(some 43), none, (MI.build [(AV.i .i64 0), (AV.i .i64 0)] [(0, 1, (MO.t 40)), (1, 1, (MO.t 42))])⟩, ⟨(some 44), none, (MI.mv (MO.c (AV.i .i64 0)))⟩]) (MC.block 2 (MC.loop (MC.seq (MC.ops [⟨(some 45), none, (MI.bin .lss (MO.t 44) (MO.c (AV.i .i64 2)))⟩]) (MC.seq (MC.cond (MO.t 45) MC.skip (MC.exit 2)) (MC.seq (MC.block 3 (MC.seq (MC.ops [⟨(some 46), none, (MI.idx 2 (MO.t 43) (MO.t 44))⟩, ⟨(some 11), none, (MI.mv (MO.t 46))⟩]) (MC.ops [⟨(some 47), none, (MI.mv (MO.t 6))⟩, ⟨(some 48), none, (MI.mv (MO.t 9))⟩, ⟨(some 49), none, (MI.mv (MO.t 11))⟩, ⟨(some 50), none, (MI.bin .mul (MO.t 48) (MO.t 49))⟩, ⟨(some 51), none, (MI.mnmx false (MO.t 47) [(MO.t 50)])⟩, ⟨(some 52), none, (MI.mv (MO.t 7))⟩, ⟨(some 53), none, (MI.mv (MO.t 9))⟩, ⟨(some 54), none, (MI.mv (MO.t 11))⟩, ⟨(some 55), none, (MI.bin .mul (MO.t 53) (MO.t 54))⟩, ⟨(some 56), none, (MI.mnmx true (MO.t 52) [(MO.t 55)])⟩, ⟨(some 6), none, (MI.mv (MO.t 51))⟩, ⟨(some 7), none, (MI.mv (MO.t 56))⟩]))) (MC.ops [⟨(some 57), none, (MI.bin .add (MO.t 44) (MO.c (AV.i .i64 1)))⟩, ⟨(some 44), none, (MI.mv (MO.t 57))⟩]))))))))) (MC.ops [⟨(some 58), none, (MI.bin .add (MO.t 36) (MO.c (AV.i .i64 1)))⟩, ⟨(some 36), none, (MI.mv (MO.t 58))⟩]))))))) (MC.seq (MC.ops [⟨(some 59), none, (MI.mv (MO.t 6))⟩, ⟨(some 60), none, (MI.callN 50 [(MO.t 59), (MO.c (AV.i .i64 1000000))])⟩, ⟨(some 61), none, (MI.mv (MO.t 7))⟩, ⟨(some 62), none, (MI.un .neg (MO.t 61))⟩, ⟨(some 63), none, (MI.callN 50 [(MO.t 62), (MO.c (AV.i .i64 1000000))])⟩, ⟨(some 64), none, (MI.un .neg (MO.t 63))⟩, ⟨(some 65), none, (MI.callN 49 [(MO.t 60), (MO.t 64)])⟩, ⟨(some 66), none, (MI.ext (MO.t 65) 0)⟩, ⟨(some 67), none, (MI.ext (MO.t 65) 1)⟩, ⟨none, none, (MI.store 2 (MO.t 4) (MO.t 66))⟩, ⟨(some 5), none, (MI.mv (MO.t 67))⟩]) MC.ret)))))⟩
theorem FMc_sine_Mul : compF Go.Proofs.Try.prog (eqsP Go.Proofs.Try.prog) (neutOf [48, 49, 50]) (neutOf [48, 49, 50]) 19 = some FM_sine_Mul := by kernel_rfl
def G_sine_Mul : Gam := mkG [(48, S_sine_valid), (49, S_sine_made), (50, S_sine_floor)] []
theorem sg_sine_Mul : SoundG Go.Proofs.Try.prog 19 (WF G_sine_Mul 3 FM_sine_Mul) := WF_sound (allD_ok (n := G_sine_Mul.n) (l := [48, 49, 50]) ⟨det_sine_valid, det_sine_made, det_sine_floor, trivial⟩) mixP (mkG_ok (n := [(48, S_sine_valid), (49, S_sine_made), (50, S_sine_floor)]) (g := []) ⟨ok_sine_valid, ok_sine_made, ok_sine_floor, trivial⟩ trivial) eqsP_ok FMc_sine_Mul
def S_sine_Mul : NSpec := fun args _ K => match args with
  | [(.agg [(.i .i64 a), (.i .i64 b)]), (.agg [(.i .i64 c), (.i .i64 d)])] => ((I64 a ∧ I64 b) ∧ I64 c ∧ I64 d) ∧ K (.tup [(.agg [(.i .i64 (sMul a b c d).lo), (.i .i64 (sMul a b c d).hi)]), (.i .i64 (sMul a b c d).e)])
  | _ => False
theorem det_sine_Mul : DetN S_sine_Mul := by
  intro args H K h
  unfold S_sine_Mul at h
  split at h
  · exact ⟨_, h.2, fun H' K' _ k => ⟨h.1, k⟩⟩
  · exact h.elim

def NF_sine_Mul (a b c d : Int) (K : AV → Prop) : Prop :=
 ((I64 a ∧ I64 b) ∧
 (bif (!(decide (spanOk a b))) then K (.tup [(.agg [(.i .i64 0), (.i .i64 0)]), (.i .i64 8)])
 else ((I64 c ∧ I64 d) ∧
 (bif (!(decide (spanOk c d))) then K (.tup [(.agg [(.i .i64 0), (.i .i64 0)]), (.i .i64 8)])
 else ((I64 (imin (imin (imin (imin (i64.wrap (a * c)) (i64.wrap (a * c))) (i64.wrap (a * d))) (i64.wrap (b * c))) (i64.wrap (b * d)))) ∧
 ((I64 (i64.wrap (0 - (imax (imax (imax (imax (i64.wrap (a * c)) (i64.wrap (a * c))) (i64.wrap (a * d))) (i64.wrap (b * c))) (i64.wrap (b * d)))))) ∧
 ((I64 ((imin (imin (imin (imin (i64.wrap (a * c)) (i64.wrap (a * c))) (i64.wrap (a * d))) (i64.wrap (b * c))) (i64.wrap (b * d))) / 1000000) ∧ I64 (i64.wrap (0 - ((i64.wrap (0 - (imax (imax (imax (imax (i64.wrap (a * c)) (i64.wrap (a * c))) (i64.wrap (a * d))) (i64.wrap (b * c))) (i64.wrap (b * d))))) / 1000000)))) ∧
 K (.tup [(.agg [(.i .i64 (mkS ((imin (imin (imin (imin (i64.wrap (a * c)) (i64.wrap (a * c))) (i64.wrap (a * d))) (i64.wrap (b * c))) (i64.wrap (b * d))) / 1000000) (i64.wrap (0 - ((i64.wrap (0 - (imax (imax (imax (imax (i64.wrap (a * c)) (i64.wrap (a * c))) (i64.wrap (a * d))) (i64.wrap (b * c))) (i64.wrap (b * d))))) / 1000000)))).lo), (.i .i64 (mkS ((imin (imin (imin (imin (i64.wrap (a * c)) (i64.wrap (a * c))) (i64.wrap (a * d))) (i64.wrap (b * c))) (i64.wrap (b * d))) / 1000000) (i64.wrap (0 - ((i64.wrap (0 - (imax (imax (imax (imax (i64.wrap (a * c)) (i64.wrap (a * c))) (i64.wrap (a * d))) (i64.wrap (b * c))) (i64.wrap (b * d))))) / 1000000)))).hi)]), (.i .i64 (mkS ((imin (imin (imin (imin (i64.wrap (a * c)) (i64.wrap (a * c))) (i64.wrap (a * d))) (i64.wrap (b * c))) (i64.wrap (b * d))) / 1000000) (i64.wrap (0 - ((i64.wrap (0 - (imax (imax (imax (imax (i64.wrap (a * c)) (i64.wrap (a * c))) (i64.wrap (a * d))) (i64.wrap (b * c))) (i64.wrap (b * d))))) / 1000000)))).e)]))))))))
theorem nf_sine_Mul (a b c d : Int) (K : AV → Prop) : WF G_sine_Mul 3 FM_sine_Mul [(.agg [(.i .i64 a), (.i .i64 b)]), (.agg [(.i .i64 c), (.i .i64 d)])] [] (fun a _ => K a) = NF_sine_Mul a b c d K := by kernel_rfl
theorem key_sine_Mul (a b c d : Int) {K : AV → Prop} (hp : (I64 a ∧ I64 b) ∧ I64 c ∧ I64 d) (hk : K (.tup [(.agg [(.i .i64 (sMul a b c d).lo), (.i .i64 (sMul a b c d).hi)]), (.i .i64 (sMul a b c d).e)])) : NF_sine_Mul a b c d K := by
  unfold NF_sine_Mul
  have no : ¬ (spanOk a b ∧ spanOk c d) → K (.tup [(.agg [(.i .i64 0), (.i .i64 0)]), (.i .i64 8)]) := fun h => K_of hk (by simp only [sMul, if_neg h])
  refine ⟨hp.1, bif_i (fun h => no ?_) (fun h => ⟨hp.2, bif_i (fun h2 => no ?_) (fun h2 => ?_)⟩)⟩ <;> simp only [Bool.not_eq_true', Bool.not_eq_false', decide_eq_true_eq, decide_eq_false_iff_not] at h <;> (try simp only [Bool.not_eq_true', Bool.not_eq_false', decide_eq_true_eq, decide_eq_false_iff_not] at h2)
  · exact fun x => h x.1
  · exact fun x => h2 x.2
  
  have e : sMul a b c d = mkS (mn4 (a * c) (a * d) (b * c) (b * d) / 1000000) (-((-mx4 (a * c) (a * d) (b * c) (b * d)) / 1000000)) := by simp only [sMul, if_pos (And.intro h h2)]
  rw [e] at hk
  obtain ⟨⟨p1, p2⟩, ⟨p3, p4⟩, ⟨p5, p6⟩, p7, p8⟩ := span_mul h h2
  rw [wrap_i64 (n := a * c) (by omega) (by omega), wrap_i64 (n := a * d) (by omega) (by omega), wrap_i64 (n := b * c) (by omega) (by omega), wrap_i64 (n := b * d) (by omega) (by omega)]
  have i1 : imin (a * c) (a * c) = a * c := by unfold imin; split <;> rfl
  have i2 : imax (a * c) (a * c) = a * c := by unfold imax; split <;> rfl
  try rw [i1, i2]
  have hm := mn4_mem (a * c) (a * d) (b * c) (b * d)
  have hx := mx4_mem (a * c) (a * d) (b * c) (b * d)
  have f1 : imin (imin (imin (a * c) (a * d)) (b * c)) (b * d) = mn4 (a * c) (a * d) (b * c) (b * d) := rfl
  have f2 : imax (imax (imax (a * c) (a * d)) (b * c)) (b * d) = mx4 (a * c) (a * d) (b * c) (b * d) := rfl
  rw [f1, f2]
  generalize mn4 (a * c) (a * d) (b * c) (b * d) = m at *
  generalize mx4 (a * c) (a * d) (b * c) (b * d) = x at *
  rw [wrap_i64 (n := 0 - x) (by omega) (by omega), wrap_i64 (n := 0 - (0 - x) / 1000000) (by omega) (by omega)]
  rw [show 0 - (0 - x) / 1000000 = -(-x / 1000000) by omega]
  
  exact ⟨⟨by omega, by omega⟩, ⟨by omega, by omega⟩, ⟨⟨by omega, by omega⟩, by omega, by omega⟩, hk⟩
theorem ok_sine_Mul : SoundN Go.Proofs.Try.prog 19 S_sine_Mul := by
  refine soundN_of sg_sine_Mul fun args H K hS => ?_
  unfold S_sine_Mul at hS
  split at hS
  · rename_i a b c d
    have hS1 := key_sine_Mul a b c d (K := fun a => plainA a = true ∧ K a) hS.1 ⟨by simp [plainA, plainL], hS.2⟩
    refine ⟨by simp [plainA, plainL], ?_⟩
    rw [nf_sine_Mul a b c d fun a => plainA a = true ∧ K a]
    exact hS1
  · exact hS.elim

def FM_sine_Of : FM := ⟨64, [(RV.cells 2 2), (RV.tmp 3)], (MC.seq (MC.ops [⟨(some 1), none, (MI.box 45 (MO.t 0))⟩, ⟨(some 2), none, (MI.alloc 23 [(AV.i .i64 0), (AV.i .i64 0)])⟩, ⟨(some 3), none, (MI.mv (MO.c (AV.i .i64 0)))⟩]) (MC.seq (MC.ops [⟨(some 12), none, (MI.loadn 2 (MO.t 1))⟩, ⟨(some 13), none, (MI.callN 53 [(MO.t 12)])⟩, ⟨(some 11), none, (MI.mv (MO.t 13))⟩, ⟨(some 14), none, (MI.ext (MO.t 11) 0)⟩, ⟨(some 15), none, (MI.ext (MO.t 11) 1)⟩, ⟨(some 4), none, (MI.mv (MO.t 14))⟩, ⟨(some 5), none, (MI.mv (MO.t 15))⟩]) (MC.seq (MC.seq (MC.ops [⟨(some 16), none, (MI.mv (MO.t 5))⟩, ⟨(some 17), none, (MI.bin .neq (MO.t 16) (MO.c (AV.i .i64 0)))⟩]) (MC.cond (MO.t 17) (MC.seq (MC.ops [⟨(some 18), none, (MI.build [(AV.i .i64 0), (AV.i .i64 0)] [])⟩, ⟨none, none, (MI.store 2 (MO.t 2) (MO.t 18))⟩, ⟨(some 3), none, (MI.mv (MO.c (AV.i .i64 8)))⟩]) MC.ret) MC.skip)) (MC.seq (MC.seq (MC.ops [⟨(some 19), none, (MI.mv (MO.t 4))⟩, ⟨(some 20), none, (MI.mv (MO.t 4))⟩, ⟨(some 21), none, (MI.un .neg (MO.t 20))⟩, ⟨(some 22), none, (MI.mnmx true (MO.t 19) [(MO.t 21)])⟩, ⟨(some 23), none, (MI.bin .gtr (MO.t 22) (MO.c (AV.i .i64 3000000000)))⟩]) (MC.cond (MO.t 23) (MC.seq (MC.ops [⟨(some 24), none, (MI.build [(AV.i .i64 0), (AV.i .i64 0)] [])⟩, ⟨none, none, (MI.store 2 (MO.t 2) (MO.t 24))⟩, ⟨(some 3), none, (MI.mv (MO.c (AV.i .i64 16)))⟩]) MC.ret) MC.skip)) (MC.seq (MC.ops [⟨(some 26), none, (MI.faddr 0 (MO.t 1))⟩, ⟨(some 27), none, (MI.load (MO.t 26))⟩, ⟨(some 28), none, (MI.mv (MO.t 4))⟩, ⟨(some 29), none, (MI.faddr 1 (MO.t 1))⟩, ⟨(some 30), none, (MI.load (MO.t 29))⟩, ⟨(some 31), none, (MI.bin .mul (MO.t 28) (MO.t 30))⟩, ⟨(some 32), none, (MI.bin .sub (MO.t 27) (MO.t 31))⟩, ⟨(some 33), none, (MI.conv .u64 (MO.t 32))⟩, ⟨(some 34), none, (MI.callN 54 [(MO.t 33), (MO.c (AV.i .u64 1000000))])⟩, ⟨(some 25), none, (MI.mv (MO.t 34))⟩, ⟨(some 35), none, (MI.ext (MO.t 25) 0)⟩, ⟨(some 36), none, (MI.ext (MO.t 25) 1)⟩, ⟨(some 6), none, (MI.mv (MO.t 35))⟩, ⟨(some 7), none, (MI.mv (MO.t 36))⟩]) (MC.seq (MC.ops [⟨(some 38), none, (MI.mv (MO.t 6))⟩, ⟨(some 39), none, (MI.mv (MO.t 7))⟩, ⟨(some 40), none, (MI.faddr 1 (MO.t 1))⟩, ⟨(some 41), none, (MI.load (MO.t 40))⟩, ⟨(some 42), none, (MI.conv .u64 (MO.t 41))⟩, ⟨(some 43), none, (MI.callN 55 [(MO.t 38), (MO.t 39), (MO.t 42)])⟩, ⟨(some 37), none, (MI.mv (MO.t 43))⟩, ⟨(some 44), none, (MI.ext (MO.t 37) 0)⟩, ⟨(some 45), none, (MI.ext (MO.t 37) 1)⟩, ⟨(some 8), none, (MI.mv (MO.t 44))⟩, ⟨(some 9), none, (MI.mv (MO.t 45))⟩]) (MC.seq (MC.ops [⟨(some 46), none, (MI.mv (MO.t 4))⟩, ⟨(some 47), none, (MI.bin .mul (MO.t 46) (MO.c (AV.i .i64 1000000)))⟩, ⟨(some 48), none, (MI.mv (MO.t 8))⟩, ⟨(some 49), none, (MI.conv .i64 (MO.t 48))⟩, ⟨(some 50), none, (MI.bin .add (MO.t 47) (MO.t 49))⟩, ⟨(some 10), none, (MI.mv (MO.t 50))⟩]) (MC.seq (MC.seq (MC.ops [⟨(some 51), none, (MI.mv (MO.t 9))⟩, ⟨(some 52), none, (MI.bin .gtr (MO.t 51) (MO.c (AV.i .u64 0)))⟩]) (MC.cond (MO.t 52) (MC.seq (MC.ops [⟨(some 53), none, (MI.mv (MO.t 10))⟩, ⟨(some 54), none, (MI.mv (MO.t 10))⟩, ⟨(some 55), none, (MI.bin .add (MO.t 54) (MO.c (AV.i .i64 1)))⟩, ⟨(some 56), none, (MI.callN 49 [(MO.t 53), (MO.t 55)])⟩, ⟨(some 57), none, (MI.ext (MO.t 56) 0)⟩, ⟨(some 58), none, (MI.ext (MO.t 56) 1)⟩, ⟨none, none, (MI.store 2 (MO.t 2) (MO.t 57))⟩, ⟨(some 3), none, (MI.mv (MO.t 58))⟩]) MC.ret) MC.skip)) (MC.seq (MC.ops [⟨(some 59), none, (MI.mv (MO.t 10))⟩, ⟨(some 60), none, (MI.mv (MO.t 10))⟩, ⟨(some 61), none, (MI.callN 49 [(MO.t 59), (MO.t 60)])⟩, ⟨(some 62), none, (MI.ext (MO.t 61) 0)⟩, ⟨(some 63), none, (MI.ext (MO.t 61) 1)⟩, ⟨none, none, (MI.store 2 (MO.t 2) (MO.t 62))⟩, ⟨(some 3), none, (MI.mv (MO.t 63))⟩]) MC.ret)))))))))⟩
theorem FMc_sine_Of : compF Go.Proofs.Try.prog (eqsP Go.Proofs.Try.prog) (neutOf [49, 53, 54, 55]) (neutOf [49, 53, 54, 55]) 27 = some FM_sine_Of := by kernel_rfl
def G_sine_Of : Gam := mkG [(49, S_sine_made), (53, S_frac_Floor), (54, S_math_bits_Mul64), (55, S_math_bits_Div64)] []
theorem sg_sine_Of : SoundG Go.Proofs.Try.prog 27 (WF G_sine_Of 0 FM_sine_Of) := WF_sound (allD_ok (n := G_sine_Of.n) (l := [49, 53, 54, 55]) ⟨det_sine_made, det_frac_Floor, det_math_bits_Mul64, det_math_bits_Div64, trivial⟩) mixP (mkG_ok (n := [(49, S_sine_made), (53, S_frac_Floor), (54, S_math_bits_Mul64), (55, S_math_bits_Div64)]) (g := []) ⟨ok_sine_made, ok_frac_Floor, ok_math_bits_Mul64, ok_math_bits_Div64, trivial⟩ trivial) eqsP_ok FMc_sine_Of
def S_sine_Of : NSpec := fun args _ K => match args with
  | [(.agg [(.i .i64 n), (.i .i64 d)])] => (I64 n ∧ I64 d) ∧ K (.tup [(.agg [(.i .i64 (sOf n d).lo), (.i .i64 (sOf n d).hi)]), (.i .i64 (sOf n d).e)])
  | _ => False
theorem det_sine_Of : DetN S_sine_Of := by
  intro args H K h
  unfold S_sine_Of at h
  split at h
  · exact ⟨_, h.2, fun H' K' _ k => ⟨h.1, k⟩⟩
  · exact h.elim

def NF_sine_Of (n d : Int) (K : AV → Prop) : Prop :=
 ((I64 n ∧ I64 d) ∧
 (bif ((floorF n d).e != 0) then K (.tup [(.agg [(.i .i64 0), (.i .i64 0)]), (.i .i64 8)])
 else (bif decide (3000000000 < (imax (floorF n d).v (i64.wrap (0 - (floorF n d).v)))) then K (.tup [(.agg [(.i .i64 0), (.i .i64 0)]), (.i .i64 16)])
 else ((U64 (u64.wrap (i64.wrap (n - (i64.wrap ((floorF n d).v * d))))) ∧ U64 (1000000 : Int)) ∧
 (((U64 ((u64.wrap (i64.wrap (n - (i64.wrap ((floorF n d).v * d))))) * (1000000 : Int) / 18446744073709551616) ∧ U64 ((u64.wrap (i64.wrap (n - (i64.wrap ((floorF n d).v * d))))) * (1000000 : Int) % 18446744073709551616)) ∧ ((u64.wrap (i64.wrap (n - (i64.wrap ((floorF n d).v * d))))) * (1000000 : Int) / 18446744073709551616) < (u64.wrap d) ∧ U64 (u64.wrap d)) ∧
 (bif decide (0 < ((((u64.wrap (i64.wrap (n - (i64.wrap ((floorF n d).v * d))))) * (1000000 : Int) / 18446744073709551616) * 18446744073709551616 + ((u64.wrap (i64.wrap (n - (i64.wrap ((floorF n d).v * d))))) * (1000000 : Int) % 18446744073709551616)) % (u64.wrap d))) then ((I64 (i64.wrap ((i64.wrap ((floorF n d).v * 1000000)) + (i64.wrap ((((u64.wrap (i64.wrap (n - (i64.wrap ((floorF n d).v * d))))) * (1000000 : Int) / 18446744073709551616) * 18446744073709551616 + ((u64.wrap (i64.wrap (n - (i64.wrap ((floorF n d).v * d))))) * (1000000 : Int) % 18446744073709551616)) / (u64.wrap d))))) ∧ I64 (i64.wrap ((i64.wrap ((i64.wrap ((floorF n d).v * 1000000)) + (i64.wrap ((((u64.wrap (i64.wrap (n - (i64.wrap ((floorF n d).v * d))))) * (1000000 : Int) / 18446744073709551616) * 18446744073709551616 + ((u64.wrap (i64.wrap (n - (i64.wrap ((floorF n d).v * d))))) * (1000000 : Int) % 18446744073709551616)) / (u64.wrap d))))) + 1))) ∧
 K (.tup [(.agg [(.i .i64 (mkS (i64.wrap ((i64.wrap ((floorF n d).v * 1000000)) + (i64.wrap ((((u64.wrap (i64.wrap (n - (i64.wrap ((floorF n d).v * d))))) * (1000000 : Int) / 18446744073709551616) * 18446744073709551616 + ((u64.wrap (i64.wrap (n - (i64.wrap ((floorF n d).v * d))))) * (1000000 : Int) % 18446744073709551616)) / (u64.wrap d))))) (i64.wrap ((i64.wrap ((i64.wrap ((floorF n d).v * 1000000)) + (i64.wrap ((((u64.wrap (i64.wrap (n - (i64.wrap ((floorF n d).v * d))))) * (1000000 : Int) / 18446744073709551616) * 18446744073709551616 + ((u64.wrap (i64.wrap (n - (i64.wrap ((floorF n d).v * d))))) * (1000000 : Int) % 18446744073709551616)) / (u64.wrap d))))) + 1))).lo), (.i .i64 (mkS (i64.wrap ((i64.wrap ((floorF n d).v * 1000000)) + (i64.wrap ((((u64.wrap (i64.wrap (n - (i64.wrap ((floorF n d).v * d))))) * (1000000 : Int) / 18446744073709551616) * 18446744073709551616 + ((u64.wrap (i64.wrap (n - (i64.wrap ((floorF n d).v * d))))) * (1000000 : Int) % 18446744073709551616)) / (u64.wrap d))))) (i64.wrap ((i64.wrap ((i64.wrap ((floorF n d).v * 1000000)) + (i64.wrap ((((u64.wrap (i64.wrap (n - (i64.wrap ((floorF n d).v * d))))) * (1000000 : Int) / 18446744073709551616) * 18446744073709551616 + ((u64.wrap (i64.wrap (n - (i64.wrap ((floorF n d).v * d))))) * (1000000 : Int) % 18446744073709551616)) / (u64.wrap d))))) + 1))).hi)]), (.i .i64 (mkS (i64.wrap ((i64.wrap ((floorF n d).v * 1000000)) + (i64.wrap ((((u64.wrap (i64.wrap (n - (i64.wrap ((floorF n d).v * d))))) * (1000000 : Int) / 18446744073709551616) * 18446744073709551616 + ((u64.wrap (i64.wrap (n - (i64.wrap ((floorF n d).v * d))))) * (1000000 : Int) % 18446744073709551616)) / (u64.wrap d))))) (i64.wrap ((i64.wrap ((i64.wrap ((floorF n d).v * 1000000)) + (i64.wrap ((((u64.wrap (i64.wrap (n - (i64.wrap ((floorF n d).v * d))))) * (1000000 : Int) / 18446744073709551616) * 18446744073709551616 + ((u64.wrap (i64.wrap (n - (i64.wrap ((floorF n d).v * d))))) * (1000000 : Int) % 18446744073709551616)) / (u64.wrap d))))) + 1))).e)]))
 else ((I64 (i64.wrap ((i64.wrap ((floorF n d).v * 1000000)) + (i64.wrap ((((u64.wrap (i64.wrap (n - (i64.wrap ((floorF n d).v * d))))) * (1000000 : Int) / 18446744073709551616) * 18446744073709551616 + ((u64.wrap (i64.wrap (n - (i64.wrap ((floorF n d).v * d))))) * (1000000 : Int) % 18446744073709551616)) / (u64.wrap d))))) ∧ I64 (i64.wrap ((i64.wrap ((floorF n d).v * 1000000)) + (i64.wrap ((((u64.wrap (i64.wrap (n - (i64.wrap ((floorF n d).v * d))))) * (1000000 : Int) / 18446744073709551616) * 18446744073709551616 + ((u64.wrap (i64.wrap (n - (i64.wrap ((floorF n d).v * d))))) * (1000000 : Int) % 18446744073709551616)) / (u64.wrap d)))))) ∧
 K (.tup [(.agg [(.i .i64 (mkS (i64.wrap ((i64.wrap ((floorF n d).v * 1000000)) + (i64.wrap ((((u64.wrap (i64.wrap (n - (i64.wrap ((floorF n d).v * d))))) * (1000000 : Int) / 18446744073709551616) * 18446744073709551616 + ((u64.wrap (i64.wrap (n - (i64.wrap ((floorF n d).v * d))))) * (1000000 : Int) % 18446744073709551616)) / (u64.wrap d))))) (i64.wrap ((i64.wrap ((floorF n d).v * 1000000)) + (i64.wrap ((((u64.wrap (i64.wrap (n - (i64.wrap ((floorF n d).v * d))))) * (1000000 : Int) / 18446744073709551616) * 18446744073709551616 + ((u64.wrap (i64.wrap (n - (i64.wrap ((floorF n d).v * d))))) * (1000000 : Int) % 18446744073709551616)) / (u64.wrap d)))))).lo), (.i .i64 (mkS (i64.wrap ((i64.wrap ((floorF n d).v * 1000000)) + (i64.wrap ((((u64.wrap (i64.wrap (n - (i64.wrap ((floorF n d).v * d))))) * (1000000 : Int) / 18446744073709551616) * 18446744073709551616 + ((u64.wrap (i64.wrap (n - (i64.wrap ((floorF n d).v * d))))) * (1000000 : Int) % 18446744073709551616)) / (u64.wrap d))))) (i64.wrap ((i64.wrap ((floorF n d).v * 1000000)) + (i64.wrap ((((u64.wrap (i64.wrap (n - (i64.wrap ((floorF n d).v * d))))) * (1000000 : Int) / 18446744073709551616) * 18446744073709551616 + ((u64.wrap (i64.wrap (n - (i64.wrap ((floorF n d).v * d))))) * (1000000 : Int) % 18446744073709551616)) / (u64.wrap d)))))).hi)]), (.i .i64 (mkS (i64.wrap ((i64.wrap ((floorF n d).v * 1000000)) + (i64.wrap ((((u64.wrap (i64.wrap (n - (i64.wrap ((floorF n d).v * d))))) * (1000000 : Int) / 18446744073709551616) * 18446744073709551616 + ((u64.wrap (i64.wrap (n - (i64.wrap ((floorF n d).v * d))))) * (1000000 : Int) % 18446744073709551616)) / (u64.wrap d))))) (i64.wrap ((i64.wrap ((floorF n d).v * 1000000)) + (i64.wrap ((((u64.wrap (i64.wrap (n - (i64.wrap ((floorF n d).v * d))))) * (1000000 : Int) / 18446744073709551616) * 18446744073709551616 + ((u64.wrap (i64.wrap (n - (i64.wrap ((floorF n d).v * d))))) * (1000000 : Int) % 18446744073709551616)) / (u64.wrap d)))))).e)]))))))))
theorem nf_sine_Of (n d : Int) (K : AV → Prop) : WF G_sine_Of 0 FM_sine_Of [(.agg [(.i .i64 n), (.i .i64 d)])] [] (fun a _ => K a) = NF_sine_Of n d K := by kernel_rfl
theorem key_sine_Of (n d : Int) {K : AV → Prop} (hp : I64 n ∧ I64 d) (hk : K (.tup [(.agg [(.i .i64 (sOf n d).lo), (.i .i64 (sOf n d).hi)]), (.i .i64 (sOf n d).e)])) : NF_sine_Of n d K := by
  unfold NF_sine_Of
  refine ⟨hp, ?_⟩
  obtain ⟨⟨n1, n2⟩, d1, d2⟩ := hp
  
  by_cases ho : okF n d
  · have hf : floorF n d = ⟨n / d, 0⟩ := by simp [floorF, ho]
  
    obtain ⟨⟨o1, o2, o3, o4⟩, _⟩ := id ho
    have em := Int.mul_ediv_add_emod n d
    have r0 := Int.emod_nonneg n (b := d) (by omega)
    have r1 := Int.emod_lt_of_pos n (b := d) (by omega)
    have f1 : -1000000000000000000 ≤ n / d := by
      refine Int.le_ediv_of_mul_le (by omega) ?_
      have := Int.mul_le_mul_of_nonneg_left (show 1 ≤ d by omega) (show (0 : Int) ≤ 1000000000000000000 by omega)
      omega
    have f2 : n / d ≤ 1000000000000000000 := by
      have : n / d < 1000000000000000001 := Int.ediv_lt_of_lt_mul (by omega) (by omega)
      omega
    have eF : n / d * d = n - n % d := by rw [Int.mul_comm]; omega
    have eW : i64.wrap (n / d * d) = n - n % d := by rw [eF]; exact wrap_i64 (by omega) (by omega)
    have eR : i64.wrap (n - (n - n % d)) = n % d := by rw [show n - (n - n % d) = n % d by omega]; exact wrap_i64 (by omega) (by omega)
    have eU : u64.wrap (n % d) = n % d := wrap_u64 r0 (by omega)
    have eD : u64.wrap d = d := wrap_u64 (by omega) (by omega)
  
    have eN : i64.wrap (0 - n / d) = -(n / d) := by rw [wrap_i64 (by omega) (by omega)]; omega
    obtain ⟨m1, m2⟩ := digit_more (x := n) (k := 1000000) (d := d) (by omega)
    have t0 : 0 ≤ n % d * 1000000 / d := Int.ediv_nonneg (by omega) (by omega)
    have t1 : n % d * 1000000 / d < 1000000 := Int.ediv_lt_of_lt_mul (by omega) (by omega)
    have t2 : n % d * 1000000 / 18446744073709551616 < d := Int.ediv_lt_of_lt_mul (by omega) (by omega)
    have t3 := Int.emod_nonneg (n % d * 1000000) (b := d) (by omega)
    simp only [hf, eW, eR, eU, eD, eN, wide_val]
    refine bif_i (fun h => by simp at h) (fun _ => bif_i (fun h => K_of hk ?_) (fun h => ?_)) <;> simp only [decide_eq_true_eq, decide_eq_false_iff_not] at h <;> unfold imax at h
    · have : ¬ (-3000000000 ≤ n / d ∧ n / d ≤ 3000000000) := by split at h <;> omega
      simp only [sOf, if_pos ho, if_neg this]
    have hb : -3000000000 ≤ n / d ∧ n / d ≤ 3000000000 := by split at h <;> omega
    rw [wrap_i64 (n := n / d * 1000000) (by omega) (by omega), wrap_i64 (n := n % d * 1000000 / d) (by omega) (by omega), wrap_i64 (n := n / d * 1000000 + n % d * 1000000 / d) (by omega) (by omega), wrap_i64 (n := n / d * 1000000 + n % d * 1000000 / d + 1) (by omega) (by omega)]
    have eq : n / d * 1000000 + n % d * 1000000 / d = n * 1000000 / d := by rw [m1]; omega
    rw [eq, ← m2]
    rw [← m2] at t3
    refine ⟨⟨⟨by omega, by omega⟩, by omega, by omega⟩, ⟨⟨⟨by omega, by omega⟩, by omega, by omega⟩, t2, by omega, by omega⟩, bif_i (fun h3 => ⟨⟨⟨by omega, by omega⟩, by omega, by omega⟩, K_of hk ?_⟩) (fun h3 => ⟨⟨⟨by omega, by omega⟩, by omega, by omega⟩, K_of hk ?_⟩)⟩ <;> simp only [decide_eq_true_eq, decide_eq_false_iff_not] at h3
    · have : ¬ n * 1000000 % d = 0 := by omega
      simp only [sOf, if_pos ho, if_pos hb, if_neg this]
    · have : n * 1000000 % d = 0 := by omega
      simp only [sOf, if_pos ho, if_pos hb, if_pos this]
  · have hf : floorF n d = ⟨0, 8⟩ := by simp [floorF, ho]
    simp only [hf]
    refine bif_i (fun _ => K_of hk ?_) (fun h => by simp at h)
    simp [sOf, ho]
theorem ok_sine_Of : SoundN Go.Proofs.Try.prog 27 S_sine_Of := by
  refine soundN_of sg_sine_Of fun args H K hS => ?_
  unfold S_sine_Of at hS
  split at hS
  · rename_i n d
    have hS1 := key_sine_Of n d (K := fun a => plainA a = true ∧ K a) hS.1 ⟨by simp [plainA, plainL], hS.2⟩
    refine ⟨by simp [plainA, plainL], ?_⟩
    rw [nf_sine_Of n d fun a => plainA a = true ∧ K a]
    exact hS1
  · exact hS.elim

def FM_sine_Has : FM := ⟨52, [(RV.tmp 4), (RV.tmp 5)], (MC.seq (MC.ops [⟨(some 2), none, (MI.box 23 (MO.t 0))⟩, ⟨(some 3), none, (MI.box 45 (MO.t 1))⟩, ⟨(some 4), none, (MI.mv (MO.c (AV.b false)))⟩, ⟨(some 5), none, (MI.mv (MO.c (AV.i .i64 0)))⟩]) (MC.seq (MC.seq (MC.ops [⟨(some 14), none, (MI.loadn 2 (MO.t 2))⟩, ⟨(some 15), none, (MI.callN 48 [(MO.t 14)])⟩, ⟨(some 16), none, (MI.un .not (MO.t 15))⟩, ⟨(some 17), none, (MI.mv (MO.t 16))⟩, ⟨(some 18), (some (17, false)), (MI.loadn 2 (MO.t 3))⟩, ⟨(some 19), (some (17, false)), (MI.callN 57 [(MO.t 18)])⟩, ⟨(some 20), (some (17, false)), (MI.bin .neq (MO.t 19) (MO.c (AV.i .i64 0)))⟩, ⟨(some 21), none, (MI.pick (MO.t 17) (MO.c (AV.b true)) (MO.t 20))⟩]) (MC.cond (MO.t 21) (MC.seq (MC.ops [⟨(some 4), none, (MI.mv (MO.c (AV.b false)))⟩, ⟨(some 5), none, (MI.mv (MO.c (AV.i .i64 8)))⟩]) MC.ret) MC.skip)) (MC.seq (MC.ops [⟨(some 23), none, (MI.faddr 0 (MO.t 2))⟩, ⟨(some 24), none, (MI.load (MO.t 23))⟩, ⟨(some 25), none, (MI.callN 58 [(MO.t 24), (MO.c (AV.i .i64 1000000))])⟩, ⟨(some 22), none, (MI.mv (MO.t 25))⟩, ⟨(some 26), none, (MI.ext (MO.t 22) 0)⟩, ⟨(some 27), none, (MI.ext (MO.t 22) 1)⟩, ⟨(some 6), none, (MI.alloc 45 [(AV.i .i64 0), (AV.i .i64 0)])⟩, ⟨none, none, (MI.store 2 (MO.t 6) (MO.t 26))⟩, ⟨(some 7), none, (MI.mv (MO.t 27))⟩]) (MC.seq (MC.ops [⟨(some 29), none, (MI.faddr 1 (MO.t 2))⟩, ⟨(some 30), none, (MI.load (MO.t 29))⟩, ⟨(some 31), none, (MI.callN 58 [(MO.t 30), (MO.c (AV.i .i64 1000000))])⟩, ⟨(some 28), none, (MI.mv (MO.t 31))⟩, ⟨(some 32), none, (MI.ext (MO.t 28) 0)⟩, ⟨(some 33), none, (MI.ext (MO.t 28) 1)⟩, ⟨(some 8), none, (MI.alloc 45 [(AV.i .i64 0), (AV.i .i64 0)])⟩, ⟨none, none, (MI.store 2 (MO.t 8) (MO.t 32))⟩, ⟨(some 9), none, (MI.mv (MO.t 33))⟩]) (MC.seq (MC.ops [⟨(some 35), none, (MI.loadn 2 (MO.t 6))⟩, ⟨(some 36), none, (MI.loadn 2 (MO.t 3))⟩, ⟨(some 37), none, (MI.callN 59 [(MO.t 35), (MO.t 36)])⟩, ⟨(some 34), none, (MI.mv (MO.t 37))⟩, ⟨(some 38), none, (MI.ext (MO.t 34) 0)⟩, ⟨(some 39), none, (MI.ext (MO.t 34) 1)⟩, ⟨(some 10), none, (MI.mv (MO.t 38))⟩, ⟨(some 11), none, (MI.mv (MO.t 39))⟩]) (MC.seq (MC.ops [⟨(some 41), none, (MI.loadn 2 (MO.t 3))⟩, ⟨(some 42), none, (MI.loadn 2 (MO.t 8))⟩, ⟨(some 43), none, (MI.callN 59 [(MO.t 41), (MO.t 42)])⟩, ⟨(some 40), none, (MI.mv (MO.t 43))⟩, ⟨(some 44), none, (MI.ext (MO.t 40) 0)⟩, ⟨(some 45), none, (MI.ext (MO.t 40) 1)⟩, ⟨(some 12), none, (MI.mv (MO.t 44))⟩, ⟨(some 13), none, (MI.mv (MO.t 45))⟩]) (MC.seq (MC.ops [⟨(some 46), none, (MI.mv (MO.t 10))⟩, ⟨(some 47), none, (MI.bin .leq (MO.t 46) (MO.c (AV.i .i64 0)))⟩, ⟨(some 48), none, (MI.mv (MO.t 47))⟩, ⟨(some 49), (some (48, true)), (MI.mv (MO.t 12))⟩, ⟨(some 50), (some (48, true)), (MI.bin .leq (MO.t 49) (MO.c (AV.i .i64 0)))⟩, ⟨(some 51), none, (MI.pick (MO.t 48) (MO.t 50) (MO.c (AV.b false)))⟩, ⟨(some 4), none, (MI.mv (MO.t 51))⟩, ⟨(some 5), none, (MI.mv (MO.c (AV.i .i64 0)))⟩]) MC.ret)))))))⟩
theorem FMc_sine_Has : compF Go.Proofs.Try.prog (eqsP Go.Proofs.Try.prog) (neutOf [48, 57, 58, 59]) (neutOf [48, 57, 58, 59]) 29 = some FM_sine_Has := by kernel_rfl
def G_sine_Has : Gam := mkG [(48, S_sine_valid), (57, S_frac_Check), (58, S_frac_Make), (59, S_frac_Cmp)] []
theorem sg_sine_Has : SoundG Go.Proofs.Try.prog 29 (WF G_sine_Has 0 FM_sine_Has) := WF_sound (allD_ok (n := G_sine_Has.n) (l := [48, 57, 58, 59]) ⟨det_sine_valid, det_frac_Check, det_frac_Make, det_frac_Cmp, trivial⟩) mixP (mkG_ok (n := [(48, S_sine_valid), (57, S_frac_Check), (58, S_frac_Make), (59, S_frac_Cmp)]) (g := []) ⟨ok_sine_valid, ok_frac_Check, ok_frac_Make, ok_frac_Cmp, trivial⟩ trivial) eqsP_ok FMc_sine_Has
def S_sine_Has : NSpec := fun args _ K => match args with
  | [(.agg [(.i .i64 a), (.i .i64 b)]), (.agg [(.i .i64 n), (.i .i64 d)])] => ((I64 a ∧ I64 b) ∧ I64 n ∧ I64 d) ∧ K (.tup [(.b ((sHas a b n d).v)), (.i .i64 (sHas a b n d).e)])
  | _ => False
theorem det_sine_Has : DetN S_sine_Has := by
  intro args H K h
  unfold S_sine_Has at h
  split at h
  · exact ⟨_, h.2, fun H' K' _ k => ⟨h.1, k⟩⟩
  · exact h.elim

def NF_sine_Has (a b n d : Int) (K : AV → Prop) : Prop :=
 ((I64 a ∧ I64 b) ∧
 (bif (!(decide (spanOk a b))) then K (.tup [(.b false), (.i .i64 8)])
 else ((I64 n ∧ I64 d) ∧
 (bif ((okE n d) != 0) then K (.tup [(.b false), (.i .i64 8)])
 else ((I64 a ∧ I64 (1000000 : Int)) ∧
 ((I64 b ∧ I64 (1000000 : Int)) ∧
 (((I64 (makeF a (1000000 : Int)).n ∧ I64 (makeF a (1000000 : Int)).d) ∧ I64 n ∧ I64 d) ∧
 (((I64 n ∧ I64 d) ∧ I64 (makeF b (1000000 : Int)).n ∧ I64 (makeF b (1000000 : Int)).d) ∧
 (bif decide ((cmpF (makeF a (1000000 : Int)).n (makeF a (1000000 : Int)).d n d).v ≤ 0) then K (.tup [(.b (decide ((cmpF n d (makeF b (1000000 : Int)).n (makeF b (1000000 : Int)).d).v ≤ 0))), (.i .i64 0)])
 else K (.tup [(.b false), (.i .i64 0)]))))))))))
theorem nf_sine_Has (a b n d : Int) (K : AV → Prop) : WF G_sine_Has 0 FM_sine_Has [(.agg [(.i .i64 a), (.i .i64 b)]), (.agg [(.i .i64 n), (.i .i64 d)])] [] (fun a _ => K a) = NF_sine_Has a b n d K := by kernel_rfl
theorem key_sine_Has (a b n d : Int) {K : AV → Prop} (hp : (I64 a ∧ I64 b) ∧ I64 n ∧ I64 d) (hk : K (.tup [(.b ((sHas a b n d).v)), (.i .i64 (sHas a b n d).e)])) : NF_sine_Has a b n d K := by
  unfold NF_sine_Has
  refine ⟨hp.1, bif_i (fun h => K_of hk ?_) (fun h => ⟨hp.2, ?_⟩)⟩ <;> simp only [Bool.not_eq_true', Bool.not_eq_false', decide_eq_true_eq, decide_eq_false_iff_not] at h
  · simp [sHas, h]
  rcases okE_cases n d with ⟨ho, he⟩ | ⟨ho, he⟩ <;> rw [he]
  rotate_left
  · refine bif_i (fun _ => K_of hk ?_) (fun h => by simp at h)
    simp [sHas, ho]
  refine bif_i (fun h => by simp at h) (fun _ => ?_)
  
  obtain ⟨p, q, e1, k1, k2, k3⟩ := make_unit (a := a) (by unfold spanOk at h; omega)
  obtain ⟨r, t, e2, l1, l2, l3⟩ := make_unit (a := b) (by unfold spanOk at h; omega)
  obtain ⟨u1, _⟩ := unit_le (d := d) (n := n) k3 k2
  obtain ⟨_, u2⟩ := unit_le (d := d) (n := n) l3 l2
  obtain ⟨⟨v1, v2, v3, v4⟩, _⟩ := id k1
  obtain ⟨⟨w1, w2, w3, w4⟩, _⟩ := id l1
  
  have hs : sHas a b n d = ⟨decide (a * d ≤ n * 1000000 ∧ n * 1000000 ≤ b * d), 0⟩ := by simp [sHas, h, ho]
  rw [hs] at hk
  have i : I64 a ∧ I64 b ∧ I64 (1000000 : Int) ∧ I64 p ∧ I64 q ∧ I64 r ∧ I64 t := by unfold spanOk at h; unfold I64; omega
  obtain ⟨i1, i2, i3, i4, i5, i6, i7⟩ := i
  rw [e1, e2]
  have c1 : cmpF p q n d = ⟨sgn (p * d - n * q), 0⟩ := by simp [cmpF, k1, ho]
  have c2 : cmpF n d r t = ⟨sgn (n * t - r * d), 0⟩ := by simp [cmpF, l1, ho]
  rw [c1, c2]
  have s1 : sgn (p * d - n * q) ≤ 0 ↔ p * d ≤ n * q := by unfold sgn; (repeat' split) <;> omega
  have s2 : sgn (n * t - r * d) ≤ 0 ↔ n * t ≤ r * d := by unfold sgn; (repeat' split) <;> omega
  refine ⟨⟨i1, i3⟩, ⟨i2, i3⟩, ⟨⟨i4, i5⟩, hp.2⟩, ⟨hp.2, i6, i7⟩, bif_i (fun h1 => K_of hk ?_) (fun h1 => K_of hk ?_)⟩ <;> simp only [decide_eq_true_eq, decide_eq_false_iff_not] at h1 <;> congr 3 <;> rw [Bool.eq_iff_iff] <;> simp only [decide_eq_true_eq]
  · rw [s1] at h1; rw [s2]; omega
  · rw [s1] at h1; simp; omega
theorem ok_sine_Has : SoundN Go.Proofs.Try.prog 29 S_sine_Has := by
  refine soundN_of sg_sine_Has fun args H K hS => ?_
  unfold S_sine_Has at hS
  split at hS
  · rename_i a b n d
    have hS1 := key_sine_Has a b n d (K := fun a => plainA a = true ∧ K a) hS.1 ⟨by simp [plainA, plainL], hS.2⟩
    refine ⟨by simp [plainA, plainL], ?_⟩
    rw [nf_sine_Has a b n d fun a => plainA a = true ∧ K a]
    exact hS1
  · exact hS.elim

def FM_ref05_Neg : FM := ⟨10, [(RV.cells 2 2)], (MC.seq (MC.ops [⟨(some 1), none, (MI.box 23 (MO.t 0))⟩, ⟨(some 2), none, (MI.alloc 23 [(AV.i .i64 0), (AV.i .i64 0)])⟩]) (MC.seq (MC.ops [⟨(some 3), none, (MI.faddr 1 (MO.t 1))⟩, ⟨(some 4), none, (MI.load (MO.t 3))⟩, ⟨(some 5), none, (MI.un .neg (MO.t 4))⟩, ⟨(some 6), none, (MI.faddr 0 (MO.t 1))⟩, ⟨(some 7), none, (MI.load (MO.t 6))⟩, ⟨(some 8), none, (MI.un .neg (MO.t 7))⟩, ⟨(some 9), none, (MI.build [(AV.i .i64 0), (AV.i .i64 0)] [(0, 1, (MO.t 5)), (1, 1, (MO.t 8))])⟩, ⟨none, none, (MI.store 2 (MO.t 2) (MO.t 9))⟩]) MC.ret))⟩
theorem FMc_ref05_Neg : compF Go.Proofs.Try.prog (eqsP Go.Proofs.Try.prog) (neutOf []) (neutOf []) 21 = some FM_ref05_Neg := by kernel_rfl
def G_ref05_Neg : Gam := mkG [] []
theorem sg_ref05_Neg : SoundG Go.Proofs.Try.prog 21 (WF G_ref05_Neg 0 FM_ref05_Neg) := WF_sound (allD_ok (n := G_ref05_Neg.n) (l := []) trivial) mixP (mkG_ok (n := []) (g := []) trivial trivial) eqsP_ok FMc_ref05_Neg
def S_ref05_Neg : NSpec := fun args _ K => match args with
  | [(.agg [(.i .i64 a), (.i .i64 b)])] => K (.agg [(.i .i64 (i64.wrap (0 - b))), (.i .i64 (i64.wrap (0 - a)))])
  | _ => False
theorem det_ref05_Neg : DetN S_ref05_Neg := by
  intro args H K h
  unfold S_ref05_Neg at h
  split at h
  · exact ⟨_, h, fun H' K' _ k => k⟩
  · exact h.elim

def NF_ref05_Neg (a b : Int) (K : AV → Prop) : Prop :=
 K (.agg [(.i .i64 (i64.wrap (0 - b))), (.i .i64 (i64.wrap (0 - a)))])
theorem nf_ref05_Neg (a b : Int) (K : AV → Prop) : WF G_ref05_Neg 0 FM_ref05_Neg [(.agg [(.i .i64 a), (.i .i64 b)])] [] (fun a _ => K a) = NF_ref05_Neg a b K := by kernel_rfl
theorem key_ref05_Neg (a b : Int) {K : AV → Prop} (hk : K (.agg [(.i .i64 (i64.wrap (0 - b))), (.i .i64 (i64.wrap (0 - a)))])) : NF_ref05_Neg a b K := by
  exact hk
theorem ok_ref05_Neg : SoundN Go.Proofs.Try.prog 21 S_ref05_Neg := by
  refine soundN_of sg_ref05_Neg fun args H K hS => ?_
  unfold S_ref05_Neg at hS
  split at hS
  · rename_i a b
    have hS1 := key_ref05_Neg a b (K := fun a => plainA a = true ∧ K a) ⟨by simp [plainA, plainL], hS⟩
    refine ⟨by simp [plainA, plainL], ?_⟩
    rw [nf_ref05_Neg a b fun a => plainA a = true ∧ K a]
    exact hS1
  · exact hS.elim

end Go.Proofs.Ytkmhmabkahaekaa.V
