/-
  Contracts, printed by a program of this session (wip/tool/sym.py) from the unit text rf1: what each function comes to, and its proof.
-/
import Derived.Test.YtpfmnmcpffajeaaVc2
import Derived.Test.YtpfmnmcpffajeaaProg
set_option linter.unusedVariables false
set_option linter.unusedSimpArgs false
set_option maxRecDepth 100000
namespace Go.Proofs.Ytpfmnmcpffajeaa.V
open Go Go.RowKit
open Go.IntKind (u64 i64 u8 i32 u32)


/-! ### The references' numbers of four digits -/
def bv (a b c d : Int) : Int := a + b * 4294967296 + c * 18446744073709551616 + d * 79228162514264337593543950336
def dgs (n : Int) : Int × Int × Int × Int := (n % 4294967296, n / 4294967296 % 4294967296, n / 18446744073709551616 % 4294967296, n / 79228162514264337593543950336)
def D32 (n : Int) : Prop := 0 ≤ n ∧ n < 4294967296
theorem bv_dgs (n : Int) : bv (n % 4294967296) (n / 4294967296 % 4294967296) (n / 18446744073709551616 % 4294967296) (n / 79228162514264337593543950336) = n := by
  unfold bv; omega
theorem bv_low (n : Int) : bv (n % 4294967296) (n / 4294967296) 0 0 = n := by
  unfold bv; omega
def smallV (a b : Int) : Int := (b * 4294967296 + a) % 9223372036854775808
theorem and63 {x : Int} (hx : 0 ≤ x) (h2 : x < 18446744073709551616) : bitI .and .u64 x 9223372036854775807 = x % 9223372036854775808 := bitI_low x 63 (by omega) hx h2
theorem prod_digits {x0 x1 y0 y1 : Int} (h : D32 x0 ∧ D32 x1 ∧ D32 y0 ∧ D32 y1) : (x0 + x1 * 4294967296) * (y0 + y1 * 4294967296) = x0 * y0 + (x0 * y1 + x1 * y0) * 4294967296 + x1 * y1 * 18446744073709551616 := by
  rw [Int.add_mul, Int.mul_add, Int.mul_add, Int.mul_right_comm x1 4294967296 y0, ← Int.mul_assoc x0 y1, Int.mul_assoc x1 4294967296, Int.mul_left_comm 4294967296 y1, ← Int.mul_assoc x1 y1]
  omega
theorem digits_of {N a b c d : Int} (h : N = a + b * 4294967296 + c * 18446744073709551616 + d * 79228162514264337593543950336) (ha : 0 ≤ a ∧ a < 4294967296) (hb : 0 ≤ b ∧ b < 4294967296) (hc : 0 ≤ c ∧ c < 4294967296) :
    N % 4294967296 = a ∧ N / 4294967296 % 4294967296 = b ∧ N / 18446744073709551616 % 4294967296 = c ∧ N / 79228162514264337593543950336 = d := by
  omega
theorem dmul {x y : Int} (hx : D32 x) (hy : D32 y) : 0 ≤ x * y ∧ x * y ≤ 18446744065119617025 := mul_lt_of (A := 4294967295) (B := 4294967295) hx.1 (by have := hx.2; omega) hy.1 (by have := hy.2; omega)

def FM_ref01_abs : FM := ⟨12, [(RV.tmp 2)], (MC.seq (MC.ops [⟨(some 2), none, (MI.mv (MO.c (AV.i .u64 0)))⟩]) (MC.seq (MC.seq (MC.ops [⟨(some 3), none, (MI.mv (MO.t 0))⟩, ⟨(some 4), none, (MI.bin .geq (MO.t 3) (MO.c (AV.i .i64 0)))⟩]) (MC.cond (MO.t 4) (MC.seq (MC.ops [⟨(some 5), none, (MI.mv (MO.t 0))⟩, ⟨(some 6), none, (MI.conv .u64 (MO.t 5))⟩, ⟨(some 2), none, (MI.mv (MO.t 6))⟩]) MC.ret) MC.skip)) (MC.seq (MC.ops [⟨(some 7), none, (MI.mv (MO.t 0))⟩, ⟨(some 8), none, (MI.bin .add (MO.t 7) (MO.c (AV.i .i64 1)))⟩, ⟨(some 9), none, (MI.un .neg (MO.t 8))⟩, ⟨(some 10), none, (MI.conv .u64 (MO.t 9))⟩, ⟨(some 11), none, (MI.bin .add (MO.t 10) (MO.c (AV.i .u64 1)))⟩, ⟨(some 2), none, (MI.mv (MO.t 11))⟩]) MC.ret)))⟩
theorem FMc_ref01_abs : compF Go.Proofs.Try.prog (eqsP Go.Proofs.Try.prog) (neutOf []) (neutOf []) 56 = some FM_ref01_abs := by kernel_rfl
def G_ref01_abs : Gam := mkG [] []
theorem sg_ref01_abs : SoundG Go.Proofs.Try.prog 56 (WF G_ref01_abs 0 FM_ref01_abs) := WF_sound (allD_ok (n := G_ref01_abs.n) (l := []) trivial) mixP (mkG_ok (n := []) (g := []) trivial trivial) eqsP_ok FMc_ref01_abs
def S_ref01_abs : NSpec := fun args _ K => match args with
  | [(.i .i64 n)] => (I64 n) ∧ K (.i .u64 (n.natAbs : Int))
  | _ => False
theorem det_ref01_abs : DetN S_ref01_abs := by
  intro args H K h
  unfold S_ref01_abs at h
  split at h
  · exact ⟨_, h.2, fun H' K' _ k => ⟨h.1, k⟩⟩
  · exact h.elim

def NF_ref01_abs (n : Int) (K : AV → Prop) : Prop :=
 (bif decide (0 ≤ n) then K (.i .u64 (u64.wrap n))
 else K (.i .u64 (u64.wrap ((u64.wrap (i64.wrap (0 - (i64.wrap (n + 1))))) + 1))))
theorem nf_ref01_abs (n : Int) (K : AV → Prop) : WF G_ref01_abs 0 FM_ref01_abs [(.i .i64 n)] [] (fun a _ => K a) = NF_ref01_abs n K := by kernel_rfl
theorem key_ref01_abs (n : Int) {K : AV → Prop} (hp : I64 n) (hk : K (.i .u64 (n.natAbs : Int))) : NF_ref01_abs n K := by
  unfold NF_ref01_abs
  obtain ⟨h1, h2⟩ := hp
  refine bif_i (fun h => K_of hk ?_) (fun h => K_of hk ?_) <;> simp at h <;> congr 1
  · rw [wrap_u64 h (by omega)]; omega
  · rw [wrap_i64 (n := n + 1) (by omega) (by omega), wrap_i64 (n := 0 - (n + 1)) (by omega) (by omega), wrap_u64 (n := 0 - (n + 1)) (by omega) (by omega), wrap_u64 (by omega) (by omega)]; omega
theorem ok_ref01_abs : SoundN Go.Proofs.Try.prog 56 S_ref01_abs := by
  refine soundN_of sg_ref01_abs fun args H K hS => ?_
  unfold S_ref01_abs at hS
  split at hS
  · rename_i n
    have hS1 := key_ref01_abs n (K := fun a => plainA a = true ∧ K a) hS.1 ⟨by simp [plainA, plainL], hS.2⟩
    refine ⟨by simp [plainA, plainL], ?_⟩
    rw [nf_ref01_abs n fun a => plainA a = true ∧ K a]
    exact hS1
  · exact hS.elim

def MC_ref01_gcd_0 : MC := (MC.seq (MC.seq (MC.ops [⟨(some 5), none, (MI.mv (MO.t 1))⟩, ⟨(some 6), none, (MI.bin .neq (MO.t 5) (MO.c (AV.i .u64 0)))⟩]) (MC.cond (MO.t 6) MC.skip (MC.exit 0))) (MC.block 1 (MC.dr (SchM.op ⟨(some 7), none, (MI.mv (MO.t 1))⟩ (SchM.op ⟨(some 8), none, (MI.mv (MO.t 0))⟩ (SchM.op ⟨(some 9), none, (MI.mv (MO.t 1))⟩ (SchM.op ⟨(some 10), none, (MI.bin .rem (MO.t 8) (MO.t 9))⟩ (SchM.op ⟨(some 0), none, (MI.mv (MO.t 7))⟩ (SchM.op ⟨(some 1), none, (MI.mv (MO.t 10))⟩ SchM.done)))))))))
def MC_ref01_gcd_1 : MC := (MC.seq (MC.ops [⟨(some 11), none, (MI.mv (MO.t 0))⟩, ⟨(some 4), none, (MI.mv (MO.t 11))⟩]) MC.ret)
def RES_ref01_gcd : List RV := [(RV.tmp 4)]
def FM_ref01_gcd : FM := ⟨12, RES_ref01_gcd, (MC.seq (MC.ops [⟨(some 4), none, (MI.mv (MO.c (AV.i .u64 0)))⟩]) (MC.seq (MC.block 0 (MC.loop MC_ref01_gcd_0)) MC_ref01_gcd_1))⟩
theorem FMc_ref01_gcd : compF Go.Proofs.Try.prog (eqsP Go.Proofs.Try.prog) (neutOf []) (neutOf []) 55 = some FM_ref01_gcd := by kernel_rfl
def G_ref01_gcd : Gam := mkG [] []
theorem sg_ref01_gcd : SoundG Go.Proofs.Try.prog 55 (WF G_ref01_gcd 0 FM_ref01_gcd) := WF_sound (allD_ok (n := G_ref01_gcd.n) (l := []) trivial) mixP (mkG_ok (n := []) (g := []) trivial trivial) eqsP_ok FMc_ref01_gcd
def S_ref01_gcd : NSpec := fun args _ K => match args with
  | [(.i .u64 a), (.i .u64 b)] => (U64 a ∧ U64 b) ∧ K (.i .u64 ((Int.gcd a b : Nat) : Int))
  | _ => False
theorem det_ref01_gcd : DetN S_ref01_gcd := by
  intro args H K h
  unfold S_ref01_gcd at h
  split at h
  · exact ⟨_, h.2, fun H' K' _ k => ⟨h.1, k⟩⟩
  · exact h.elim

def RL_ref01_gcd_1 (x_0 y_0 : Int) (J_0 : Nat → AV) : List AV := [(.i .u64 x_0), (.i .u64 y_0), (.v undef), (.v undef), (.i .u64 0), (J_0 5), (J_0 6), (J_0 7), (J_0 8), (J_0 9), (J_0 10), (.v undef)]
def RL_ref01_gcd_2 (x_0 y_0 : Int) : List AV := [(.i .u64 y_0), (.i .u64 (Int.tmod x_0 y_0)), (.v undef), (.v undef), (.i .u64 0), (.i .u64 y_0), (.b true), (.i .u64 y_0), (.i .u64 x_0), (.i .u64 y_0), (.i .u64 (Int.tmod x_0 y_0)), (.v undef)]
def RL_ref01_gcd_3 (x_0 y_0 : Int) (J_0 : Nat → AV) : List AV := [(.i .u64 x_0), (.i .u64 y_0), (.v undef), (.v undef), (.i .u64 0), (.i .u64 y_0), (.b false), (J_0 7), (J_0 8), (J_0 9), (J_0 10), (.v undef)]
def NFb_ref01_gcd_0_0 (a b x_0 y_0 : Int) (J_0 : Nat → AV) (K_0 : KE) : Prop :=
 (bif (y_0 != 0) then (bif decide (y_0 ≠ 0) then K_0 .normal (RL_ref01_gcd_2 x_0 y_0) [] else False)
 else K_0 (.exit 0) (RL_ref01_gcd_3 x_0 y_0 J_0) [])
theorem nfb_ref01_gcd_0_0 (a b x_0 y_0 : Int) (J_0 : Nat → AV) (K_0 : KE) : W G_ref01_gcd 0 MC_ref01_gcd_0 (RL_ref01_gcd_1 x_0 y_0 J_0) [] K_0 = NFb_ref01_gcd_0_0 a b x_0 y_0 J_0 K_0 := by kernel_rfl
theorem keyb_ref01_gcd_0_0 (a b x_0 y_0 : Int) (J_0 : Nat → AV) (hi : U64 x_0 ∧ U64 y_0 ∧ Int.gcd x_0 y_0 = Int.gcd a b) {K_0 : KE} (h0 : (U64 y_0 ∧ U64 ((Int.tmod x_0 y_0)) ∧ Int.gcd y_0 ((Int.tmod x_0 y_0)) = Int.gcd a b) → (Int.toNat ((Int.tmod x_0 y_0))) < (Int.toNat y_0) → K_0 .normal (RL_ref01_gcd_2 x_0 y_0) []) (h1 : (y_0 = 0 ∧ U64 x_0 ∧ Int.gcd x_0 y_0 = Int.gcd a b) → K_0 (.exit 0) (RL_ref01_gcd_3 x_0 y_0 J_0) []) : NFb_ref01_gcd_0_0 a b x_0 y_0 J_0 K_0 := by
  unfold NFb_ref01_gcd_0_0
  obtain ⟨⟨x1, x2⟩, ⟨y1, y2⟩, hg⟩ := hi
  refine bif_i (fun h => bif_i (fun _ => ?_) (fun h2 => ?_)) (fun h => ?_)
  · simp at h
    have e : Int.tmod x_0 y_0 = x_0 % y_0 := Int.tmod_eq_emod_of_nonneg x1
    have m1 := Int.emod_nonneg x_0 (b := y_0) (by omega)
    have m2 := Int.emod_lt_of_pos x_0 (b := y_0) (by omega)
    refine h0 ⟨⟨y1, y2⟩, ?_, ?_⟩ ?_
    · rw [e]; exact ⟨m1, by omega⟩
    · rw [e, gcd_mod x1 y1]; exact hg
    · rw [e]; omega
  · simp at h h2; omega
  · simp at h
    exact h1 ⟨by omega, ⟨x1, x2⟩, hg⟩
theorem loop_ref01_gcd_0 (a b x_0 y_0 : Int) (J_0 : Nat → AV) {K_0 : KE} (hi : U64 x_0 ∧ U64 y_0 ∧ Int.gcd x_0 y_0 = Int.gcd a b) (x0_1 : ∀ (x_0 y_0 : Int) (J_0 : Nat → AV), (y_0 = 0 ∧ U64 x_0 ∧ Int.gcd x_0 y_0 = Int.gcd a b) → K_0 (.exit 0) (RL_ref01_gcd_3 x_0 y_0 J_0) []) :
    loopW (W G_ref01_gcd 0 MC_ref01_gcd_0) 0 (RL_ref01_gcd_1 x_0 y_0 J_0) [] K_0 := by
  refine ⟨[true, true, true, true, true, false, false, false, false, false, false, true], fun n t H => (∃ (x_0 y_0 : Int) (J_0 : Nat → AV), (U64 x_0 ∧ U64 y_0 ∧ Int.gcd x_0 y_0 = Int.gcd a b) ∧ n = Int.toNat y_0 ∧ t = (RL_ref01_gcd_1 x_0 y_0 J_0) ∧ H = []), ⟨_, ⟨x_0, y_0, J_0, hi, rfl, rfl, rfl⟩⟩, ?_⟩
  rintro n t1 H1 (⟨x_0, y_0, J_0, hi, rfl, rfl, rfl⟩)
  · rw [nfb_ref01_gcd_0_0]
    exact keyb_ref01_gcd_0_0 a b x_0 y_0 J_0 hi (fun  hv hl => next_of (σ := []) (by kernel_rfl) (fun js => (RL_ref01_gcd_1 y_0 ((Int.tmod x_0 y_0)) js)) (fun js => by kernel_rfl) (by kernel_rfl) ([]) (by kernel_rfl) trivial (fun js => ⟨_, hl, ⟨(y_0), ((Int.tmod x_0 y_0)), (js), hv, rfl, rfl, rfl⟩⟩)) (fun  hv => x0_1 x_0 y_0 J_0  hv)
def NFx_ref01_gcd_0_0_1 (x_0 y_0 : Int) (J_0 : Nat → AV) (K : AV → Prop) : Prop :=
 K (.i .u64 x_0)
theorem nfx_ref01_gcd_0_0_1 (x_0 y_0 : Int) (J_0 : Nat → AV) (K : AV → Prop) : (kBlock 0 (kSeq G_ref01_gcd 0 MC_ref01_gcd_1 (kFin RES_ref01_gcd fun a _ => K a))) (.exit 0) (RL_ref01_gcd_3 x_0 y_0 J_0) [] = NFx_ref01_gcd_0_0_1 x_0 y_0 J_0 K := by kernel_rfl
def JF_ref01_gcd_4 (a b : Int) : Nat → AV := fun i => (bif Nat.ble i 5 then (bif Nat.ble i 2 then (bif Nat.ble i 0 then (.i .u64 a) else (bif Nat.ble i 1 then (.i .u64 b) else (.v undef))) else (bif Nat.ble i 3 then (.v undef) else (bif Nat.ble i 4 then (.i .u64 0) else (.v undef)))) else (.v undef))
def NF_ref01_gcd (a b : Int) (K : AV → Prop) : Prop :=
 (loopW (W G_ref01_gcd 0 MC_ref01_gcd_0) 0 (RL_ref01_gcd_1 a b (JF_ref01_gcd_4 a b)) [] (kBlock 0 (kSeq G_ref01_gcd 0 MC_ref01_gcd_1 (kFin RES_ref01_gcd fun a _ => K a))))
theorem nf_ref01_gcd (a b : Int) (K : AV → Prop) : WF G_ref01_gcd 0 FM_ref01_gcd [(.i .u64 a), (.i .u64 b)] [] (fun a _ => K a) = NF_ref01_gcd a b K := by kernel_rfl
theorem key_ref01_gcd (a b : Int) {K : AV → Prop} (hp : U64 a ∧ U64 b) (hk : K (.i .u64 ((Int.gcd a b : Nat) : Int))) : NF_ref01_gcd a b K := by
  unfold NF_ref01_gcd
  refine loop_ref01_gcd_0 a b _ _ _ ⟨hp.1, hp.2, rfl⟩ ?_
  rintro x y _ ⟨rfl, ⟨x1, x2⟩, hg⟩
  rw [nfx_ref01_gcd_0_0_1]
  unfold NFx_ref01_gcd_0_0_1
  refine K_of hk ?_
  rw [← hg]
  simp
  omega
theorem ok_ref01_gcd : SoundN Go.Proofs.Try.prog 55 S_ref01_gcd := by
  refine soundN_of sg_ref01_gcd fun args H K hS => ?_
  unfold S_ref01_gcd at hS
  split at hS
  · rename_i a b
    have hS1 := key_ref01_gcd a b (K := fun a => plainA a = true ∧ K a) hS.1 ⟨by simp [plainA, plainL], hS.2⟩
    refine ⟨by simp [plainA, plainL], ?_⟩
    rw [nf_ref01_gcd a b fun a => plainA a = true ∧ K a]
    exact hS1
  · exact hS.elim

def FM_ref01_Check : FM := ⟨31, [(RV.tmp 2)], (MC.seq (MC.ops [⟨(some 1), none, (MI.box 23 (MO.t 0))⟩, ⟨(some 2), none, (MI.mv (MO.c (AV.i .i64 0)))⟩]) (MC.seq (MC.seq (MC.dr (SchM.op ⟨(some 3), none, (MI.faddr 1 (MO.t 1))⟩ (SchM.op ⟨(some 4), none, (MI.load (MO.t 3))⟩ (SchM.op ⟨(some 5), none, (MI.bin .lss (MO.t 4) (MO.c (AV.i .i64 1)))⟩ (SchM.op ⟨(some 6), none, (MI.mv (MO.t 5))⟩ (SchM.op ⟨(some 7), (some (6, false)), (MI.faddr 1 (MO.t 1))⟩ (SchM.op ⟨(some 8), (some (6, false)), (MI.load (MO.t 7))⟩ (SchM.op ⟨(some 9), (some (6, false)), (MI.bin .gtr (MO.t 8) (MO.c (AV.i .i64 1000000000000000000)))⟩ (SchM.op ⟨(some 10), none, (MI.pick (MO.t 6) (MO.c (AV.b true)) (MO.t 9))⟩ (SchM.op ⟨(some 11), none, (MI.mv (MO.t 10))⟩ (SchM.op ⟨(some 12), (some (11, false)), (MI.faddr 0 (MO.t 1))⟩ (SchM.op ⟨(some 13), (some (11, false)), (MI.load (MO.t 12))⟩ (SchM.op ⟨(some 14), (some (11, false)), (MI.bin .lss (MO.t 13) (MO.c (AV.i .i64 (-1000000000000000000))))⟩ (SchM.op ⟨(some 15), none, (MI.pick (MO.t 11) (MO.c (AV.b true)) (MO.t 14))⟩ (SchM.op ⟨(some 16), none, (MI.mv (MO.t 15))⟩ (SchM.op ⟨(some 17), (some (16, false)), (MI.faddr 0 (MO.t 1))⟩ (SchM.op ⟨(some 18), (some (16, false)), (MI.load (MO.t 17))⟩ (SchM.op ⟨(some 19), (some (16, false)), (MI.bin .gtr (MO.t 18) (MO.c (AV.i .i64 1000000000000000000)))⟩ (SchM.op ⟨(some 20), none, (MI.pick (MO.t 16) (MO.c (AV.b true)) (MO.t 19))⟩ (SchM.op ⟨(some 21), none, (MI.mv (MO.t 20))⟩ (SchM.op ⟨(some 22), (some (21, false)), (MI.faddr 0 (MO.t 1))⟩ (SchM.op ⟨(some 23), (some (21, false)), (MI.load (MO.t 22))⟩ (SchM.op ⟨(some 24), (some (21, false)), (MI.callN 56 [(MO.t 23)])⟩ (SchM.op ⟨(some 25), (some (21, false)), (MI.faddr 1 (MO.t 1))⟩ (SchM.op ⟨(some 26), (some (21, false)), (MI.load (MO.t 25))⟩ (SchM.op ⟨(some 27), (some (21, false)), (MI.conv .u64 (MO.t 26))⟩ (SchM.op ⟨(some 28), (some (21, false)), (MI.callN 55 [(MO.t 24), (MO.t 27)])⟩ (SchM.op ⟨(some 29), (some (21, false)), (MI.bin .neq (MO.t 28) (MO.c (AV.i .u64 1)))⟩ (SchM.op ⟨(some 30), none, (MI.pick (MO.t 21) (MO.c (AV.b true)) (MO.t 29))⟩ SchM.done))))))))))))))))))))))))))))) (MC.cond (MO.t 30) (MC.seq (MC.ops [⟨(some 2), none, (MI.mv (MO.c (AV.i .i64 8)))⟩]) MC.ret) MC.skip)) (MC.seq (MC.ops [⟨(some 2), none, (MI.mv (MO.c (AV.i .i64 0)))⟩]) MC.ret)))⟩
theorem FMc_ref01_Check : compF Go.Proofs.Try.prog (eqsP Go.Proofs.Try.prog) (neutOf [55, 56]) (neutOf [55, 56]) 28 = some FM_ref01_Check := by kernel_rfl
def G_ref01_Check : Gam := mkG [(55, S_ref01_gcd), (56, S_ref01_abs)] []
theorem sg_ref01_Check : SoundG Go.Proofs.Try.prog 28 (WF G_ref01_Check 0 FM_ref01_Check) := WF_sound (allD_ok (n := G_ref01_Check.n) (l := [55, 56]) ⟨det_ref01_gcd, det_ref01_abs, trivial⟩) mixP (mkG_ok (n := [(55, S_ref01_gcd), (56, S_ref01_abs)]) (g := []) ⟨ok_ref01_gcd, ok_ref01_abs, trivial⟩ trivial) eqsP_ok FMc_ref01_Check
def S_ref01_Check : NSpec := fun args _ K => match args with
  | [(.agg [(.i .i64 n), (.i .i64 d)])] => (I64 n ∧ I64 d) ∧ K (.i .i64 (okE n d))
  | _ => False
theorem det_ref01_Check : DetN S_ref01_Check := by
  intro args H K h
  unfold S_ref01_Check at h
  split at h
  · exact ⟨_, h.2, fun H' K' _ k => ⟨h.1, k⟩⟩
  · exact h.elim

def NF_ref01_Check (n d : Int) (K : AV → Prop) : Prop :=
 (bif decide (d < 1) then K (.i .i64 8)
 else (bif decide (1000000000000000000 < d) then K (.i .i64 8)
 else (bif decide (n < (-1000000000000000000)) then K (.i .i64 8)
 else (bif decide (1000000000000000000 < n) then K (.i .i64 8)
 else ((I64 n) ∧
 ((U64 (n.natAbs : Int) ∧ U64 (u64.wrap d)) ∧
 (bif (((Int.gcd (n.natAbs : Int) (u64.wrap d) : Nat) : Int) != 1) then K (.i .i64 8)
 else K (.i .i64 0))))))))
theorem nf_ref01_Check (n d : Int) (K : AV → Prop) : WF G_ref01_Check 0 FM_ref01_Check [(.agg [(.i .i64 n), (.i .i64 d)])] [] (fun a _ => K a) = NF_ref01_Check n d K := by kernel_rfl
theorem key_ref01_Check (n d : Int) {K : AV → Prop} (hp : I64 n ∧ I64 d) (hk : K (.i .i64 (okE n d))) : NF_ref01_Check n d K := by
  unfold NF_ref01_Check
  obtain ⟨⟨n1, n2⟩, d1, d2⟩ := hp
  have no : ¬ okF n d → K (.i .i64 8) := fun h => K_of hk (by simp [okE, h])
  refine bif_i (fun h => no ?_) (fun h => bif_i (fun h2 => no ?_) (fun h2 => bif_i (fun h3 => no ?_) (fun h3 => bif_i (fun h4 => no ?_) (fun h4 => ⟨⟨n1, n2⟩, ?_⟩)))) <;> simp only [decide_eq_true_eq, decide_eq_false_iff_not] at h <;> (try simp only [decide_eq_true_eq, decide_eq_false_iff_not] at h2) <;> (try simp only [decide_eq_true_eq, decide_eq_false_iff_not] at h3) <;> (try simp only [decide_eq_true_eq, decide_eq_false_iff_not] at h4)
  · unfold okF; omega
  · unfold okF; omega
  · unfold okF; omega
  · unfold okF; omega
  have e : Int.gcd (n.natAbs : Int) d = Int.gcd n d := by simp [Int.gcd]
  rw [wrap_u64 (n := d) (by omega) (by omega), e]
  refine ⟨⟨⟨by omega, by omega⟩, by omega, by omega⟩, bif_i (fun h5 => no ?_) (fun h5 => K_of hk ?_)⟩ <;> simp at h5
  · unfold okF; omega
  · have : okF n d := by unfold okF; omega
    simp [okE, this]
theorem ok_ref01_Check : SoundN Go.Proofs.Try.prog 28 S_ref01_Check := by
  refine soundN_of sg_ref01_Check fun args H K hS => ?_
  unfold S_ref01_Check at hS
  split at hS
  · rename_i n d
    have hS1 := key_ref01_Check n d (K := fun a => plainA a = true ∧ K a) hS.1 ⟨by simp [plainA, plainL], hS.2⟩
    refine ⟨by simp [plainA, plainL], ?_⟩
    rw [nf_ref01_Check n d fun a => plainA a = true ∧ K a]
    exact hS1
  · exact hS.elim

end Go.Proofs.Ytpfmnmcpffajeaa.V
