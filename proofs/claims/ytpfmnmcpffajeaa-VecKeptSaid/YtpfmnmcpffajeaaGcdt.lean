/-
  Contracts, printed by a program of this session (wip/tool/sym.py) from the unit text gcdt: what each function comes to, and its proof.
-/
import Derived.Test.YtpfmnmcpffajeaaBase
import Derived.Test.YtpfmnmcpffajeaaProg
set_option linter.unusedVariables false
set_option linter.unusedSimpArgs false
set_option maxRecDepth 100000
namespace Go.Proofs.Ytpfmnmcpffajeaa.V
open Go Go.RowKit
open Go.IntKind (u64 i64 u8 i32 u32)

def MC_frac_gcd_0 : MC := (MC.seq (MC.seq (MC.ops [⟨(some 5), none, (MI.mv (MO.t 1))⟩, ⟨(some 6), none, (MI.bin .gtr (MO.t 5) (MO.c (AV.i .u64 0)))⟩]) (MC.cond (MO.t 6) MC.skip (MC.exit 0))) (MC.block 1 (MC.dr (SchM.op ⟨(some 7), none, (MI.mv (MO.t 1))⟩ (SchM.op ⟨(some 8), none, (MI.mv (MO.t 0))⟩ (SchM.op ⟨(some 9), none, (MI.mv (MO.t 1))⟩ (SchM.op ⟨(some 10), none, (MI.bin .rem (MO.t 8) (MO.t 9))⟩ (SchM.op ⟨(some 0), none, (MI.mv (MO.t 7))⟩ (SchM.op ⟨(some 1), none, (MI.mv (MO.t 10))⟩ SchM.done)))))))))
def MC_frac_gcd_1 : MC := (MC.seq (MC.ops [⟨(some 11), none, (MI.mv (MO.t 0))⟩, ⟨(some 4), none, (MI.mv (MO.t 11))⟩]) MC.ret)
def RES_frac_gcd : List RV := [(RV.tmp 4)]
def FM_frac_gcd : FM := ⟨12, RES_frac_gcd, (MC.seq (MC.ops [⟨(some 4), none, (MI.mv (MO.c (AV.i .u64 0)))⟩]) (MC.seq (MC.block 0 (MC.loop MC_frac_gcd_0)) MC_frac_gcd_1))⟩
theorem FMc_frac_gcd : compF Go.Proofs.Try.prog (eqsP Go.Proofs.Try.prog) (neutOf []) (neutOf []) 43 = some FM_frac_gcd := by kernel_rfl
def G_frac_gcd : Gam := mkG [] []
theorem sg_frac_gcd : SoundG Go.Proofs.Try.prog 43 (WF G_frac_gcd 0 FM_frac_gcd) := WF_sound (allD_ok (n := G_frac_gcd.n) (l := []) trivial) mixP (mkG_ok (n := []) (g := []) trivial trivial) eqsP_ok FMc_frac_gcd
def S_frac_gcd : NSpec := fun args _ K => match args with
  | [(.i .u64 a), (.i .u64 b)] => (U64 a ∧ U64 b) ∧ K (.i .u64 ((Int.gcd a b : Nat) : Int))
  | _ => False
theorem det_frac_gcd : DetN S_frac_gcd := by
  intro args H K h
  unfold S_frac_gcd at h
  split at h
  · exact ⟨_, h.2, fun H' K' _ k => ⟨h.1, k⟩⟩
  · exact h.elim

def RL_frac_gcd_1 (x_0 y_0 : Int) (J_0 : Nat → AV) : List AV := [(.i .u64 x_0), (.i .u64 y_0), (.v undef), (.v undef), (.i .u64 0), (J_0 5), (J_0 6), (J_0 7), (J_0 8), (J_0 9), (J_0 10), (.v undef)]
def RL_frac_gcd_2 (x_0 y_0 : Int) : List AV := [(.i .u64 y_0), (.i .u64 (Int.tmod x_0 y_0)), (.v undef), (.v undef), (.i .u64 0), (.i .u64 y_0), (.b true), (.i .u64 y_0), (.i .u64 x_0), (.i .u64 y_0), (.i .u64 (Int.tmod x_0 y_0)), (.v undef)]
def RL_frac_gcd_3 (x_0 y_0 : Int) (J_0 : Nat → AV) : List AV := [(.i .u64 x_0), (.i .u64 y_0), (.v undef), (.v undef), (.i .u64 0), (.i .u64 y_0), (.b false), (J_0 7), (J_0 8), (J_0 9), (J_0 10), (.v undef)]
def NFb_frac_gcd_0_0 (a b x_0 y_0 : Int) (J_0 : Nat → AV) (K_0 : KE) : Prop :=
 (bif decide (0 < y_0) then (bif decide (y_0 ≠ 0) then K_0 .normal (RL_frac_gcd_2 x_0 y_0) [] else False)
 else K_0 (.exit 0) (RL_frac_gcd_3 x_0 y_0 J_0) [])
theorem nfb_frac_gcd_0_0 (a b x_0 y_0 : Int) (J_0 : Nat → AV) (K_0 : KE) : W G_frac_gcd 0 MC_frac_gcd_0 (RL_frac_gcd_1 x_0 y_0 J_0) [] K_0 = NFb_frac_gcd_0_0 a b x_0 y_0 J_0 K_0 := by kernel_rfl
theorem keyb_frac_gcd_0_0 (a b x_0 y_0 : Int) (J_0 : Nat → AV) (hi : U64 x_0 ∧ U64 y_0 ∧ Int.gcd x_0 y_0 = Int.gcd a b) {K_0 : KE} (h0 : (U64 y_0 ∧ U64 ((Int.tmod x_0 y_0)) ∧ Int.gcd y_0 ((Int.tmod x_0 y_0)) = Int.gcd a b) → (Int.toNat ((Int.tmod x_0 y_0))) < (Int.toNat y_0) → K_0 .normal (RL_frac_gcd_2 x_0 y_0) []) (h1 : (y_0 = 0 ∧ U64 x_0 ∧ Int.gcd x_0 y_0 = Int.gcd a b) → K_0 (.exit 0) (RL_frac_gcd_3 x_0 y_0 J_0) []) : NFb_frac_gcd_0_0 a b x_0 y_0 J_0 K_0 := by
  unfold NFb_frac_gcd_0_0
  obtain ⟨⟨x1, x2⟩, ⟨y1, y2⟩, hg⟩ := hi
  refine bif_i (fun h => bif_i (fun _ => ?_) (fun h2 => ?_)) (fun h => ?_)
  · simp at h
    have e : Int.tmod x_0 y_0 = x_0 % y_0 := Int.tmod_eq_emod_of_nonneg x1
    have m1 := Int.emod_nonneg x_0 (b := y_0) (by omega)
    have m2 := Int.emod_lt_of_pos x_0 (b := y_0) h
    refine h0 ⟨⟨y1, y2⟩, ?_, ?_⟩ ?_
    · rw [e]; exact ⟨m1, by omega⟩
    · rw [e, gcd_mod x1 y1]; exact hg
    · rw [e]; omega
  · simp at h h2; omega
  · simp at h
    exact h1 ⟨by omega, ⟨x1, x2⟩, hg⟩
theorem loop_frac_gcd_0 (a b x_0 y_0 : Int) (J_0 : Nat → AV) {K_0 : KE} (hi : U64 x_0 ∧ U64 y_0 ∧ Int.gcd x_0 y_0 = Int.gcd a b) (x0_1 : ∀ (x_0 y_0 : Int) (J_0 : Nat → AV), (y_0 = 0 ∧ U64 x_0 ∧ Int.gcd x_0 y_0 = Int.gcd a b) → K_0 (.exit 0) (RL_frac_gcd_3 x_0 y_0 J_0) []) :
    loopW (W G_frac_gcd 0 MC_frac_gcd_0) 0 (RL_frac_gcd_1 x_0 y_0 J_0) [] K_0 := by
  refine ⟨[true, true, true, true, true, false, false, false, false, false, false, true], fun n t H => (∃ (x_0 y_0 : Int) (J_0 : Nat → AV), (U64 x_0 ∧ U64 y_0 ∧ Int.gcd x_0 y_0 = Int.gcd a b) ∧ n = Int.toNat y_0 ∧ t = (RL_frac_gcd_1 x_0 y_0 J_0) ∧ H = []), ⟨_, ⟨x_0, y_0, J_0, hi, rfl, rfl, rfl⟩⟩, ?_⟩
  rintro n t1 H1 (⟨x_0, y_0, J_0, hi, rfl, rfl, rfl⟩)
  · rw [nfb_frac_gcd_0_0]
    exact keyb_frac_gcd_0_0 a b x_0 y_0 J_0 hi (fun  hv hl => next_of (σ := []) (by kernel_rfl) (fun js => (RL_frac_gcd_1 y_0 ((Int.tmod x_0 y_0)) js)) (fun js => by kernel_rfl) (by kernel_rfl) ([]) (by kernel_rfl) trivial (fun js => ⟨_, hl, ⟨(y_0), ((Int.tmod x_0 y_0)), (js), hv, rfl, rfl, rfl⟩⟩)) (fun  hv => x0_1 x_0 y_0 J_0  hv)
def NFx_frac_gcd_0_0_1 (x_0 y_0 : Int) (J_0 : Nat → AV) (K : AV → Prop) : Prop :=
 K (.i .u64 x_0)
theorem nfx_frac_gcd_0_0_1 (x_0 y_0 : Int) (J_0 : Nat → AV) (K : AV → Prop) : (kBlock 0 (kSeq G_frac_gcd 0 MC_frac_gcd_1 (kFin RES_frac_gcd fun a _ => K a))) (.exit 0) (RL_frac_gcd_3 x_0 y_0 J_0) [] = NFx_frac_gcd_0_0_1 x_0 y_0 J_0 K := by kernel_rfl
def JF_frac_gcd_4 (a b : Int) : Nat → AV := fun i => (bif Nat.ble i 5 then (bif Nat.ble i 2 then (bif Nat.ble i 0 then (.i .u64 a) else (bif Nat.ble i 1 then (.i .u64 b) else (.v undef))) else (bif Nat.ble i 3 then (.v undef) else (bif Nat.ble i 4 then (.i .u64 0) else (.v undef)))) else (.v undef))
def NF_frac_gcd (a b : Int) (K : AV → Prop) : Prop :=
 (loopW (W G_frac_gcd 0 MC_frac_gcd_0) 0 (RL_frac_gcd_1 a b (JF_frac_gcd_4 a b)) [] (kBlock 0 (kSeq G_frac_gcd 0 MC_frac_gcd_1 (kFin RES_frac_gcd fun a _ => K a))))
theorem nf_frac_gcd (a b : Int) (K : AV → Prop) : WF G_frac_gcd 0 FM_frac_gcd [(.i .u64 a), (.i .u64 b)] [] (fun a _ => K a) = NF_frac_gcd a b K := by kernel_rfl
theorem key_frac_gcd (a b : Int) {K : AV → Prop} (hp : U64 a ∧ U64 b) (hk : K (.i .u64 ((Int.gcd a b : Nat) : Int))) : NF_frac_gcd a b K := by
  unfold NF_frac_gcd
  refine loop_frac_gcd_0 a b _ _ _ ⟨hp.1, hp.2, rfl⟩ ?_
  rintro x y _ ⟨rfl, ⟨x1, x2⟩, hg⟩
  rw [nfx_frac_gcd_0_0_1]
  unfold NFx_frac_gcd_0_0_1
  refine K_of hk ?_
  rw [← hg]
  simp
  omega
theorem ok_frac_gcd : SoundN Go.Proofs.Try.prog 43 S_frac_gcd := by
  refine soundN_of sg_frac_gcd fun args H K hS => ?_
  unfold S_frac_gcd at hS
  split at hS
  · rename_i a b
    have hS1 := key_frac_gcd a b (K := fun a => plainA a = true ∧ K a) hS.1 ⟨by simp [plainA, plainL], hS.2⟩
    refine ⟨by simp [plainA, plainL], ?_⟩
    rw [nf_frac_gcd a b fun a => plainA a = true ∧ K a]
    exact hS1
  · exact hS.elim

end Go.Proofs.Ytpfmnmcpffajeaa.V
