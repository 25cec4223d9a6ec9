/-
  Contracts, printed by a program of this session (wip/tool/sym.py) from the unit text fr1: what each function comes to, and its proof.
-/
import Derived.Test.YtpfmnmcpffajeaaFrm
import Derived.Test.YtpfmnmcpffajeaaProg
set_option linter.unusedVariables false
set_option linter.unusedSimpArgs false
set_option maxRecDepth 100000
namespace Go.Proofs.Ytpfmnmcpffajeaa.V
open Go Go.RowKit
open Go.IntKind (u64 i64 u8 i32 u32)


def sgn (x : Int) : Int := if x < 0 then -1 else if 0 < x then 1 else 0
def cmpF (a b c d : Int) : IR := if okF a b ∧ okF c d then ⟨sgn (a * d - c * b), 0⟩ else ⟨0, 8⟩
theorem okE2_cases (a b c d : Int) : (okF a b ∧ okF c d ∧ okE2 a b c d = 0) ∨ (¬ (okF a b ∧ okF c d) ∧ okE2 a b c d = 8) := by
  unfold okE2; split
  · rename_i h; exact .inl ⟨h.1, h.2, rfl⟩
  · exact .inr ⟨by assumption, rfl⟩
theorem wide_lex {a b c d : Int} (hb : 0 ≤ b ∧ b < 18446744073709551616) (hd : 0 ≤ d ∧ d < 18446744073709551616) : sgn (a * 18446744073709551616 + b - (c * 18446744073709551616 + d)) = if sgn (a - c) ≠ 0 then sgn (a - c) else sgn (b - d) := by
  unfold sgn
  (repeat' split) <;> omega
theorem bne_self {x : Int} : (x != x) = false := by simp
theorem mul_lt_of {a b : Int} {A B : Int} (ha : 0 ≤ a) (hA : a ≤ A) (hb : 0 ≤ b) (hB : b ≤ B) : 0 ≤ a * b ∧ a * b ≤ A * B :=
  ⟨Int.mul_nonneg ha hb, Int.mul_le_mul hA hB hb (Int.le_trans ha hA)⟩
theorem wide_val (p : Int) : p / 18446744073709551616 * 18446744073709551616 + p % 18446744073709551616 = p := by omega

def FM_cmp_isNaN_uint64 : FM := ⟨6, [(RV.tmp 2)], (MC.seq (MC.ops [⟨(some 2), none, (MI.mv (MO.c (AV.b false)))⟩]) (MC.seq (MC.ops [⟨(some 3), none, (MI.mv (MO.t 0))⟩, ⟨(some 4), none, (MI.mv (MO.t 0))⟩, ⟨(some 5), none, (MI.bin .neq (MO.t 3) (MO.t 4))⟩, ⟨(some 2), none, (MI.mv (MO.t 5))⟩]) MC.ret))⟩
theorem FMc_cmp_isNaN_uint64 : compF Go.Proofs.Try.prog (eqsP Go.Proofs.Try.prog) (neutOf []) (neutOf []) 68 = some FM_cmp_isNaN_uint64 := by kernel_rfl
def G_cmp_isNaN_uint64 : Gam := mkG [] []
theorem sg_cmp_isNaN_uint64 : SoundG Go.Proofs.Try.prog 68 (WF G_cmp_isNaN_uint64 0 FM_cmp_isNaN_uint64) := WF_sound (allD_ok (n := G_cmp_isNaN_uint64.n) (l := []) trivial) mixP (mkG_ok (n := []) (g := []) trivial trivial) eqsP_ok FMc_cmp_isNaN_uint64
def S_cmp_isNaN_uint64 : NSpec := fun args _ K => match args with
  | [(.i .u64 x)] => K (.b false)
  | _ => False
theorem det_cmp_isNaN_uint64 : DetN S_cmp_isNaN_uint64 := by
  intro args H K h
  unfold S_cmp_isNaN_uint64 at h
  split at h
  · exact ⟨_, h, fun H' K' _ k => k⟩
  · exact h.elim

def NF_cmp_isNaN_uint64 (x : Int) (K : AV → Prop) : Prop :=
 K (.b (x != x))
theorem nf_cmp_isNaN_uint64 (x : Int) (K : AV → Prop) : WF G_cmp_isNaN_uint64 0 FM_cmp_isNaN_uint64 [(.i .u64 x)] [] (fun a _ => K a) = NF_cmp_isNaN_uint64 x K := by kernel_rfl
theorem key_cmp_isNaN_uint64 (x : Int) {K : AV → Prop} (hk : K (.b false)) : NF_cmp_isNaN_uint64 x K := by
  unfold NF_cmp_isNaN_uint64
  simpa using hk
theorem ok_cmp_isNaN_uint64 : SoundN Go.Proofs.Try.prog 68 S_cmp_isNaN_uint64 := by
  refine soundN_of sg_cmp_isNaN_uint64 fun args H K hS => ?_
  unfold S_cmp_isNaN_uint64 at hS
  split at hS
  · rename_i x
    have hS1 := key_cmp_isNaN_uint64 x (K := fun a => plainA a = true ∧ K a) ⟨by simp [plainA, plainL], hS⟩
    refine ⟨by simp [plainA, plainL], ?_⟩
    rw [nf_cmp_isNaN_uint64 x fun a => plainA a = true ∧ K a]
    exact hS1
  · exact hS.elim

def FM_cmp_Compare_uint64 : FM := ⟨20, [(RV.tmp 4)], (MC.seq (MC.ops [⟨(some 4), none, (MI.mv (MO.c (AV.i .i64 0)))⟩]) (MC.seq (MC.ops [⟨(some 7), none, (MI.mv (MO.t 0))⟩, ⟨(some 8), none, (MI.callN 68 [(MO.t 7)])⟩, ⟨(some 5), none, (MI.mv (MO.t 8))⟩]) (MC.seq (MC.ops [⟨(some 9), none, (MI.mv (MO.t 1))⟩, ⟨(some 10), none, (MI.callN 68 [(MO.t 9)])⟩, ⟨(some 6), none, (MI.mv (MO.t 10))⟩]) (MC.seq (MC.seq (MC.ops [⟨(some 11), none, (MI.mv (MO.t 5))⟩]) (MC.cond (MO.t 11) (MC.seq (MC.seq (MC.ops [⟨(some 12), none, (MI.mv (MO.t 6))⟩]) (MC.cond (MO.t 12) (MC.seq (MC.ops [⟨(some 4), none, (MI.mv (MO.c (AV.i .i64 0)))⟩]) MC.ret) MC.skip)) (MC.seq (MC.ops [⟨(some 4), none, (MI.mv (MO.c (AV.i .i64 (-1))))⟩]) MC.ret)) MC.skip)) (MC.seq (MC.seq (MC.ops [⟨(some 13), none, (MI.mv (MO.t 6))⟩]) (MC.cond (MO.t 13) (MC.seq (MC.ops [⟨(some 4), none, (MI.mv (MO.c (AV.i .i64 1)))⟩]) MC.ret) MC.skip)) (MC.seq (MC.seq (MC.ops [⟨(some 14), none, (MI.mv (MO.t 0))⟩, ⟨(some 15), none, (MI.mv (MO.t 1))⟩, ⟨(some 16), none, (MI.bin .lss (MO.t 14) (MO.t 15))⟩]) (MC.cond (MO.t 16) (MC.seq (MC.ops [⟨(some 4), none, (MI.mv (MO.c (AV.i .i64 (-1))))⟩]) MC.ret) MC.skip)) (MC.seq (MC.seq (MC.ops [⟨(some 17), none, (MI.mv (MO.t 0))⟩, ⟨(some 18), none, (MI.mv (MO.t 1))⟩, ⟨(some 19), none, (MI.bin .gtr (MO.t 17) (MO.t 18))⟩]) (MC.cond (MO.t 19) (MC.seq (MC.ops [⟨(some 4), none, (MI.mv (MO.c (AV.i .i64 1)))⟩]) MC.ret) MC.skip)) (MC.seq (MC.ops [⟨(some 4), none, (MI.mv (MO.c (AV.i .i64 0)))⟩]) MC.ret))))))))⟩
theorem FMc_cmp_Compare_uint64 : compF Go.Proofs.Try.prog (eqsP Go.Proofs.Try.prog) (neutOf [68]) (neutOf [68]) 64 = some FM_cmp_Compare_uint64 := by kernel_rfl
def G_cmp_Compare_uint64 : Gam := mkG [(68, S_cmp_isNaN_uint64)] []
theorem sg_cmp_Compare_uint64 : SoundG Go.Proofs.Try.prog 64 (WF G_cmp_Compare_uint64 0 FM_cmp_Compare_uint64) := WF_sound (allD_ok (n := G_cmp_Compare_uint64.n) (l := [68]) ⟨det_cmp_isNaN_uint64, trivial⟩) mixP (mkG_ok (n := [(68, S_cmp_isNaN_uint64)]) (g := []) ⟨ok_cmp_isNaN_uint64, trivial⟩ trivial) eqsP_ok FMc_cmp_Compare_uint64
def S_cmp_Compare_uint64 : NSpec := fun args _ K => match args with
  | [(.i .u64 x), (.i .u64 y)] => K (.i .i64 (sgn (x - y)))
  | _ => False
theorem det_cmp_Compare_uint64 : DetN S_cmp_Compare_uint64 := by
  intro args H K h
  unfold S_cmp_Compare_uint64 at h
  split at h
  · exact ⟨_, h, fun H' K' _ k => k⟩
  · exact h.elim

def NF_cmp_Compare_uint64 (x y : Int) (K : AV → Prop) : Prop :=
 (bif decide (x < y) then K (.i .i64 (-1))
 else (bif decide (y < x) then K (.i .i64 1)
 else K (.i .i64 0)))
theorem nf_cmp_Compare_uint64 (x y : Int) (K : AV → Prop) : WF G_cmp_Compare_uint64 0 FM_cmp_Compare_uint64 [(.i .u64 x), (.i .u64 y)] [] (fun a _ => K a) = NF_cmp_Compare_uint64 x y K := by kernel_rfl
theorem key_cmp_Compare_uint64 (x y : Int) {K : AV → Prop} (hk : K (.i .i64 (sgn (x - y)))) : NF_cmp_Compare_uint64 x y K := by
  unfold NF_cmp_Compare_uint64
  refine bif_i (fun h => K_of hk ?_) (fun h => bif_i (fun h2 => K_of hk ?_) (fun h2 => K_of hk ?_)) <;> simp at * <;> unfold sgn <;> (repeat' split) <;> omega
theorem ok_cmp_Compare_uint64 : SoundN Go.Proofs.Try.prog 64 S_cmp_Compare_uint64 := by
  refine soundN_of sg_cmp_Compare_uint64 fun args H K hS => ?_
  unfold S_cmp_Compare_uint64 at hS
  split at hS
  · rename_i x y
    have hS1 := key_cmp_Compare_uint64 x y (K := fun a => plainA a = true ∧ K a) ⟨by simp [plainA, plainL], hS⟩
    refine ⟨by simp [plainA, plainL], ?_⟩
    rw [nf_cmp_Compare_uint64 x y fun a => plainA a = true ∧ K a]
    exact hS1
  · exact hS.elim

def FM_cmp_Or_api_Errno : FM := ⟨18, [(RV.tmp 2)], (MC.seq (MC.ops [⟨(some 2), none, (MI.mv (MO.c (AV.i .i64 0)))⟩]) (MC.seq (MC.ops [⟨(some 3), none, (MI.mv (MO.c (AV.i .i64 0)))⟩]) (MC.seq (MC.seq (MC.ops [⟨(some 6), none, (MI.mv (MO.t 0))⟩, ⟨(some 7), none, (MI.len (MO.t 6))⟩, ⟨(some 8), none, (MI.mv (MO.c (AV.i .i64 0)))⟩]) (MC.block 0 (MC.loop (MC.seq (MC.ops [⟨(some 9), none, (MI.bin .lss (MO.t 8) (MO.t 7))⟩]) (MC.seq (MC.cond (MO.t 9) MC.skip (MC.exit 0)) (MC.seq (MC.block 1 (MC.seq (MC.ops [⟨(some 10), none, (MI.iaddrS 1 (MO.t 6) (MO.t 8))⟩, ⟨(some 11), none, (MI.load (MO.t 10))⟩, ⟨(some 5), none, (MI.mv (MO.t 11))⟩]) (MC.seq (MC.ops [⟨(some 12), none, (MI.mv (MO.t 5))⟩, ⟨(some 13), none, (MI.mv (MO.t 3))⟩, ⟨(some 14), none, (MI.bin .neq (MO.t 12) (MO.t 13))⟩]) (MC.cond (MO.t 14) (MC.seq (MC.ops [⟨(some 15), none, (MI.mv (MO.t 5))⟩, ⟨(some 2), none, (MI.mv (MO.t 15))⟩]) MC.ret) MC.skip)))) (MC.ops [⟨(some 16), none, (MI.bin .add (MO.t 8) (MO.c (AV.i .i64 1)))⟩, ⟨(some 8), none, (MI.mv (MO.t 16))⟩]))))))) (MC.seq (MC.ops [⟨(some 17), none, (MI.mv (MO.t 3))⟩, ⟨(some 2), none, (MI.mv (MO.t 17))⟩]) MC.ret))))⟩
theorem FMc_cmp_Or_api_Errno : compF Go.Proofs.Try.prog (eqsP Go.Proofs.Try.prog) (neutOf []) (neutOf []) 60 = some FM_cmp_Or_api_Errno := by kernel_rfl
def G_cmp_Or_api_Errno : Gam := mkG [] []
theorem sg_cmp_Or_api_Errno : SoundG Go.Proofs.Try.prog 60 (WF G_cmp_Or_api_Errno 3 FM_cmp_Or_api_Errno) := WF_sound (allD_ok (n := G_cmp_Or_api_Errno.n) (l := []) trivial) mixP (mkG_ok (n := []) (g := []) trivial trivial) eqsP_ok FMc_cmp_Or_api_Errno

def FM_cmp_Or_int : FM := ⟨18, [(RV.tmp 2)], (MC.seq (MC.ops [⟨(some 2), none, (MI.mv (MO.c (AV.i .i64 0)))⟩]) (MC.seq (MC.ops [⟨(some 3), none, (MI.mv (MO.c (AV.i .i64 0)))⟩]) (MC.seq (MC.seq (MC.ops [⟨(some 6), none, (MI.mv (MO.t 0))⟩, ⟨(some 7), none, (MI.len (MO.t 6))⟩, ⟨(some 8), none, (MI.mv (MO.c (AV.i .i64 0)))⟩]) (MC.block 0 (MC.loop (MC.seq (MC.ops [⟨(some 9), none, (MI.bin .lss (MO.t 8) (MO.t 7))⟩]) (MC.seq (MC.cond (MO.t 9) MC.skip (MC.exit 0)) (MC.seq (MC.block 1 (MC.seq (MC.ops [⟨(some 10), none, (MI.iaddrS 1 (MO.t 6) (MO.t 8))⟩, ⟨(some 11), none, (MI.load (MO.t 10))⟩, ⟨(some 5), none, (MI.mv (MO.t 11))⟩]) (MC.seq (MC.ops [⟨(some 12), none, (MI.mv (MO.t 5))⟩, ⟨(some 13), none, (MI.mv (MO.t 3))⟩, ⟨(some 14), none, (MI.bin .neq (MO.t 12) (MO.t 13))⟩]) (MC.cond (MO.t 14) (MC.seq (MC.ops [⟨(some 15), none, (MI.mv (MO.t 5))⟩, ⟨(some 2), none, (MI.mv (MO.t 15))⟩]) MC.ret) MC.skip)))) (MC.ops [⟨(some 16), none, (MI.bin .add (MO.t 8) (MO.c (AV.i .i64 1)))⟩, ⟨(some 8), none, (MI.mv (MO.t 16))⟩]))))))) (MC.seq (MC.ops [⟨(some 17), none, (MI.mv (MO.t 3))⟩, ⟨(some 2), none, (MI.mv (MO.t 17))⟩]) MC.ret))))⟩
theorem FMc_cmp_Or_int : compF Go.Proofs.Try.prog (eqsP Go.Proofs.Try.prog) (neutOf []) (neutOf []) 63 = some FM_cmp_Or_int := by kernel_rfl
def G_cmp_Or_int : Gam := mkG [] []
theorem sg_cmp_Or_int : SoundG Go.Proofs.Try.prog 63 (WF G_cmp_Or_int 3 FM_cmp_Or_int) := WF_sound (allD_ok (n := G_cmp_Or_int.n) (l := []) trivial) mixP (mkG_ok (n := []) (g := []) trivial trivial) eqsP_ok FMc_cmp_Or_int

def FM_frac_both : FM := ⟨11, [(RV.tmp 4)], (MC.seq (MC.ops [⟨(some 2), none, (MI.box 23 (MO.t 0))⟩, ⟨(some 3), none, (MI.box 23 (MO.t 1))⟩, ⟨(some 4), none, (MI.mv (MO.c (AV.i .i64 0)))⟩]) (MC.seq (MC.dr (SchM.alt ⟨(some 5), none, (MI.loadn 2 (MO.t 2))⟩ (SchM.alt ⟨(some 6), none, (MI.callN 59 [(MO.t 5)])⟩ (SchM.op ⟨(some 7), none, (MI.loadn 2 (MO.t 3))⟩ (SchM.op ⟨(some 8), none, (MI.callN 59 [(MO.t 7)])⟩ (SchM.op ⟨(some 9), none, (MI.bslice 29 2 [(AV.i .i64 0), (AV.i .i64 0)] [(0, 1, (MO.t 6)), (1, 1, (MO.t 8))])⟩ (SchM.op ⟨(some 10), none, (MI.callG 60 [(MO.t 9)])⟩ (SchM.op ⟨(some 4), none, (MI.mv (MO.t 10))⟩ SchM.done))))) (SchM.op ⟨(some 7), none, (MI.loadn 2 (MO.t 3))⟩ (SchM.op ⟨(some 6), none, (MI.callN 59 [(MO.t 5)])⟩ (SchM.op ⟨(some 8), none, (MI.callN 59 [(MO.t 7)])⟩ (SchM.op ⟨(some 9), none, (MI.bslice 29 2 [(AV.i .i64 0), (AV.i .i64 0)] [(0, 1, (MO.t 6)), (1, 1, (MO.t 8))])⟩ (SchM.op ⟨(some 10), none, (MI.callG 60 [(MO.t 9)])⟩ (SchM.op ⟨(some 4), none, (MI.mv (MO.t 10))⟩ SchM.done))))))) (SchM.op ⟨(some 7), none, (MI.loadn 2 (MO.t 3))⟩ (SchM.op ⟨(some 5), none, (MI.loadn 2 (MO.t 2))⟩ (SchM.op ⟨(some 6), none, (MI.callN 59 [(MO.t 5)])⟩ (SchM.op ⟨(some 8), none, (MI.callN 59 [(MO.t 7)])⟩ (SchM.op ⟨(some 9), none, (MI.bslice 29 2 [(AV.i .i64 0), (AV.i .i64 0)] [(0, 1, (MO.t 6)), (1, 1, (MO.t 8))])⟩ (SchM.op ⟨(some 10), none, (MI.callG 60 [(MO.t 9)])⟩ (SchM.op ⟨(some 4), none, (MI.mv (MO.t 10))⟩ SchM.done))))))))) MC.ret))⟩
theorem FMc_frac_both : compF Go.Proofs.Try.prog (eqsP Go.Proofs.Try.prog) (neutOf [59]) (neutOf [59]) 42 = some FM_frac_both := by kernel_rfl
def G_frac_both : Gam := mkG [(59, S_frac_Check)] [(60, WF G_cmp_Or_api_Errno 3 FM_cmp_Or_api_Errno)]
theorem sg_frac_both : SoundG Go.Proofs.Try.prog 42 (WF G_frac_both 0 FM_frac_both) := WF_sound (allD_ok (n := G_frac_both.n) (l := [59]) ⟨det_frac_Check, trivial⟩) mixP (mkG_ok (n := [(59, S_frac_Check)]) (g := [(60, WF G_cmp_Or_api_Errno 3 FM_cmp_Or_api_Errno)]) ⟨ok_frac_Check, trivial⟩ ⟨sg_cmp_Or_api_Errno, trivial⟩) eqsP_ok FMc_frac_both
def S_frac_both : NSpec := fun args _ K => match args with
  | [(.agg [(.i .i64 a), (.i .i64 b)]), (.agg [(.i .i64 c), (.i .i64 d)])] => ((I64 a ∧ I64 b) ∧ I64 c ∧ I64 d) ∧ K (.i .i64 (okE2 a b c d))
  | _ => False
theorem det_frac_both : DetN S_frac_both := by
  intro args H K h
  unfold S_frac_both at h
  split at h
  · exact ⟨_, h.2, fun H' K' _ k => ⟨h.1, k⟩⟩
  · exact h.elim

def NF_frac_both (a b c d : Int) (K : AV → Prop) : Prop :=
 ((((I64 a ∧ I64 b) ∧
 ((I64 c ∧ I64 d) ∧
 (bif ((okE a b) != 0) then K (.i .i64 (okE a b))
 else (bif ((okE c d) != 0) then K (.i .i64 (okE c d))
 else K (.i .i64 0))))) ∧
 ((I64 a ∧ I64 b) ∧
 ((I64 c ∧ I64 d) ∧
 (bif ((okE a b) != 0) then K (.i .i64 (okE a b))
 else (bif ((okE c d) != 0) then K (.i .i64 (okE c d))
 else K (.i .i64 0)))))) ∧
 ((I64 a ∧ I64 b) ∧
 ((I64 c ∧ I64 d) ∧
 (bif ((okE a b) != 0) then K (.i .i64 (okE a b))
 else (bif ((okE c d) != 0) then K (.i .i64 (okE c d))
 else K (.i .i64 0))))))
theorem nf_frac_both (a b c d : Int) (K : AV → Prop) : WF G_frac_both 0 FM_frac_both [(.agg [(.i .i64 a), (.i .i64 b)]), (.agg [(.i .i64 c), (.i .i64 d)])] [] (fun a _ => K a) = NF_frac_both a b c d K := by kernel_rfl
theorem key_frac_both (a b c d : Int) {K : AV → Prop} (hp : (I64 a ∧ I64 b) ∧ I64 c ∧ I64 d) (hk : K (.i .i64 (okE2 a b c d))) : NF_frac_both a b c d K := by
  unfold NF_frac_both
  have key : bif (okE a b != 0) then K (.i .i64 (okE a b)) else (bif (okE c d != 0) then K (.i .i64 (okE c d)) else K (.i .i64 0)) := by
    rcases okE_cases a b with ⟨h1, e1⟩ | ⟨h1, e1⟩ <;> rcases okE_cases c d with ⟨h2, e2⟩ | ⟨h2, e2⟩ <;> rw [e1] <;> try rw [e2]
    · exact K_of hk (by simp [okE2, h1, h2])
    · exact K_of hk (by simp [okE2, h1, h2])
    · exact K_of hk (by simp [okE2, h1])
    · exact K_of hk (by simp [okE2, h1])
  simp only [hp.1, hp.2, true_and, and_true, and_self]
  exact key
theorem ok_frac_both : SoundN Go.Proofs.Try.prog 42 S_frac_both := by
  refine soundN_of sg_frac_both fun args H K hS => ?_
  unfold S_frac_both at hS
  split at hS
  · rename_i a b c d
    have hS1 := key_frac_both a b c d (K := fun a => plainA a = true ∧ K a) hS.1 ⟨by simp [plainA, plainL], hS.2⟩
    refine ⟨by simp [plainA, plainL], ?_⟩
    rw [nf_frac_both a b c d fun a => plainA a = true ∧ K a]
    exact hS1
  · exact hS.elim

def FM_frac_mul : FM := ⟨16, [(RV.cells 4 2)], (MC.seq (MC.ops [⟨(some 4), none, (MI.alloc 71 [(AV.i .u64 0), (AV.i .u64 0)])⟩]) (MC.seq (MC.ops [⟨(some 8), none, (MI.mv (MO.t 0))⟩, ⟨(some 9), none, (MI.mv (MO.t 1))⟩, ⟨(some 10), none, (MI.callN 61 [(MO.t 8), (MO.t 9)])⟩, ⟨(some 7), none, (MI.mv (MO.t 10))⟩, ⟨(some 11), none, (MI.ext (MO.t 7) 0)⟩, ⟨(some 12), none, (MI.ext (MO.t 7) 1)⟩, ⟨(some 5), none, (MI.mv (MO.t 11))⟩, ⟨(some 6), none, (MI.mv (MO.t 12))⟩]) (MC.seq (MC.ops [⟨(some 13), none, (MI.mv (MO.t 5))⟩, ⟨(some 14), none, (MI.mv (MO.t 6))⟩, ⟨(some 15), none, (MI.build [(AV.i .u64 0), (AV.i .u64 0)] [(0, 1, (MO.t 13)), (1, 1, (MO.t 14))])⟩, ⟨none, none, (MI.store 2 (MO.t 4) (MO.t 15))⟩]) MC.ret)))⟩
theorem FMc_frac_mul : compF Go.Proofs.Try.prog (eqsP Go.Proofs.Try.prog) (neutOf [61]) (neutOf [61]) 45 = some FM_frac_mul := by kernel_rfl
def G_frac_mul : Gam := mkG [(61, S_math_bits_Mul64)] []
theorem sg_frac_mul : SoundG Go.Proofs.Try.prog 45 (WF G_frac_mul 0 FM_frac_mul) := WF_sound (allD_ok (n := G_frac_mul.n) (l := [61]) ⟨det_math_bits_Mul64, trivial⟩) mixP (mkG_ok (n := [(61, S_math_bits_Mul64)]) (g := []) ⟨ok_math_bits_Mul64, trivial⟩ trivial) eqsP_ok FMc_frac_mul
def S_frac_mul : NSpec := fun args _ K => match args with
  | [(.i .u64 x), (.i .u64 y)] => (U64 x ∧ U64 y) ∧ K (.agg [(.i .u64 (x * y / 18446744073709551616)), (.i .u64 (x * y % 18446744073709551616))])
  | _ => False
theorem det_frac_mul : DetN S_frac_mul := by
  intro args H K h
  unfold S_frac_mul at h
  split at h
  · exact ⟨_, h.2, fun H' K' _ k => ⟨h.1, k⟩⟩
  · exact h.elim

def NF_frac_mul (x y : Int) (K : AV → Prop) : Prop :=
 ((U64 x ∧ U64 y) ∧
 K (.agg [(.i .u64 (x * y / 18446744073709551616)), (.i .u64 (x * y % 18446744073709551616))]))
theorem nf_frac_mul (x y : Int) (K : AV → Prop) : WF G_frac_mul 0 FM_frac_mul [(.i .u64 x), (.i .u64 y)] [] (fun a _ => K a) = NF_frac_mul x y K := by kernel_rfl
theorem key_frac_mul (x y : Int) {K : AV → Prop} (hp : U64 x ∧ U64 y) (hk : K (.agg [(.i .u64 (x * y / 18446744073709551616)), (.i .u64 (x * y % 18446744073709551616))])) : NF_frac_mul x y K := by
  exact ⟨hp, hk⟩
theorem ok_frac_mul : SoundN Go.Proofs.Try.prog 45 S_frac_mul := by
  refine soundN_of sg_frac_mul fun args H K hS => ?_
  unfold S_frac_mul at hS
  split at hS
  · rename_i x y
    have hS1 := key_frac_mul x y (K := fun a => plainA a = true ∧ K a) hS.1 ⟨by simp [plainA, plainL], hS.2⟩
    refine ⟨by simp [plainA, plainL], ?_⟩
    rw [nf_frac_mul x y fun a => plainA a = true ∧ K a]
    exact hS1
  · exact hS.elim

def FM_frac_wide_cmp : FM := ⟨17, [(RV.tmp 4)], (MC.seq (MC.ops [⟨(some 2), none, (MI.box 71 (MO.t 0))⟩, ⟨(some 3), none, (MI.box 71 (MO.t 1))⟩, ⟨(some 4), none, (MI.mv (MO.c (AV.i .i64 0)))⟩]) (MC.seq (MC.dr (SchM.op ⟨(some 5), none, (MI.faddr 0 (MO.t 2))⟩ (SchM.op ⟨(some 7), none, (MI.faddr 0 (MO.t 3))⟩ (SchM.op ⟨(some 10), none, (MI.faddr 1 (MO.t 2))⟩ (SchM.op ⟨(some 12), none, (MI.faddr 1 (MO.t 3))⟩ (SchM.alt ⟨(some 6), none, (MI.load (MO.t 5))⟩ (SchM.alt ⟨(some 8), none, (MI.load (MO.t 7))⟩ (SchM.alt ⟨(some 9), none, (MI.callN 64 [(MO.t 6), (MO.t 8)])⟩ (SchM.alt ⟨(some 11), none, (MI.load (MO.t 10))⟩ (SchM.op ⟨(some 13), none, (MI.load (MO.t 12))⟩ (SchM.op ⟨(some 14), none, (MI.callN 64 [(MO.t 11), (MO.t 13)])⟩ (SchM.op ⟨(some 15), none, (MI.bslice 3 2 [(AV.i .i64 0), (AV.i .i64 0)] [(0, 1, (MO.t 9)), (1, 1, (MO.t 14))])⟩ (SchM.op ⟨(some 16), none, (MI.callG 63 [(MO.t 15)])⟩ (SchM.op ⟨(some 4), none, (MI.mv (MO.t 16))⟩ SchM.done))))) (SchM.op ⟨(some 13), none, (MI.load (MO.t 12))⟩ (SchM.op ⟨(some 11), none, (MI.load (MO.t 10))⟩ (SchM.op ⟨(some 14), none, (MI.callN 64 [(MO.t 11), (MO.t 13)])⟩ (SchM.op ⟨(some 15), none, (MI.bslice 3 2 [(AV.i .i64 0), (AV.i .i64 0)] [(0, 1, (MO.t 9)), (1, 1, (MO.t 14))])⟩ (SchM.op ⟨(some 16), none, (MI.callG 63 [(MO.t 15)])⟩ (SchM.op ⟨(some 4), none, (MI.mv (MO.t 16))⟩ SchM.done))))))) (SchM.alt ⟨(some 11), none, (MI.load (MO.t 10))⟩ (SchM.alt ⟨(some 9), none, (MI.callN 64 [(MO.t 6), (MO.t 8)])⟩ (SchM.op ⟨(some 13), none, (MI.load (MO.t 12))⟩ (SchM.op ⟨(some 14), none, (MI.callN 64 [(MO.t 11), (MO.t 13)])⟩ (SchM.op ⟨(some 15), none, (MI.bslice 3 2 [(AV.i .i64 0), (AV.i .i64 0)] [(0, 1, (MO.t 9)), (1, 1, (MO.t 14))])⟩ (SchM.op ⟨(some 16), none, (MI.callG 63 [(MO.t 15)])⟩ (SchM.op ⟨(some 4), none, (MI.mv (MO.t 16))⟩ SchM.done))))) (SchM.op ⟨(some 13), none, (MI.load (MO.t 12))⟩ (SchM.op ⟨(some 9), none, (MI.callN 64 [(MO.t 6), (MO.t 8)])⟩ (SchM.op ⟨(some 14), none, (MI.callN 64 [(MO.t 11), (MO.t 13)])⟩ (SchM.op ⟨(some 15), none, (MI.bslice 3 2 [(AV.i .i64 0), (AV.i .i64 0)] [(0, 1, (MO.t 9)), (1, 1, (MO.t 14))])⟩ (SchM.op ⟨(some 16), none, (MI.callG 63 [(MO.t 15)])⟩ (SchM.op ⟨(some 4), none, (MI.mv (MO.t 16))⟩ SchM.done))))))) (SchM.op ⟨(some 13), none, (MI.load (MO.t 12))⟩ (SchM.alt ⟨(some 9), none, (MI.callN 64 [(MO.t 6), (MO.t 8)])⟩ (SchM.op ⟨(some 11), none, (MI.load (MO.t 10))⟩ (SchM.op ⟨(some 14), none, (MI.callN 64 [(MO.t 11), (MO.t 13)])⟩ (SchM.op ⟨(some 15), none, (MI.bslice 3 2 [(AV.i .i64 0), (AV.i .i64 0)] [(0, 1, (MO.t 9)), (1, 1, (MO.t 14))])⟩ (SchM.op ⟨(some 16), none, (MI.callG 63 [(MO.t 15)])⟩ (SchM.op ⟨(some 4), none, (MI.mv (MO.t 16))⟩ SchM.done))))) (SchM.op ⟨(some 11), none, (MI.load (MO.t 10))⟩ (SchM.op ⟨(some 9), none, (MI.callN 64 [(MO.t 6), (MO.t 8)])⟩ (SchM.op ⟨(some 14), none, (MI.callN 64 [(MO.t 11), (MO.t 13)])⟩ (SchM.op ⟨(some 15), none, (MI.bslice 3 2 [(AV.i .i64 0), (AV.i .i64 0)] [(0, 1, (MO.t 9)), (1, 1, (MO.t 14))])⟩ (SchM.op ⟨(some 16), none, (MI.callG 63 [(MO.t 15)])⟩ (SchM.op ⟨(some 4), none, (MI.mv (MO.t 16))⟩ SchM.done)))))))))) (SchM.alt ⟨(some 11), none, (MI.load (MO.t 10))⟩ (SchM.alt ⟨(some 8), none, (MI.load (MO.t 7))⟩ (SchM.alt ⟨(some 9), none, (MI.callN 64 [(MO.t 6), (MO.t 8)])⟩ (SchM.op ⟨(some 13), none, (MI.load (MO.t 12))⟩ (SchM.op ⟨(some 14), none, (MI.callN 64 [(MO.t 11), (MO.t 13)])⟩ (SchM.op ⟨(some 15), none, (MI.bslice 3 2 [(AV.i .i64 0), (AV.i .i64 0)] [(0, 1, (MO.t 9)), (1, 1, (MO.t 14))])⟩ (SchM.op ⟨(some 16), none, (MI.callG 63 [(MO.t 15)])⟩ (SchM.op ⟨(some 4), none, (MI.mv (MO.t 16))⟩ SchM.done))))) (SchM.op ⟨(some 13), none, (MI.load (MO.t 12))⟩ (SchM.op ⟨(some 9), none, (MI.callN 64 [(MO.t 6), (MO.t 8)])⟩ (SchM.op ⟨(some 14), none, (MI.callN 64 [(MO.t 11), (MO.t 13)])⟩ (SchM.op ⟨(some 15), none, (MI.bslice 3 2 [(AV.i .i64 0), (AV.i .i64 0)] [(0, 1, (MO.t 9)), (1, 1, (MO.t 14))])⟩ (SchM.op ⟨(some 16), none, (MI.callG 63 [(MO.t 15)])⟩ (SchM.op ⟨(some 4), none, (MI.mv (MO.t 16))⟩ SchM.done))))))) (SchM.op ⟨(some 13), none, (MI.load (MO.t 12))⟩ (SchM.op ⟨(some 8), none, (MI.load (MO.t 7))⟩ (SchM.op ⟨(some 9), none, (MI.callN 64 [(MO.t 6), (MO.t 8)])⟩ (SchM.op ⟨(some 14), none, (MI.callN 64 [(MO.t 11), (MO.t 13)])⟩ (SchM.op ⟨(some 15), none, (MI.bslice 3 2 [(AV.i .i64 0), (AV.i .i64 0)] [(0, 1, (MO.t 9)), (1, 1, (MO.t 14))])⟩ (SchM.op ⟨(some 16), none, (MI.callG 63 [(MO.t 15)])⟩ (SchM.op ⟨(some 4), none, (MI.mv (MO.t 16))⟩ SchM.done)))))))) (SchM.op ⟨(some 13), none, (MI.load (MO.t 12))⟩ (SchM.alt ⟨(some 8), none, (MI.load (MO.t 7))⟩ (SchM.alt ⟨(some 9), none, (MI.callN 64 [(MO.t 6), (MO.t 8)])⟩ (SchM.op ⟨(some 11), none, (MI.load (MO.t 10))⟩ (SchM.op ⟨(some 14), none, (MI.callN 64 [(MO.t 11), (MO.t 13)])⟩ (SchM.op ⟨(some 15), none, (MI.bslice 3 2 [(AV.i .i64 0), (AV.i .i64 0)] [(0, 1, (MO.t 9)), (1, 1, (MO.t 14))])⟩ (SchM.op ⟨(some 16), none, (MI.callG 63 [(MO.t 15)])⟩ (SchM.op ⟨(some 4), none, (MI.mv (MO.t 16))⟩ SchM.done))))) (SchM.op ⟨(some 11), none, (MI.load (MO.t 10))⟩ (SchM.op ⟨(some 9), none, (MI.callN 64 [(MO.t 6), (MO.t 8)])⟩ (SchM.op ⟨(some 14), none, (MI.callN 64 [(MO.t 11), (MO.t 13)])⟩ (SchM.op ⟨(some 15), none, (MI.bslice 3 2 [(AV.i .i64 0), (AV.i .i64 0)] [(0, 1, (MO.t 9)), (1, 1, (MO.t 14))])⟩ (SchM.op ⟨(some 16), none, (MI.callG 63 [(MO.t 15)])⟩ (SchM.op ⟨(some 4), none, (MI.mv (MO.t 16))⟩ SchM.done))))))) (SchM.op ⟨(some 11), none, (MI.load (MO.t 10))⟩ (SchM.op ⟨(some 8), none, (MI.load (MO.t 7))⟩ (SchM.op ⟨(some 9), none, (MI.callN 64 [(MO.t 6), (MO.t 8)])⟩ (SchM.op ⟨(some 14), none, (MI.callN 64 [(MO.t 11), (MO.t 13)])⟩ (SchM.op ⟨(some 15), none, (MI.bslice 3 2 [(AV.i .i64 0), (AV.i .i64 0)] [(0, 1, (MO.t 9)), (1, 1, (MO.t 14))])⟩ (SchM.op ⟨(some 16), none, (MI.callG 63 [(MO.t 15)])⟩ (SchM.op ⟨(some 4), none, (MI.mv (MO.t 16))⟩ SchM.done))))))))))) (SchM.alt ⟨(some 8), none, (MI.load (MO.t 7))⟩ (SchM.alt ⟨(some 6), none, (MI.load (MO.t 5))⟩ (SchM.alt ⟨(some 9), none, (MI.callN 64 [(MO.t 6), (MO.t 8)])⟩ (SchM.alt ⟨(some 11), none, (MI.load (MO.t 10))⟩ (SchM.op ⟨(some 13), none, (MI.load (MO.t 12))⟩ (SchM.op ⟨(some 14), none, (MI.callN 64 [(MO.t 11), (MO.t 13)])⟩ (SchM.op ⟨(some 15), none, (MI.bslice 3 2 [(AV.i .i64 0), (AV.i .i64 0)] [(0, 1, (MO.t 9)), (1, 1, (MO.t 14))])⟩ (SchM.op ⟨(some 16), none, (MI.callG 63 [(MO.t 15)])⟩ (SchM.op ⟨(some 4), none, (MI.mv (MO.t 16))⟩ SchM.done))))) (SchM.op ⟨(some 13), none, (MI.load (MO.t 12))⟩ (SchM.op ⟨(some 11), none, (MI.load (MO.t 10))⟩ (SchM.op ⟨(some 14), none, (MI.callN 64 [(MO.t 11), (MO.t 13)])⟩ (SchM.op ⟨(some 15), none, (MI.bslice 3 2 [(AV.i .i64 0), (AV.i .i64 0)] [(0, 1, (MO.t 9)), (1, 1, (MO.t 14))])⟩ (SchM.op ⟨(some 16), none, (MI.callG 63 [(MO.t 15)])⟩ (SchM.op ⟨(some 4), none, (MI.mv (MO.t 16))⟩ SchM.done))))))) (SchM.alt ⟨(some 11), none, (MI.load (MO.t 10))⟩ (SchM.alt ⟨(some 9), none, (MI.callN 64 [(MO.t 6), (MO.t 8)])⟩ (SchM.op ⟨(some 13), none, (MI.load (MO.t 12))⟩ (SchM.op ⟨(some 14), none, (MI.callN 64 [(MO.t 11), (MO.t 13)])⟩ (SchM.op ⟨(some 15), none, (MI.bslice 3 2 [(AV.i .i64 0), (AV.i .i64 0)] [(0, 1, (MO.t 9)), (1, 1, (MO.t 14))])⟩ (SchM.op ⟨(some 16), none, (MI.callG 63 [(MO.t 15)])⟩ (SchM.op ⟨(some 4), none, (MI.mv (MO.t 16))⟩ SchM.done))))) (SchM.op ⟨(some 13), none, (MI.load (MO.t 12))⟩ (SchM.op ⟨(some 9), none, (MI.callN 64 [(MO.t 6), (MO.t 8)])⟩ (SchM.op ⟨(some 14), none, (MI.callN 64 [(MO.t 11), (MO.t 13)])⟩ (SchM.op ⟨(some 15), none, (MI.bslice 3 2 [(AV.i .i64 0), (AV.i .i64 0)] [(0, 1, (MO.t 9)), (1, 1, (MO.t 14))])⟩ (SchM.op ⟨(some 16), none, (MI.callG 63 [(MO.t 15)])⟩ (SchM.op ⟨(some 4), none, (MI.mv (MO.t 16))⟩ SchM.done))))))) (SchM.op ⟨(some 13), none, (MI.load (MO.t 12))⟩ (SchM.alt ⟨(some 9), none, (MI.callN 64 [(MO.t 6), (MO.t 8)])⟩ (SchM.op ⟨(some 11), none, (MI.load (MO.t 10))⟩ (SchM.op ⟨(some 14), none, (MI.callN 64 [(MO.t 11), (MO.t 13)])⟩ (SchM.op ⟨(some 15), none, (MI.bslice 3 2 [(AV.i .i64 0), (AV.i .i64 0)] [(0, 1, (MO.t 9)), (1, 1, (MO.t 14))])⟩ (SchM.op ⟨(some 16), none, (MI.callG 63 [(MO.t 15)])⟩ (SchM.op ⟨(some 4), none, (MI.mv (MO.t 16))⟩ SchM.done))))) (SchM.op ⟨(some 11), none, (MI.load (MO.t 10))⟩ (SchM.op ⟨(some 9), none, (MI.callN 64 [(MO.t 6), (MO.t 8)])⟩ (SchM.op ⟨(some 14), none, (MI.callN 64 [(MO.t 11), (MO.t 13)])⟩ (SchM.op ⟨(some 15), none, (MI.bslice 3 2 [(AV.i .i64 0), (AV.i .i64 0)] [(0, 1, (MO.t 9)), (1, 1, (MO.t 14))])⟩ (SchM.op ⟨(some 16), none, (MI.callG 63 [(MO.t 15)])⟩ (SchM.op ⟨(some 4), none, (MI.mv (MO.t 16))⟩ SchM.done)))))))))) (SchM.alt ⟨(some 11), none, (MI.load (MO.t 10))⟩ (SchM.alt ⟨(some 6), none, (MI.load (MO.t 5))⟩ (SchM.alt ⟨(some 9), none, (MI.callN 64 [(MO.t 6), (MO.t 8)])⟩ (SchM.op ⟨(some 13), none, (MI.load (MO.t 12))⟩ (SchM.op ⟨(some 14), none, (MI.callN 64 [(MO.t 11), (MO.t 13)])⟩ (SchM.op ⟨(some 15), none, (MI.bslice 3 2 [(AV.i .i64 0), (AV.i .i64 0)] [(0, 1, (MO.t 9)), (1, 1, (MO.t 14))])⟩ (SchM.op ⟨(some 16), none, (MI.callG 63 [(MO.t 15)])⟩ (SchM.op ⟨(some 4), none, (MI.mv (MO.t 16))⟩ SchM.done))))) (SchM.op ⟨(some 13), none, (MI.load (MO.t 12))⟩ (SchM.op ⟨(some 9), none, (MI.callN 64 [(MO.t 6), (MO.t 8)])⟩ (SchM.op ⟨(some 14), none, (MI.callN 64 [(MO.t 11), (MO.t 13)])⟩ (SchM.op ⟨(some 15), none, (MI.bslice 3 2 [(AV.i .i64 0), (AV.i .i64 0)] [(0, 1, (MO.t 9)), (1, 1, (MO.t 14))])⟩ (SchM.op ⟨(some 16), none, (MI.callG 63 [(MO.t 15)])⟩ (SchM.op ⟨(some 4), none, (MI.mv (MO.t 16))⟩ SchM.done))))))) (SchM.op ⟨(some 13), none, (MI.load (MO.t 12))⟩ (SchM.op ⟨(some 6), none, (MI.load (MO.t 5))⟩ (SchM.op ⟨(some 9), none, (MI.callN 64 [(MO.t 6), (MO.t 8)])⟩ (SchM.op ⟨(some 14), none, (MI.callN 64 [(MO.t 11), (MO.t 13)])⟩ (SchM.op ⟨(some 15), none, (MI.bslice 3 2 [(AV.i .i64 0), (AV.i .i64 0)] [(0, 1, (MO.t 9)), (1, 1, (MO.t 14))])⟩ (SchM.op ⟨(some 16), none, (MI.callG 63 [(MO.t 15)])⟩ (SchM.op ⟨(some 4), none, (MI.mv (MO.t 16))⟩ SchM.done)))))))) (SchM.op ⟨(some 13), none, (MI.load (MO.t 12))⟩ (SchM.alt ⟨(some 6), none, (MI.load (MO.t 5))⟩ (SchM.alt ⟨(some 9), none, (MI.callN 64 [(MO.t 6), (MO.t 8)])⟩ (SchM.op ⟨(some 11), none, (MI.load (MO.t 10))⟩ (SchM.op ⟨(some 14), none, (MI.callN 64 [(MO.t 11), (MO.t 13)])⟩ (SchM.op ⟨(some 15), none, (MI.bslice 3 2 [(AV.i .i64 0), (AV.i .i64 0)] [(0, 1, (MO.t 9)), (1, 1, (MO.t 14))])⟩ (SchM.op ⟨(some 16), none, (MI.callG 63 [(MO.t 15)])⟩ (SchM.op ⟨(some 4), none, (MI.mv (MO.t 16))⟩ SchM.done))))) (SchM.op ⟨(some 11), none, (MI.load (MO.t 10))⟩ (SchM.op ⟨(some 9), none, (MI.callN 64 [(MO.t 6), (MO.t 8)])⟩ (SchM.op ⟨(some 14), none, (MI.callN 64 [(MO.t 11), (MO.t 13)])⟩ (SchM.op ⟨(some 15), none, (MI.bslice 3 2 [(AV.i .i64 0), (AV.i .i64 0)] [(0, 1, (MO.t 9)), (1, 1, (MO.t 14))])⟩ (SchM.op ⟨(some 16), none, (MI.callG 63 [(MO.t 15)])⟩ (SchM.op ⟨(some 4), none, (MI.mv (MO.t 16))⟩ SchM.done))))))) (SchM.op ⟨(some 11), none, (MI.load (MO.t 10))⟩ (SchM.op ⟨(some 6), none, (MI.load (MO.t 5))⟩ (SchM.op ⟨(some 9), none, (MI.callN 64 [(MO.t 6), (MO.t 8)])⟩ (SchM.op ⟨(some 14), none, (MI.callN 64 [(MO.t 11), (MO.t 13)])⟩ (SchM.op ⟨(some 15), none, (MI.bslice 3 2 [(AV.i .i64 0), (AV.i .i64 0)] [(0, 1, (MO.t 9)), (1, 1, (MO.t 14))])⟩ (SchM.op ⟨(some 16), none, (MI.callG 63 [(MO.t 15)])⟩ (SchM.op ⟨(some 4), none, (MI.mv (MO.t 16))⟩ SchM.done))))))))))) (SchM.alt ⟨(some 11), none, (MI.load (MO.t 10))⟩ (SchM.alt ⟨(some 6), none, (MI.load (MO.t 5))⟩ (SchM.alt ⟨(some 8), none, (MI.load (MO.t 7))⟩ (SchM.alt ⟨(some 9), none, (MI.callN 64 [(MO.t 6), (MO.t 8)])⟩ (SchM.op ⟨(some 13), none, (MI.load (MO.t 12))⟩ (SchM.op ⟨(some 14), none, (MI.callN 64 [(MO.t 11), (MO.t 13)])⟩ (SchM.op ⟨(some 15), none, (MI.bslice 3 2 [(AV.i .i64 0), (AV.i .i64 0)] [(0, 1, (MO.t 9)), (1, 1, (MO.t 14))])⟩ (SchM.op ⟨(some 16), none, (MI.callG 63 [(MO.t 15)])⟩ (SchM.op ⟨(some 4), none, (MI.mv (MO.t 16))⟩ SchM.done))))) (SchM.op ⟨(some 13), none, (MI.load (MO.t 12))⟩ (SchM.op ⟨(some 9), none, (MI.callN 64 [(MO.t 6), (MO.t 8)])⟩ (SchM.op ⟨(some 14), none, (MI.callN 64 [(MO.t 11), (MO.t 13)])⟩ (SchM.op ⟨(some 15), none, (MI.bslice 3 2 [(AV.i .i64 0), (AV.i .i64 0)] [(0, 1, (MO.t 9)), (1, 1, (MO.t 14))])⟩ (SchM.op ⟨(some 16), none, (MI.callG 63 [(MO.t 15)])⟩ (SchM.op ⟨(some 4), none, (MI.mv (MO.t 16))⟩ SchM.done))))))) (SchM.op ⟨(some 13), none, (MI.load (MO.t 12))⟩ (SchM.op ⟨(some 8), none, (MI.load (MO.t 7))⟩ (SchM.op ⟨(some 9), none, (MI.callN 64 [(MO.t 6), (MO.t 8)])⟩ (SchM.op ⟨(some 14), none, (MI.callN 64 [(MO.t 11), (MO.t 13)])⟩ (SchM.op ⟨(some 15), none, (MI.bslice 3 2 [(AV.i .i64 0), (AV.i .i64 0)] [(0, 1, (MO.t 9)), (1, 1, (MO.t 14))])⟩ (SchM.op ⟨(some 16), none, (MI.callG 63 [(MO.t 15)])⟩ (SchM.op ⟨(some 4), none, (MI.mv (MO.t 16))⟩ SchM.done)))))))) (SchM.alt ⟨(some 8), none, (MI.load (MO.t 7))⟩ (SchM.alt ⟨(some 6), none, (MI.load (MO.t 5))⟩ (SchM.alt ⟨(some 9), none, (MI.callN 64 [(MO.t 6), (MO.t 8)])⟩ (SchM.op ⟨(some 13), none, (MI.load (MO.t 12))⟩ (SchM.op ⟨(some 14), none, (MI.callN 64 [(MO.t 11), (MO.t 13)])⟩ (SchM.op ⟨(some 15), none, (MI.bslice 3 2 [(AV.i .i64 0), (AV.i .i64 0)] [(0, 1, (MO.t 9)), (1, 1, (MO.t 14))])⟩ (SchM.op ⟨(some 16), none, (MI.callG 63 [(MO.t 15)])⟩ (SchM.op ⟨(some 4), none, (MI.mv (MO.t 16))⟩ SchM.done))))) (SchM.op ⟨(some 13), none, (MI.load (MO.t 12))⟩ (SchM.op ⟨(some 9), none, (MI.callN 64 [(MO.t 6), (MO.t 8)])⟩ (SchM.op ⟨(some 14), none, (MI.callN 64 [(MO.t 11), (MO.t 13)])⟩ (SchM.op ⟨(some 15), none, (MI.bslice 3 2 [(AV.i .i64 0), (AV.i .i64 0)] [(0, 1, (MO.t 9)), (1, 1, (MO.t 14))])⟩ (SchM.op ⟨(some 16), none, (MI.callG 63 [(MO.t 15)])⟩ (SchM.op ⟨(some 4), none, (MI.mv (MO.t 16))⟩ SchM.done))))))) (SchM.op ⟨(some 13), none, (MI.load (MO.t 12))⟩ (SchM.op ⟨(some 6), none, (MI.load (MO.t 5))⟩ (SchM.op ⟨(some 9), none, (MI.callN 64 [(MO.t 6), (MO.t 8)])⟩ (SchM.op ⟨(some 14), none, (MI.callN 64 [(MO.t 11), (MO.t 13)])⟩ (SchM.op ⟨(some 15), none, (MI.bslice 3 2 [(AV.i .i64 0), (AV.i .i64 0)] [(0, 1, (MO.t 9)), (1, 1, (MO.t 14))])⟩ (SchM.op ⟨(some 16), none, (MI.callG 63 [(MO.t 15)])⟩ (SchM.op ⟨(some 4), none, (MI.mv (MO.t 16))⟩ SchM.done)))))))) (SchM.op ⟨(some 13), none, (MI.load (MO.t 12))⟩ (SchM.alt ⟨(some 6), none, (MI.load (MO.t 5))⟩ (SchM.op ⟨(some 8), none, (MI.load (MO.t 7))⟩ (SchM.op ⟨(some 9), none, (MI.callN 64 [(MO.t 6), (MO.t 8)])⟩ (SchM.op ⟨(some 14), none, (MI.callN 64 [(MO.t 11), (MO.t 13)])⟩ (SchM.op ⟨(some 15), none, (MI.bslice 3 2 [(AV.i .i64 0), (AV.i .i64 0)] [(0, 1, (MO.t 9)), (1, 1, (MO.t 14))])⟩ (SchM.op ⟨(some 16), none, (MI.callG 63 [(MO.t 15)])⟩ (SchM.op ⟨(some 4), none, (MI.mv (MO.t 16))⟩ SchM.done)))))) (SchM.op ⟨(some 8), none, (MI.load (MO.t 7))⟩ (SchM.op ⟨(some 6), none, (MI.load (MO.t 5))⟩ (SchM.op ⟨(some 9), none, (MI.callN 64 [(MO.t 6), (MO.t 8)])⟩ (SchM.op ⟨(some 14), none, (MI.callN 64 [(MO.t 11), (MO.t 13)])⟩ (SchM.op ⟨(some 15), none, (MI.bslice 3 2 [(AV.i .i64 0), (AV.i .i64 0)] [(0, 1, (MO.t 9)), (1, 1, (MO.t 14))])⟩ (SchM.op ⟨(some 16), none, (MI.callG 63 [(MO.t 15)])⟩ (SchM.op ⟨(some 4), none, (MI.mv (MO.t 16))⟩ SchM.done))))))))))) (SchM.op ⟨(some 13), none, (MI.load (MO.t 12))⟩ (SchM.alt ⟨(some 6), none, (MI.load (MO.t 5))⟩ (SchM.alt ⟨(some 8), none, (MI.load (MO.t 7))⟩ (SchM.alt ⟨(some 9), none, (MI.callN 64 [(MO.t 6), (MO.t 8)])⟩ (SchM.op ⟨(some 11), none, (MI.load (MO.t 10))⟩ (SchM.op ⟨(some 14), none, (MI.callN 64 [(MO.t 11), (MO.t 13)])⟩ (SchM.op ⟨(some 15), none, (MI.bslice 3 2 [(AV.i .i64 0), (AV.i .i64 0)] [(0, 1, (MO.t 9)), (1, 1, (MO.t 14))])⟩ (SchM.op ⟨(some 16), none, (MI.callG 63 [(MO.t 15)])⟩ (SchM.op ⟨(some 4), none, (MI.mv (MO.t 16))⟩ SchM.done))))) (SchM.op ⟨(some 11), none, (MI.load (MO.t 10))⟩ (SchM.op ⟨(some 9), none, (MI.callN 64 [(MO.t 6), (MO.t 8)])⟩ (SchM.op ⟨(some 14), none, (MI.callN 64 [(MO.t 11), (MO.t 13)])⟩ (SchM.op ⟨(some 15), none, (MI.bslice 3 2 [(AV.i .i64 0), (AV.i .i64 0)] [(0, 1, (MO.t 9)), (1, 1, (MO.t 14))])⟩ (SchM.op ⟨(some 16), none, (MI.callG 63 [(MO.t 15)])⟩ (SchM.op ⟨(some 4), none, (MI.mv (MO.t 16))⟩ SchM.done))))))) (SchM.op ⟨(some 11), none, (MI.load (MO.t 10))⟩ (SchM.op ⟨(some 8), none, (MI.load (MO.t 7))⟩ (SchM.op ⟨(some 9), none, (MI.callN 64 [(MO.t 6), (MO.t 8)])⟩ (SchM.op ⟨(some 14), none, (MI.callN 64 [(MO.t 11), (MO.t 13)])⟩ (SchM.op ⟨(some 15), none, (MI.bslice 3 2 [(AV.i .i64 0), (AV.i .i64 0)] [(0, 1, (MO.t 9)), (1, 1, (MO.t 14))])⟩ (SchM.op ⟨(some 16), none, (MI.callG 63 [(MO.t 15)])⟩ (SchM.op ⟨(some 4), none, (MI.mv (MO.t 16))⟩ SchM.done)))))))) (SchM.alt ⟨(some 8), none, (MI.load (MO.t 7))⟩ (SchM.alt ⟨(some 6), none, (MI.load (MO.t 5))⟩ (SchM.alt ⟨(some 9), none, (MI.callN 64 [(MO.t 6), (MO.t 8)])⟩ (SchM.op ⟨(some 11), none, (MI.load (MO.t 10))⟩ (SchM.op ⟨(some 14), none, (MI.callN 64 [(MO.t 11), (MO.t 13)])⟩ (SchM.op ⟨(some 15), none, (MI.bslice 3 2 [(AV.i .i64 0), (AV.i .i64 0)] [(0, 1, (MO.t 9)), (1, 1, (MO.t 14))])⟩ (SchM.op ⟨(some 16), none, (MI.callG 63 [(MO.t 15)])⟩ (SchM.op ⟨(some 4), none, (MI.mv (MO.t 16))⟩ SchM.done))))) (SchM.op ⟨(some 11), none, (MI.load (MO.t 10))⟩ (SchM.op ⟨(some 9), none, (MI.callN 64 [(MO.t 6), (MO.t 8)])⟩ (SchM.op ⟨(some 14), none, (MI.callN 64 [(MO.t 11), (MO.t 13)])⟩ (SchM.op ⟨(some 15), none, (MI.bslice 3 2 [(AV.i .i64 0), (AV.i .i64 0)] [(0, 1, (MO.t 9)), (1, 1, (MO.t 14))])⟩ (SchM.op ⟨(some 16), none, (MI.callG 63 [(MO.t 15)])⟩ (SchM.op ⟨(some 4), none, (MI.mv (MO.t 16))⟩ SchM.done))))))) (SchM.op ⟨(some 11), none, (MI.load (MO.t 10))⟩ (SchM.op ⟨(some 6), none, (MI.load (MO.t 5))⟩ (SchM.op ⟨(some 9), none, (MI.callN 64 [(MO.t 6), (MO.t 8)])⟩ (SchM.op ⟨(some 14), none, (MI.callN 64 [(MO.t 11), (MO.t 13)])⟩ (SchM.op ⟨(some 15), none, (MI.bslice 3 2 [(AV.i .i64 0), (AV.i .i64 0)] [(0, 1, (MO.t 9)), (1, 1, (MO.t 14))])⟩ (SchM.op ⟨(some 16), none, (MI.callG 63 [(MO.t 15)])⟩ (SchM.op ⟨(some 4), none, (MI.mv (MO.t 16))⟩ SchM.done)))))))) (SchM.op ⟨(some 11), none, (MI.load (MO.t 10))⟩ (SchM.alt ⟨(some 6), none, (MI.load (MO.t 5))⟩ (SchM.op ⟨(some 8), none, (MI.load (MO.t 7))⟩ (SchM.op ⟨(some 9), none, (MI.callN 64 [(MO.t 6), (MO.t 8)])⟩ (SchM.op ⟨(some 14), none, (MI.callN 64 [(MO.t 11), (MO.t 13)])⟩ (SchM.op ⟨(some 15), none, (MI.bslice 3 2 [(AV.i .i64 0), (AV.i .i64 0)] [(0, 1, (MO.t 9)), (1, 1, (MO.t 14))])⟩ (SchM.op ⟨(some 16), none, (MI.callG 63 [(MO.t 15)])⟩ (SchM.op ⟨(some 4), none, (MI.mv (MO.t 16))⟩ SchM.done)))))) (SchM.op ⟨(some 8), none, (MI.load (MO.t 7))⟩ (SchM.op ⟨(some 6), none, (MI.load (MO.t 5))⟩ (SchM.op ⟨(some 9), none, (MI.callN 64 [(MO.t 6), (MO.t 8)])⟩ (SchM.op ⟨(some 14), none, (MI.callN 64 [(MO.t 11), (MO.t 13)])⟩ (SchM.op ⟨(some 15), none, (MI.bslice 3 2 [(AV.i .i64 0), (AV.i .i64 0)] [(0, 1, (MO.t 9)), (1, 1, (MO.t 14))])⟩ (SchM.op ⟨(some 16), none, (MI.callG 63 [(MO.t 15)])⟩ (SchM.op ⟨(some 4), none, (MI.mv (MO.t 16))⟩ SchM.done)))))))))))))))))))) MC.ret))⟩
theorem FMc_frac_wide_cmp : compF Go.Proofs.Try.prog (eqsP Go.Proofs.Try.prog) (neutOf [64]) (neutOf [64]) 48 = some FM_frac_wide_cmp := by kernel_rfl
def G_frac_wide_cmp : Gam := mkG [(64, S_cmp_Compare_uint64)] [(63, WF G_cmp_Or_int 3 FM_cmp_Or_int)]
theorem sg_frac_wide_cmp : SoundG Go.Proofs.Try.prog 48 (WF G_frac_wide_cmp 0 FM_frac_wide_cmp) := WF_sound (allD_ok (n := G_frac_wide_cmp.n) (l := [64]) ⟨det_cmp_Compare_uint64, trivial⟩) mixP (mkG_ok (n := [(64, S_cmp_Compare_uint64)]) (g := [(63, WF G_cmp_Or_int 3 FM_cmp_Or_int)]) ⟨ok_cmp_Compare_uint64, trivial⟩ ⟨sg_cmp_Or_int, trivial⟩) eqsP_ok FMc_frac_wide_cmp
def S_frac_wide_cmp : NSpec := fun args _ K => match args with
  | [(.agg [(.i .u64 a), (.i .u64 b)]), (.agg [(.i .u64 c), (.i .u64 d)])] => ((U64 a ∧ U64 b) ∧ U64 c ∧ U64 d) ∧ K (.i .i64 (sgn (a * 18446744073709551616 + b - (c * 18446744073709551616 + d))))
  | _ => False
theorem det_frac_wide_cmp : DetN S_frac_wide_cmp := by
  intro args H K h
  unfold S_frac_wide_cmp at h
  split at h
  · exact ⟨_, h.2, fun H' K' _ k => ⟨h.1, k⟩⟩
  · exact h.elim

def NF_frac_wide_cmp (a b c d : Int) (K : AV → Prop) : Prop :=
 (((((bif ((sgn (a - c)) != 0) then K (.i .i64 (sgn (a - c)))
 else (bif ((sgn (b - d)) != 0) then K (.i .i64 (sgn (b - d)))
 else K (.i .i64 0))) ∧
 (bif ((sgn (a - c)) != 0) then K (.i .i64 (sgn (a - c)))
 else (bif ((sgn (b - d)) != 0) then K (.i .i64 (sgn (b - d)))
 else K (.i .i64 0)))) ∧
 (((bif ((sgn (a - c)) != 0) then K (.i .i64 (sgn (a - c)))
 else (bif ((sgn (b - d)) != 0) then K (.i .i64 (sgn (b - d)))
 else K (.i .i64 0))) ∧
 (bif ((sgn (a - c)) != 0) then K (.i .i64 (sgn (a - c)))
 else (bif ((sgn (b - d)) != 0) then K (.i .i64 (sgn (b - d)))
 else K (.i .i64 0)))) ∧
 ((bif ((sgn (a - c)) != 0) then K (.i .i64 (sgn (a - c)))
 else (bif ((sgn (b - d)) != 0) then K (.i .i64 (sgn (b - d)))
 else K (.i .i64 0))) ∧
 (bif ((sgn (a - c)) != 0) then K (.i .i64 (sgn (a - c)))
 else (bif ((sgn (b - d)) != 0) then K (.i .i64 (sgn (b - d)))
 else K (.i .i64 0)))))) ∧
 ((((bif ((sgn (a - c)) != 0) then K (.i .i64 (sgn (a - c)))
 else (bif ((sgn (b - d)) != 0) then K (.i .i64 (sgn (b - d)))
 else K (.i .i64 0))) ∧
 (bif ((sgn (a - c)) != 0) then K (.i .i64 (sgn (a - c)))
 else (bif ((sgn (b - d)) != 0) then K (.i .i64 (sgn (b - d)))
 else K (.i .i64 0)))) ∧
 (bif ((sgn (a - c)) != 0) then K (.i .i64 (sgn (a - c)))
 else (bif ((sgn (b - d)) != 0) then K (.i .i64 (sgn (b - d)))
 else K (.i .i64 0)))) ∧
 (((bif ((sgn (a - c)) != 0) then K (.i .i64 (sgn (a - c)))
 else (bif ((sgn (b - d)) != 0) then K (.i .i64 (sgn (b - d)))
 else K (.i .i64 0))) ∧
 (bif ((sgn (a - c)) != 0) then K (.i .i64 (sgn (a - c)))
 else (bif ((sgn (b - d)) != 0) then K (.i .i64 (sgn (b - d)))
 else K (.i .i64 0)))) ∧
 (bif ((sgn (a - c)) != 0) then K (.i .i64 (sgn (a - c)))
 else (bif ((sgn (b - d)) != 0) then K (.i .i64 (sgn (b - d)))
 else K (.i .i64 0)))))) ∧
 (((((bif ((sgn (a - c)) != 0) then K (.i .i64 (sgn (a - c)))
 else (bif ((sgn (b - d)) != 0) then K (.i .i64 (sgn (b - d)))
 else K (.i .i64 0))) ∧
 (bif ((sgn (a - c)) != 0) then K (.i .i64 (sgn (a - c)))
 else (bif ((sgn (b - d)) != 0) then K (.i .i64 (sgn (b - d)))
 else K (.i .i64 0)))) ∧
 (((bif ((sgn (a - c)) != 0) then K (.i .i64 (sgn (a - c)))
 else (bif ((sgn (b - d)) != 0) then K (.i .i64 (sgn (b - d)))
 else K (.i .i64 0))) ∧
 (bif ((sgn (a - c)) != 0) then K (.i .i64 (sgn (a - c)))
 else (bif ((sgn (b - d)) != 0) then K (.i .i64 (sgn (b - d)))
 else K (.i .i64 0)))) ∧
 ((bif ((sgn (a - c)) != 0) then K (.i .i64 (sgn (a - c)))
 else (bif ((sgn (b - d)) != 0) then K (.i .i64 (sgn (b - d)))
 else K (.i .i64 0))) ∧
 (bif ((sgn (a - c)) != 0) then K (.i .i64 (sgn (a - c)))
 else (bif ((sgn (b - d)) != 0) then K (.i .i64 (sgn (b - d)))
 else K (.i .i64 0)))))) ∧
 ((((bif ((sgn (a - c)) != 0) then K (.i .i64 (sgn (a - c)))
 else (bif ((sgn (b - d)) != 0) then K (.i .i64 (sgn (b - d)))
 else K (.i .i64 0))) ∧
 (bif ((sgn (a - c)) != 0) then K (.i .i64 (sgn (a - c)))
 else (bif ((sgn (b - d)) != 0) then K (.i .i64 (sgn (b - d)))
 else K (.i .i64 0)))) ∧
 (bif ((sgn (a - c)) != 0) then K (.i .i64 (sgn (a - c)))
 else (bif ((sgn (b - d)) != 0) then K (.i .i64 (sgn (b - d)))
 else K (.i .i64 0)))) ∧
 (((bif ((sgn (a - c)) != 0) then K (.i .i64 (sgn (a - c)))
 else (bif ((sgn (b - d)) != 0) then K (.i .i64 (sgn (b - d)))
 else K (.i .i64 0))) ∧
 (bif ((sgn (a - c)) != 0) then K (.i .i64 (sgn (a - c)))
 else (bif ((sgn (b - d)) != 0) then K (.i .i64 (sgn (b - d)))
 else K (.i .i64 0)))) ∧
 (bif ((sgn (a - c)) != 0) then K (.i .i64 (sgn (a - c)))
 else (bif ((sgn (b - d)) != 0) then K (.i .i64 (sgn (b - d)))
 else K (.i .i64 0)))))) ∧
 (((((bif ((sgn (a - c)) != 0) then K (.i .i64 (sgn (a - c)))
 else (bif ((sgn (b - d)) != 0) then K (.i .i64 (sgn (b - d)))
 else K (.i .i64 0))) ∧
 (bif ((sgn (a - c)) != 0) then K (.i .i64 (sgn (a - c)))
 else (bif ((sgn (b - d)) != 0) then K (.i .i64 (sgn (b - d)))
 else K (.i .i64 0)))) ∧
 (bif ((sgn (a - c)) != 0) then K (.i .i64 (sgn (a - c)))
 else (bif ((sgn (b - d)) != 0) then K (.i .i64 (sgn (b - d)))
 else K (.i .i64 0)))) ∧
 ((((bif ((sgn (a - c)) != 0) then K (.i .i64 (sgn (a - c)))
 else (bif ((sgn (b - d)) != 0) then K (.i .i64 (sgn (b - d)))
 else K (.i .i64 0))) ∧
 (bif ((sgn (a - c)) != 0) then K (.i .i64 (sgn (a - c)))
 else (bif ((sgn (b - d)) != 0) then K (.i .i64 (sgn (b - d)))
 else K (.i .i64 0)))) ∧
 (bif ((sgn (a - c)) != 0) then K (.i .i64 (sgn (a - c)))
 else (bif ((sgn (b - d)) != 0) then K (.i .i64 (sgn (b - d)))
 else K (.i .i64 0)))) ∧
 ((bif ((sgn (a - c)) != 0) then K (.i .i64 (sgn (a - c)))
 else (bif ((sgn (b - d)) != 0) then K (.i .i64 (sgn (b - d)))
 else K (.i .i64 0))) ∧
 (bif ((sgn (a - c)) != 0) then K (.i .i64 (sgn (a - c)))
 else (bif ((sgn (b - d)) != 0) then K (.i .i64 (sgn (b - d)))
 else K (.i .i64 0)))))) ∧
 ((((bif ((sgn (a - c)) != 0) then K (.i .i64 (sgn (a - c)))
 else (bif ((sgn (b - d)) != 0) then K (.i .i64 (sgn (b - d)))
 else K (.i .i64 0))) ∧
 (bif ((sgn (a - c)) != 0) then K (.i .i64 (sgn (a - c)))
 else (bif ((sgn (b - d)) != 0) then K (.i .i64 (sgn (b - d)))
 else K (.i .i64 0)))) ∧
 (bif ((sgn (a - c)) != 0) then K (.i .i64 (sgn (a - c)))
 else (bif ((sgn (b - d)) != 0) then K (.i .i64 (sgn (b - d)))
 else K (.i .i64 0)))) ∧
 ((((bif ((sgn (a - c)) != 0) then K (.i .i64 (sgn (a - c)))
 else (bif ((sgn (b - d)) != 0) then K (.i .i64 (sgn (b - d)))
 else K (.i .i64 0))) ∧
 (bif ((sgn (a - c)) != 0) then K (.i .i64 (sgn (a - c)))
 else (bif ((sgn (b - d)) != 0) then K (.i .i64 (sgn (b - d)))
 else K (.i .i64 0)))) ∧
 (bif ((sgn (a - c)) != 0) then K (.i .i64 (sgn (a - c)))
 else (bif ((sgn (b - d)) != 0) then K (.i .i64 (sgn (b - d)))
 else K (.i .i64 0)))) ∧
 ((bif ((sgn (a - c)) != 0) then K (.i .i64 (sgn (a - c)))
 else (bif ((sgn (b - d)) != 0) then K (.i .i64 (sgn (b - d)))
 else K (.i .i64 0))) ∧
 (bif ((sgn (a - c)) != 0) then K (.i .i64 (sgn (a - c)))
 else (bif ((sgn (b - d)) != 0) then K (.i .i64 (sgn (b - d)))
 else K (.i .i64 0)))))))))
theorem nf_frac_wide_cmp (a b c d : Int) (K : AV → Prop) : WF G_frac_wide_cmp 0 FM_frac_wide_cmp [(.agg [(.i .u64 a), (.i .u64 b)]), (.agg [(.i .u64 c), (.i .u64 d)])] [] (fun a _ => K a) = NF_frac_wide_cmp a b c d K := by kernel_rfl
theorem key_frac_wide_cmp (a b c d : Int) {K : AV → Prop} (hp : (U64 a ∧ U64 b) ∧ U64 c ∧ U64 d) (hk : K (.i .i64 (sgn (a * 18446744073709551616 + b - (c * 18446744073709551616 + d))))) : NF_frac_wide_cmp a b c d K := by
  unfold NF_frac_wide_cmp
  rw [wide_lex hp.1.2 hp.2.2] at hk
  have key : bif (sgn (a - c) != 0) then K (.i .i64 (sgn (a - c))) else (bif (sgn (b - d) != 0) then K (.i .i64 (sgn (b - d))) else K (.i .i64 0)) := by
    refine bif_i (fun h => K_of hk ?_) (fun h => bif_i (fun h2 => K_of hk ?_) (fun h2 => K_of hk ?_)) <;> simp only [bne_iff_ne, ne_eq, bne_eq_false_iff_eq] at *
    · rw [if_pos h]
    · rw [if_neg (by simpa using h)]
    · rw [if_neg (by simpa using h), h2]
  simpa only [and_self] using key
theorem ok_frac_wide_cmp : SoundN Go.Proofs.Try.prog 48 S_frac_wide_cmp := by
  refine soundN_of sg_frac_wide_cmp fun args H K hS => ?_
  unfold S_frac_wide_cmp at hS
  split at hS
  · rename_i a b c d
    have hS1 := key_frac_wide_cmp a b c d (K := fun a => plainA a = true ∧ K a) hS.1 ⟨by simp [plainA, plainL], hS.2⟩
    refine ⟨by simp [plainA, plainL], ?_⟩
    rw [nf_frac_wide_cmp a b c d fun a => plainA a = true ∧ K a]
    exact hS1
  · exact hS.elim

end Go.Proofs.Ytpfmnmcpffajeaa.V
