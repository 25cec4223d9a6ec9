/-
  Contracts, printed by a program of this session (wip/tool/sym.py) from the unit text fr5: what each function comes to, and its proof.
-/
import Derived.Test.YtpfmnmcpffajeaaFr4
import Derived.Test.YtpfmnmcpffajeaaProg
set_option linter.unusedVariables false
set_option linter.unusedSimpArgs false
set_option maxRecDepth 100000
namespace Go.Proofs.Ytpfmnmcpffajeaa.V
open Go Go.RowKit
open Go.IntKind (u64 i64 u8 i32 u32)

def FM_frac_wide_add : FM := ⟨24, [(RV.cells 4 2)], (MC.seq (MC.ops [⟨(some 2), none, (MI.box 71 (MO.t 0))⟩, ⟨(some 3), none, (MI.box 71 (MO.t 1))⟩, ⟨(some 4), none, (MI.alloc 71 [(AV.i .u64 0), (AV.i .u64 0)])⟩]) (MC.seq (MC.ops [⟨(some 8), none, (MI.faddr 1 (MO.t 2))⟩, ⟨(some 9), none, (MI.load (MO.t 8))⟩, ⟨(some 10), none, (MI.faddr 1 (MO.t 3))⟩, ⟨(some 11), none, (MI.load (MO.t 10))⟩, ⟨(some 12), none, (MI.carry false (MO.t 9) (MO.t 11) (MO.c (AV.i .u64 0)))⟩, ⟨(some 7), none, (MI.mv (MO.t 12))⟩, ⟨(some 13), none, (MI.ext (MO.t 7) 0)⟩, ⟨(some 14), none, (MI.ext (MO.t 7) 1)⟩, ⟨(some 5), none, (MI.mv (MO.t 13))⟩, ⟨(some 6), none, (MI.mv (MO.t 14))⟩]) (MC.seq (MC.ops [⟨(some 15), none, (MI.faddr 0 (MO.t 2))⟩, ⟨(some 16), none, (MI.load (MO.t 15))⟩, ⟨(some 17), none, (MI.faddr 0 (MO.t 3))⟩, ⟨(some 18), none, (MI.load (MO.t 17))⟩, ⟨(some 19), none, (MI.bin .add (MO.t 16) (MO.t 18))⟩, ⟨(some 20), none, (MI.mv (MO.t 6))⟩, ⟨(some 21), none, (MI.bin .add (MO.t 19) (MO.t 20))⟩, ⟨(some 22), none, (MI.mv (MO.t 5))⟩, ⟨(some 23), none, (MI.build [(AV.i .u64 0), (AV.i .u64 0)] [(0, 1, (MO.t 21)), (1, 1, (MO.t 22))])⟩, ⟨none, none, (MI.store 2 (MO.t 4) (MO.t 23))⟩]) MC.ret)))⟩
theorem FMc_frac_wide_add : compF Go.Proofs.Try.prog (eqsP Go.Proofs.Try.prog) (neutOf []) (neutOf []) 47 = some FM_frac_wide_add := by kernel_rfl
def G_frac_wide_add : Gam := mkG [] []
theorem sg_frac_wide_add : SoundG Go.Proofs.Try.prog 47 (WF G_frac_wide_add 0 FM_frac_wide_add) := WF_sound (allD_ok (n := G_frac_wide_add.n) (l := []) trivial) mixP (mkG_ok (n := []) (g := []) trivial trivial) eqsP_ok FMc_frac_wide_add
def S_frac_wide_add : NSpec := fun args _ K => match args with
  | [(.agg [(.i .u64 a), (.i .u64 b)]), (.agg [(.i .u64 c), (.i .u64 d)])] => (((U64 a ∧ U64 b) ∧ U64 c ∧ U64 d) ∧ a + c < 18446744073709551615) ∧ K (.agg [(.i .u64 ((a * 18446744073709551616 + b + (c * 18446744073709551616 + d)) / 18446744073709551616)), (.i .u64 ((a * 18446744073709551616 + b + (c * 18446744073709551616 + d)) % 18446744073709551616))])
  | _ => False
theorem det_frac_wide_add : DetN S_frac_wide_add := by
  intro args H K h
  unfold S_frac_wide_add at h
  split at h
  · exact ⟨_, h.2, fun H' K' _ k => ⟨h.1, k⟩⟩
  · exact h.elim

def NF_frac_wide_add (a b c d : Int) (K : AV → Prop) : Prop :=
 (bif (decide (0 ≤ b) && decide (0 ≤ d) && decide (0 ≤ (0 : Int)) && decide ((0 : Int) ≤ 1) && decide (d < 18446744073709551616)) then K (.agg [(.i .u64 (u64.wrap ((u64.wrap (a + c)) + ((b + d + (0 : Int)) / 18446744073709551616)))), (.i .u64 ((b + d + (0 : Int)) % 18446744073709551616))]) else False)
theorem nf_frac_wide_add (a b c d : Int) (K : AV → Prop) : WF G_frac_wide_add 0 FM_frac_wide_add [(.agg [(.i .u64 a), (.i .u64 b)]), (.agg [(.i .u64 c), (.i .u64 d)])] [] (fun a _ => K a) = NF_frac_wide_add a b c d K := by kernel_rfl
theorem key_frac_wide_add (a b c d : Int) {K : AV → Prop} (hp : ((U64 a ∧ U64 b) ∧ U64 c ∧ U64 d) ∧ a + c < 18446744073709551615) (hk : K (.agg [(.i .u64 ((a * 18446744073709551616 + b + (c * 18446744073709551616 + d)) / 18446744073709551616)), (.i .u64 ((a * 18446744073709551616 + b + (c * 18446744073709551616 + d)) % 18446744073709551616))])) : NF_frac_wide_add a b c d K := by
  unfold NF_frac_wide_add
  obtain ⟨⟨⟨⟨a1, a2⟩, b1, b2⟩, ⟨c1, c2⟩, d1, d2⟩, hs⟩ := hp
  refine bif_i (fun _ => K_of hk ?_) (fun h => by simp at h; omega)
  congr 1
  simp only [List.cons.injEq, AV.i.injEq, true_and, and_true]
  rw [wrap_u64 (n := a + c) (by omega) (by omega), wrap_u64 (by omega) (by omega)]
  omega
theorem ok_frac_wide_add : SoundN Go.Proofs.Try.prog 47 S_frac_wide_add := by
  refine soundN_of sg_frac_wide_add fun args H K hS => ?_
  unfold S_frac_wide_add at hS
  split at hS
  · rename_i a b c d
    have hS1 := key_frac_wide_add a b c d (K := fun a => plainA a = true ∧ K a) hS.1 ⟨by simp [plainA, plainL], hS.2⟩
    refine ⟨by simp [plainA, plainL], ?_⟩
    rw [nf_frac_wide_add a b c d fun a => plainA a = true ∧ K a]
    exact hS1
  · exact hS.elim

def FM_frac_wide_sub : FM := ⟨24, [(RV.cells 4 2)], (MC.seq (MC.ops [⟨(some 2), none, (MI.box 71 (MO.t 0))⟩, ⟨(some 3), none, (MI.box 71 (MO.t 1))⟩, ⟨(some 4), none, (MI.alloc 71 [(AV.i .u64 0), (AV.i .u64 0)])⟩]) (MC.seq (MC.ops [⟨(some 8), none, (MI.faddr 1 (MO.t 2))⟩, ⟨(some 9), none, (MI.load (MO.t 8))⟩, ⟨(some 10), none, (MI.faddr 1 (MO.t 3))⟩, ⟨(some 11), none, (MI.load (MO.t 10))⟩, ⟨(some 12), none, (MI.carry true (MO.t 9) (MO.t 11) (MO.c (AV.i .u64 0)))⟩, ⟨(some 7), none, (MI.mv (MO.t 12))⟩, ⟨(some 13), none, (MI.ext (MO.t 7) 0)⟩, ⟨(some 14), none, (MI.ext (MO.t 7) 1)⟩, ⟨(some 5), none, (MI.mv (MO.t 13))⟩, ⟨(some 6), none, (MI.mv (MO.t 14))⟩]) (MC.seq (MC.ops [⟨(some 15), none, (MI.faddr 0 (MO.t 2))⟩, ⟨(some 16), none, (MI.load (MO.t 15))⟩, ⟨(some 17), none, (MI.faddr 0 (MO.t 3))⟩, ⟨(some 18), none, (MI.load (MO.t 17))⟩, ⟨(some 19), none, (MI.bin .sub (MO.t 16) (MO.t 18))⟩, ⟨(some 20), none, (MI.mv (MO.t 6))⟩, ⟨(some 21), none, (MI.bin .sub (MO.t 19) (MO.t 20))⟩, ⟨(some 22), none, (MI.mv (MO.t 5))⟩, ⟨(some 23), none, (MI.build [(AV.i .u64 0), (AV.i .u64 0)] [(0, 1, (MO.t 21)), (1, 1, (MO.t 22))])⟩, ⟨none, none, (MI.store 2 (MO.t 4) (MO.t 23))⟩]) MC.ret)))⟩
theorem FMc_frac_wide_sub : compF Go.Proofs.Try.prog (eqsP Go.Proofs.Try.prog) (neutOf []) (neutOf []) 49 = some FM_frac_wide_sub := by kernel_rfl
def G_frac_wide_sub : Gam := mkG [] []
theorem sg_frac_wide_sub : SoundG Go.Proofs.Try.prog 49 (WF G_frac_wide_sub 0 FM_frac_wide_sub) := WF_sound (allD_ok (n := G_frac_wide_sub.n) (l := []) trivial) mixP (mkG_ok (n := []) (g := []) trivial trivial) eqsP_ok FMc_frac_wide_sub
def S_frac_wide_sub : NSpec := fun args _ K => match args with
  | [(.agg [(.i .u64 a), (.i .u64 b)]), (.agg [(.i .u64 c), (.i .u64 d)])] => (((U64 a ∧ U64 b) ∧ U64 c ∧ U64 d) ∧ c * 18446744073709551616 + d ≤ a * 18446744073709551616 + b) ∧ K (.agg [(.i .u64 ((a * 18446744073709551616 + b - (c * 18446744073709551616 + d)) / 18446744073709551616)), (.i .u64 ((a * 18446744073709551616 + b - (c * 18446744073709551616 + d)) % 18446744073709551616))])
  | _ => False
theorem det_frac_wide_sub : DetN S_frac_wide_sub := by
  intro args H K h
  unfold S_frac_wide_sub at h
  split at h
  · exact ⟨_, h.2, fun H' K' _ k => ⟨h.1, k⟩⟩
  · exact h.elim

def NF_frac_wide_sub (a b c d : Int) (K : AV → Prop) : Prop :=
 (bif (decide (0 ≤ b) && decide (0 ≤ d) && decide (0 ≤ (0 : Int)) && decide ((0 : Int) ≤ 1) && decide (d < 18446744073709551616)) then K (.agg [(.i .u64 (u64.wrap ((u64.wrap (a - c)) - (bif decide (b < d + (0 : Int)) then 1 else 0)))), (.i .u64 ((b - d - (0 : Int)) % 18446744073709551616))]) else False)
theorem nf_frac_wide_sub (a b c d : Int) (K : AV → Prop) : WF G_frac_wide_sub 0 FM_frac_wide_sub [(.agg [(.i .u64 a), (.i .u64 b)]), (.agg [(.i .u64 c), (.i .u64 d)])] [] (fun a _ => K a) = NF_frac_wide_sub a b c d K := by kernel_rfl
theorem key_frac_wide_sub (a b c d : Int) {K : AV → Prop} (hp : ((U64 a ∧ U64 b) ∧ U64 c ∧ U64 d) ∧ c * 18446744073709551616 + d ≤ a * 18446744073709551616 + b) (hk : K (.agg [(.i .u64 ((a * 18446744073709551616 + b - (c * 18446744073709551616 + d)) / 18446744073709551616)), (.i .u64 ((a * 18446744073709551616 + b - (c * 18446744073709551616 + d)) % 18446744073709551616))])) : NF_frac_wide_sub a b c d K := by
  unfold NF_frac_wide_sub
  obtain ⟨⟨⟨⟨a1, a2⟩, b1, b2⟩, ⟨c1, c2⟩, d1, d2⟩, hs⟩ := hp
  refine bif_i (fun _ => K_of hk ?_) (fun h => by simp at h; omega)
  congr 1
  simp only [List.cons.injEq, AV.i.injEq, true_and, and_true, Int.add_zero, Int.sub_zero]
  rw [wrap_u64 (n := a - c) (by omega) (by omega)]
  by_cases hb : b < d
  · have e : (bif decide (b < d) then (1 : Int) else 0) = 1 := by rw [decide_eq_true hb]; rfl
    rw [e]
    rw [wrap_u64 (by omega) (by omega)]; omega
  · have e : (bif decide (b < d) then (1 : Int) else 0) = 0 := by rw [decide_eq_false hb]; rfl
    rw [e]
    rw [wrap_u64 (by omega) (by omega)]; omega
theorem ok_frac_wide_sub : SoundN Go.Proofs.Try.prog 49 S_frac_wide_sub := by
  refine soundN_of sg_frac_wide_sub fun args H K hS => ?_
  unfold S_frac_wide_sub at hS
  split at hS
  · rename_i a b c d
    have hS1 := key_frac_wide_sub a b c d (K := fun a => plainA a = true ∧ K a) hS.1 ⟨by simp [plainA, plainL], hS.2⟩
    refine ⟨by simp [plainA, plainL], ?_⟩
    rw [nf_frac_wide_sub a b c d fun a => plainA a = true ∧ K a]
    exact hS1
  · exact hS.elim

def FM_math_bits_Rem64 : FM := ⟨19, [(RV.tmp 6)], (MC.seq (MC.ops [⟨(some 6), none, (MI.mv (MO.c (AV.i .u64 0)))⟩]) (MC.seq (MC.ops [⟨(some 10), none, (MI.mv (MO.t 0))⟩, ⟨(some 11), none, (MI.mv (MO.t 2))⟩, ⟨(some 12), none, (MI.bin .rem (MO.t 10) (MO.t 11))⟩, ⟨(some 13), none, (MI.mv (MO.t 1))⟩, ⟨(some 14), none, (MI.mv (MO.t 2))⟩, ⟨(some 15), none, (MI.callN 51 [(MO.t 12), (MO.t 13), (MO.t 14)])⟩, ⟨(some 9), none, (MI.mv (MO.t 15))⟩, ⟨(some 16), none, (MI.ext (MO.t 9) 0)⟩, ⟨(some 17), none, (MI.ext (MO.t 9) 1)⟩, ⟨(some 7), none, (MI.mv (MO.t 16))⟩, ⟨(some 8), none, (MI.mv (MO.t 17))⟩]) (MC.seq (MC.ops [⟨(some 18), none, (MI.mv (MO.t 8))⟩, ⟨(some 6), none, (MI.mv (MO.t 18))⟩]) MC.ret)))⟩
theorem FMc_math_bits_Rem64 : compF Go.Proofs.Try.prog (eqsP Go.Proofs.Try.prog) (neutOf [51]) (neutOf [51]) 50 = some FM_math_bits_Rem64 := by kernel_rfl
def G_math_bits_Rem64 : Gam := mkG [(51, S_math_bits_Div64)] []
theorem sg_math_bits_Rem64 : SoundG Go.Proofs.Try.prog 50 (WF G_math_bits_Rem64 0 FM_math_bits_Rem64) := WF_sound (allD_ok (n := G_math_bits_Rem64.n) (l := [51]) ⟨det_math_bits_Div64, trivial⟩) mixP (mkG_ok (n := [(51, S_math_bits_Div64)]) (g := []) ⟨ok_math_bits_Div64, trivial⟩ trivial) eqsP_ok FMc_math_bits_Rem64
def S_math_bits_Rem64 : NSpec := fun args _ K => match args with
  | [(.i .u64 a), (.i .u64 b), (.i .u64 y)] => ((U64 a ∧ U64 b) ∧ 0 < y ∧ U64 y) ∧ K (.i .u64 ((a * 18446744073709551616 + b) % y))
  | _ => False
theorem det_math_bits_Rem64 : DetN S_math_bits_Rem64 := by
  intro args H K h
  unfold S_math_bits_Rem64 at h
  split at h
  · exact ⟨_, h.2, fun H' K' _ k => ⟨h.1, k⟩⟩
  · exact h.elim

def NF_math_bits_Rem64 (a b y : Int) (K : AV → Prop) : Prop :=
 (bif decide (y ≠ 0) then (((U64 (Int.tmod a y) ∧ U64 b) ∧ (Int.tmod a y) < y ∧ U64 y) ∧
 K (.i .u64 (((Int.tmod a y) * 18446744073709551616 + b) % y))) else False)
theorem nf_math_bits_Rem64 (a b y : Int) (K : AV → Prop) : WF G_math_bits_Rem64 0 FM_math_bits_Rem64 [(.i .u64 a), (.i .u64 b), (.i .u64 y)] [] (fun a _ => K a) = NF_math_bits_Rem64 a b y K := by kernel_rfl
theorem key_math_bits_Rem64 (a b y : Int) {K : AV → Prop} (hp : (U64 a ∧ U64 b) ∧ 0 < y ∧ U64 y) (hk : K (.i .u64 ((a * 18446744073709551616 + b) % y))) : NF_math_bits_Rem64 a b y K := by
  unfold NF_math_bits_Rem64
  obtain ⟨⟨⟨a1, a2⟩, hb⟩, y0, hy⟩ := hp
  refine bif_i (fun _ => ?_) (fun h => by simp at h; omega)
  rw [tmod_pos a1]
  have m1 := Int.emod_nonneg a (b := y) (by omega)
  have m2 := Int.emod_lt_of_pos a (b := y) y0
  refine ⟨⟨⟨⟨m1, by have := hy.2; omega⟩, hb⟩, m2, hy⟩, K_of hk ?_⟩
  have key : (a % y * 18446744073709551616 + b) % y = (a * 18446744073709551616 + b) % y := by
    have e : a * 18446744073709551616 + b = (a % y * 18446744073709551616 + b) + y * (a / y * 18446744073709551616) := by
      have := Int.mul_ediv_add_emod a y
      grind
    rw [e, Int.add_mul_emod_self_left]
  rw [key]
theorem ok_math_bits_Rem64 : SoundN Go.Proofs.Try.prog 50 S_math_bits_Rem64 := by
  refine soundN_of sg_math_bits_Rem64 fun args H K hS => ?_
  unfold S_math_bits_Rem64 at hS
  split at hS
  · rename_i a b y
    have hS1 := key_math_bits_Rem64 a b y (K := fun a => plainA a = true ∧ K a) hS.1 ⟨by simp [plainA, plainL], hS.2⟩
    refine ⟨by simp [plainA, plainL], ?_⟩
    rw [nf_math_bits_Rem64 a b y fun a => plainA a = true ∧ K a]
    exact hS1
  · exact hS.elim

def FM_frac_turned : FM := ⟨18, [(RV.cells 2 2)], (MC.seq (MC.ops [⟨(some 1), none, (MI.box 23 (MO.t 0))⟩, ⟨(some 2), none, (MI.alloc 23 [(AV.i .i64 0), (AV.i .i64 0)])⟩]) (MC.seq (MC.seq (MC.ops [⟨(some 3), none, (MI.faddr 0 (MO.t 1))⟩, ⟨(some 4), none, (MI.load (MO.t 3))⟩, ⟨(some 5), none, (MI.bin .lss (MO.t 4) (MO.c (AV.i .i64 0)))⟩]) (MC.cond (MO.t 5) (MC.seq (MC.ops [⟨(some 6), none, (MI.faddr 1 (MO.t 1))⟩, ⟨(some 7), none, (MI.load (MO.t 6))⟩, ⟨(some 8), none, (MI.un .neg (MO.t 7))⟩, ⟨(some 9), none, (MI.faddr 0 (MO.t 1))⟩, ⟨(some 10), none, (MI.load (MO.t 9))⟩, ⟨(some 11), none, (MI.un .neg (MO.t 10))⟩, ⟨(some 12), none, (MI.build [(AV.i .i64 0), (AV.i .i64 0)] [(0, 1, (MO.t 8)), (1, 1, (MO.t 11))])⟩, ⟨none, none, (MI.store 2 (MO.t 2) (MO.t 12))⟩]) MC.ret) MC.skip)) (MC.seq (MC.ops [⟨(some 13), none, (MI.faddr 1 (MO.t 1))⟩, ⟨(some 14), none, (MI.load (MO.t 13))⟩, ⟨(some 15), none, (MI.faddr 0 (MO.t 1))⟩, ⟨(some 16), none, (MI.load (MO.t 15))⟩, ⟨(some 17), none, (MI.build [(AV.i .i64 0), (AV.i .i64 0)] [(0, 1, (MO.t 14)), (1, 1, (MO.t 16))])⟩, ⟨none, none, (MI.store 2 (MO.t 2) (MO.t 17))⟩]) MC.ret)))⟩
theorem FMc_frac_turned : compF Go.Proofs.Try.prog (eqsP Go.Proofs.Try.prog) (neutOf []) (neutOf []) 52 = some FM_frac_turned := by kernel_rfl
def G_frac_turned : Gam := mkG [] []
theorem sg_frac_turned : SoundG Go.Proofs.Try.prog 52 (WF G_frac_turned 0 FM_frac_turned) := WF_sound (allD_ok (n := G_frac_turned.n) (l := []) trivial) mixP (mkG_ok (n := []) (g := []) trivial trivial) eqsP_ok FMc_frac_turned
def S_frac_turned : NSpec := fun args _ K => match args with
  | [(.agg [(.i .i64 a), (.i .i64 b)])] => (okF a b) ∧ K (.agg [(.i .i64 (if a < 0 then -b else b)), (.i .i64 (if a < 0 then -a else a))])
  | _ => False
theorem det_frac_turned : DetN S_frac_turned := by
  intro args H K h
  unfold S_frac_turned at h
  split at h
  · exact ⟨_, h.2, fun H' K' _ k => ⟨h.1, k⟩⟩
  · exact h.elim

def NF_frac_turned (a b : Int) (K : AV → Prop) : Prop :=
 (bif decide (a < 0) then K (.agg [(.i .i64 (i64.wrap (0 - b))), (.i .i64 (i64.wrap (0 - a)))])
 else K (.agg [(.i .i64 b), (.i .i64 a)]))
theorem nf_frac_turned (a b : Int) (K : AV → Prop) : WF G_frac_turned 0 FM_frac_turned [(.agg [(.i .i64 a), (.i .i64 b)])] [] (fun a _ => K a) = NF_frac_turned a b K := by kernel_rfl
theorem key_frac_turned (a b : Int) {K : AV → Prop} (hp : okF a b) (hk : K (.agg [(.i .i64 (if a < 0 then -b else b)), (.i .i64 (if a < 0 then -a else a))])) : NF_frac_turned a b K := by
  unfold NF_frac_turned
  obtain ⟨⟨o1, o2, o3, o4⟩, _⟩ := hp
  refine bif_i (fun h => K_of hk ?_) (fun h => K_of hk ?_) <;> simp at h
  · rw [wrap_i64 (n := 0 - b) (by omega) (by omega), wrap_i64 (n := 0 - a) (by omega) (by omega)]; simp [h]
  · simp [show ¬ a < 0 by omega]
theorem ok_frac_turned : SoundN Go.Proofs.Try.prog 52 S_frac_turned := by
  refine soundN_of sg_frac_turned fun args H K hS => ?_
  unfold S_frac_turned at hS
  split at hS
  · rename_i a b
    have hS1 := key_frac_turned a b (K := fun a => plainA a = true ∧ K a) hS.1 ⟨by simp [plainA, plainL], hS.2⟩
    refine ⟨by simp [plainA, plainL], ?_⟩
    rw [nf_frac_turned a b fun a => plainA a = true ∧ K a]
    exact hS1
  · exact hS.elim

end Go.Proofs.Ytpfmnmcpffajeaa.V
