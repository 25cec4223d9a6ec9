/-
  Contracts, printed by a program of this session (wip/tool/sym.py) from the unit text sa5: what each function comes to, and its proof.
-/
import Derived.Test.YtkmhmabkahaekaaSi2
import Derived.Test.YtkmhmabkahaekaaProg
set_option linter.unusedVariables false
set_option linter.unusedSimpArgs false
set_option maxRecDepth 100000
namespace Go.Proofs.Ytkmhmabkahaekaa.V
open Go Go.RowKit
open Go.IntKind (u64 i64 u8 i32 u32)


theorem bif_f {c : Bool} {A B : Prop} (h : c = false) (hb : B) : bif c then A else B := by rw [h]; exact hb
theorem bif_t {c : Bool} {A B : Prop} (h : c = true) (ha : A) : bif c then A else B := by rw [h]; exact ha
def isS (r : SE) (lo hi : Int) : Bool := decide (r.e = 0 ∧ r.lo = lo ∧ r.hi = hi)

def FM_law05_is : FM := ⟨18, [(RV.tmp 8)], (MC.seq (MC.ops [⟨(some 4), none, (MI.box 23 (MO.t 0))⟩, ⟨(some 8), none, (MI.mv (MO.c (AV.b false)))⟩]) (MC.seq (MC.ops [⟨(some 9), none, (MI.mv (MO.t 1))⟩, ⟨(some 10), none, (MI.bin .eql (MO.t 9) (MO.c (AV.i .i64 0)))⟩, ⟨(some 11), none, (MI.mv (MO.t 10))⟩, ⟨(some 12), (some (11, true)), (MI.loadn 2 (MO.t 4))⟩, ⟨(some 13), (some (11, true)), (MI.mv (MO.t 2))⟩, ⟨(some 14), (some (11, true)), (MI.mv (MO.t 3))⟩, ⟨(some 15), (some (11, true)), (MI.build [(AV.i .i64 0), (AV.i .i64 0)] [(0, 1, (MO.t 13)), (1, 1, (MO.t 14))])⟩, ⟨(some 16), (some (11, true)), (MI.eqa false [(SK.i .i64), (SK.i .i64)] (MO.t 12) (MO.t 15))⟩, ⟨(some 17), none, (MI.pick (MO.t 11) (MO.t 16) (MO.c (AV.b false)))⟩, ⟨(some 8), none, (MI.mv (MO.t 17))⟩]) MC.ret))⟩
theorem FMc_law05_is : compF Go.Proofs.Try.prog (eqsP Go.Proofs.Try.prog) (neutOf []) (neutOf []) 35 = some FM_law05_is := by kernel_rfl
def G_law05_is : Gam := mkG [] []
theorem sg_law05_is : SoundG Go.Proofs.Try.prog 35 (WF G_law05_is 0 FM_law05_is) := WF_sound (allD_ok (n := G_law05_is.n) (l := []) trivial) mixP (mkG_ok (n := []) (g := []) trivial trivial) eqsP_ok FMc_law05_is
def S_law05_is : NSpec := fun args _ K => match args with
  | [(.agg [(.i .i64 a), (.i .i64 b)]), (.i .i64 e), (.i .i64 lo), (.i .i64 hi)] => K (.b (decide (e = 0 ∧ a = lo ∧ b = hi)))
  | _ => False
theorem det_law05_is : DetN S_law05_is := by
  intro args H K h
  unfold S_law05_is at h
  split at h
  · exact ⟨_, h, fun H' K' _ k => k⟩
  · exact h.elim

def NF_law05_is (a b e lo hi : Int) (K : AV → Prop) : Prop :=
 (bif (e == 0) then K (.b ((a == lo) && ((b == hi) && true)))
 else K (.b false))
theorem nf_law05_is (a b e lo hi : Int) (K : AV → Prop) : WF G_law05_is 0 FM_law05_is [(.agg [(.i .i64 a), (.i .i64 b)]), (.i .i64 e), (.i .i64 lo), (.i .i64 hi)] [] (fun a _ => K a) = NF_law05_is a b e lo hi K := by kernel_rfl
theorem key_law05_is (a b e lo hi : Int) {K : AV → Prop} (hk : K (.b (decide (e = 0 ∧ a = lo ∧ b = hi)))) : NF_law05_is a b e lo hi K := by
  unfold NF_law05_is
  refine bif_i (fun h => K_of hk ?_) (fun h => K_of hk ?_) <;> simp at h <;> congr 1
  · by_cases h1 : a = lo <;> by_cases h2 : b = hi <;> simp [h, h1, h2]
  · simp [h]
theorem ok_law05_is : SoundN Go.Proofs.Try.prog 35 S_law05_is := by
  refine soundN_of sg_law05_is fun args H K hS => ?_
  unfold S_law05_is at hS
  split at hS
  · rename_i a b e lo hi
    have hS1 := key_law05_is a b e lo hi (K := fun a => plainA a = true ∧ K a) ⟨by simp [plainA, plainL], hS⟩
    refine ⟨by simp [plainA, plainL], ?_⟩
    rw [nf_law05_is a b e lo hi fun a => plainA a = true ∧ K a]
    exact hS1
  · exact hS.elim

def FM_law05_cos : FM := ⟨22, [(RV.tmp 8)], (MC.seq (MC.ops [⟨(some 8), none, (MI.mv (MO.c (AV.b false)))⟩]) (MC.seq (MC.ops [⟨(some 12), none, (MI.mv (MO.t 0))⟩, ⟨(some 13), none, (MI.mv (MO.t 1))⟩, ⟨(some 14), none, (MI.callN 14 [(MO.t 12), (MO.t 13)])⟩, ⟨(some 11), none, (MI.mv (MO.t 14))⟩, ⟨(some 15), none, (MI.ext (MO.t 11) 0)⟩, ⟨(some 16), none, (MI.ext (MO.t 11) 1)⟩, ⟨(some 9), none, (MI.alloc 23 [(AV.i .i64 0), (AV.i .i64 0)])⟩, ⟨none, none, (MI.store 2 (MO.t 9) (MO.t 15))⟩, ⟨(some 10), none, (MI.mv (MO.t 16))⟩]) (MC.seq (MC.ops [⟨(some 17), none, (MI.loadn 2 (MO.t 9))⟩, ⟨(some 18), none, (MI.mv (MO.t 10))⟩, ⟨(some 19), none, (MI.mv (MO.t 2))⟩, ⟨(some 20), none, (MI.mv (MO.t 3))⟩, ⟨(some 21), none, (MI.callN 35 [(MO.t 17), (MO.t 18), (MO.t 19), (MO.t 20)])⟩, ⟨(some 8), none, (MI.mv (MO.t 21))⟩]) MC.ret)))⟩
theorem FMc_law05_cos : compF Go.Proofs.Try.prog (eqsP Go.Proofs.Try.prog) (neutOf [14, 35]) (neutOf [14, 35]) 33 = some FM_law05_cos := by kernel_rfl
def G_law05_cos : Gam := mkG [(14, S_sine_Cos), (35, S_law05_is)] []
theorem sg_law05_cos : SoundG Go.Proofs.Try.prog 33 (WF G_law05_cos 0 FM_law05_cos) := WF_sound (allD_ok (n := G_law05_cos.n) (l := [14, 35]) ⟨det_sine_Cos, det_law05_is, trivial⟩) mixP (mkG_ok (n := [(14, S_sine_Cos), (35, S_law05_is)]) (g := []) ⟨ok_sine_Cos, ok_law05_is, trivial⟩ trivial) eqsP_ok FMc_law05_cos
def S_law05_cos : NSpec := fun args _ K => match args with
  | [(.i .i64 k), (.i .i64 n), (.i .i64 lo), (.i .i64 hi)] => (I64 k ∧ I64 n) ∧ K (.b (isS (cosE k n) lo hi))
  | _ => False
theorem det_law05_cos : DetN S_law05_cos := by
  intro args H K h
  unfold S_law05_cos at h
  split at h
  · exact ⟨_, h.2, fun H' K' _ k => ⟨h.1, k⟩⟩
  · exact h.elim

def NF_law05_cos (k n lo hi : Int) (K : AV → Prop) : Prop :=
 ((I64 k ∧ I64 n) ∧
 K (.b (decide ((cosE k n).e = 0 ∧ (cosE k n).lo = lo ∧ (cosE k n).hi = hi))))
theorem nf_law05_cos (k n lo hi : Int) (K : AV → Prop) : WF G_law05_cos 0 FM_law05_cos [(.i .i64 k), (.i .i64 n), (.i .i64 lo), (.i .i64 hi)] [] (fun a _ => K a) = NF_law05_cos k n lo hi K := by kernel_rfl
theorem key_law05_cos (k n lo hi : Int) {K : AV → Prop} (hp : I64 k ∧ I64 n) (hk : K (.b (isS (cosE k n) lo hi))) : NF_law05_cos k n lo hi K := by
  unfold NF_law05_cos
  exact ⟨hp, hk⟩
theorem ok_law05_cos : SoundN Go.Proofs.Try.prog 33 S_law05_cos := by
  refine soundN_of sg_law05_cos fun args H K hS => ?_
  unfold S_law05_cos at hS
  split at hS
  · rename_i k n lo hi
    have hS1 := key_law05_cos k n lo hi (K := fun a => plainA a = true ∧ K a) hS.1 ⟨by simp [plainA, plainL], hS.2⟩
    refine ⟨by simp [plainA, plainL], ?_⟩
    rw [nf_law05_cos k n lo hi fun a => plainA a = true ∧ K a]
    exact hS1
  · exact hS.elim

def FM_law05_sin : FM := ⟨22, [(RV.tmp 8)], (MC.seq (MC.ops [⟨(some 8), none, (MI.mv (MO.c (AV.b false)))⟩]) (MC.seq (MC.ops [⟨(some 12), none, (MI.mv (MO.t 0))⟩, ⟨(some 13), none, (MI.mv (MO.t 1))⟩, ⟨(some 14), none, (MI.callN 16 [(MO.t 12), (MO.t 13)])⟩, ⟨(some 11), none, (MI.mv (MO.t 14))⟩, ⟨(some 15), none, (MI.ext (MO.t 11) 0)⟩, ⟨(some 16), none, (MI.ext (MO.t 11) 1)⟩, ⟨(some 9), none, (MI.alloc 23 [(AV.i .i64 0), (AV.i .i64 0)])⟩, ⟨none, none, (MI.store 2 (MO.t 9) (MO.t 15))⟩, ⟨(some 10), none, (MI.mv (MO.t 16))⟩]) (MC.seq (MC.ops [⟨(some 17), none, (MI.loadn 2 (MO.t 9))⟩, ⟨(some 18), none, (MI.mv (MO.t 10))⟩, ⟨(some 19), none, (MI.mv (MO.t 2))⟩, ⟨(some 20), none, (MI.mv (MO.t 3))⟩, ⟨(some 21), none, (MI.callN 35 [(MO.t 17), (MO.t 18), (MO.t 19), (MO.t 20)])⟩, ⟨(some 8), none, (MI.mv (MO.t 21))⟩]) MC.ret)))⟩
theorem FMc_law05_sin : compF Go.Proofs.Try.prog (eqsP Go.Proofs.Try.prog) (neutOf [16, 35]) (neutOf [16, 35]) 34 = some FM_law05_sin := by kernel_rfl
def G_law05_sin : Gam := mkG [(16, S_sine_Sin), (35, S_law05_is)] []
theorem sg_law05_sin : SoundG Go.Proofs.Try.prog 34 (WF G_law05_sin 0 FM_law05_sin) := WF_sound (allD_ok (n := G_law05_sin.n) (l := [16, 35]) ⟨det_sine_Sin, det_law05_is, trivial⟩) mixP (mkG_ok (n := [(16, S_sine_Sin), (35, S_law05_is)]) (g := []) ⟨ok_sine_Sin, ok_law05_is, trivial⟩ trivial) eqsP_ok FMc_law05_sin
def S_law05_sin : NSpec := fun args _ K => match args with
  | [(.i .i64 k), (.i .i64 n), (.i .i64 lo), (.i .i64 hi)] => (I64 k ∧ I64 n) ∧ K (.b (isS (sinE k n) lo hi))
  | _ => False
theorem det_law05_sin : DetN S_law05_sin := by
  intro args H K h
  unfold S_law05_sin at h
  split at h
  · exact ⟨_, h.2, fun H' K' _ k => ⟨h.1, k⟩⟩
  · exact h.elim

def NF_law05_sin (k n lo hi : Int) (K : AV → Prop) : Prop :=
 ((I64 k ∧ I64 n) ∧
 K (.b (decide ((sinE k n).e = 0 ∧ (sinE k n).lo = lo ∧ (sinE k n).hi = hi))))
theorem nf_law05_sin (k n lo hi : Int) (K : AV → Prop) : WF G_law05_sin 0 FM_law05_sin [(.i .i64 k), (.i .i64 n), (.i .i64 lo), (.i .i64 hi)] [] (fun a _ => K a) = NF_law05_sin k n lo hi K := by kernel_rfl
theorem key_law05_sin (k n lo hi : Int) {K : AV → Prop} (hp : I64 k ∧ I64 n) (hk : K (.b (isS (sinE k n) lo hi))) : NF_law05_sin k n lo hi K := by
  unfold NF_law05_sin
  exact ⟨hp, hk⟩
theorem ok_law05_sin : SoundN Go.Proofs.Try.prog 34 S_law05_sin := by
  refine soundN_of sg_law05_sin fun args H K hS => ?_
  unfold S_law05_sin at hS
  split at hS
  · rename_i k n lo hi
    have hS1 := key_law05_sin k n lo hi (K := fun a => plainA a = true ∧ K a) hS.1 ⟨by simp [plainA, plainL], hS.2⟩
    refine ⟨by simp [plainA, plainL], ?_⟩
    rw [nf_law05_sin k n lo hi fun a => plainA a = true ∧ K a]
    exact hS1
  · exact hS.elim

def FM_law05_alive : FM := ⟨74, [(RV.tmp 0)], (MC.seq (MC.ops [⟨(some 0), none, (MI.mv (MO.c (AV.b false)))⟩]) (MC.seq (MC.ops [⟨(some 12), none, (MI.build [(AV.i .i64 0), (AV.i .i64 0)] [(0, 1, (MO.c (AV.i .i64 1))), (1, 1, (MO.c (AV.i .i64 3)))])⟩, ⟨(some 13), none, (MI.callN 27 [(MO.t 12)])⟩, ⟨(some 11), none, (MI.mv (MO.t 13))⟩, ⟨(some 14), none, (MI.ext (MO.t 11) 0)⟩, ⟨(some 15), none, (MI.ext (MO.t 11) 1)⟩, ⟨(some 1), none, (MI.alloc 23 [(AV.i .i64 0), (AV.i .i64 0)])⟩, ⟨none, none, (MI.store 2 (MO.t 1) (MO.t 14))⟩, ⟨(some 2), none, (MI.mv (MO.t 15))⟩]) (MC.seq (MC.ops [⟨(some 17), none, (MI.build [(AV.i .i64 0), (AV.i .i64 0)] [(0, 1, (MO.c (AV.i .i64 (-1)))), (1, 1, (MO.c (AV.i .i64 3)))])⟩, ⟨(some 18), none, (MI.callN 27 [(MO.t 17)])⟩, ⟨(some 16), none, (MI.mv (MO.t 18))⟩, ⟨(some 19), none, (MI.ext (MO.t 16) 0)⟩, ⟨(some 20), none, (MI.ext (MO.t 16) 1)⟩, ⟨(some 3), none, (MI.alloc 23 [(AV.i .i64 0), (AV.i .i64 0)])⟩, ⟨none, none, (MI.store 2 (MO.t 3) (MO.t 19))⟩, ⟨(some 4), none, (MI.mv (MO.t 20))⟩]) (MC.seq (MC.ops [⟨(some 22), none, (MI.loadn 2 (MO.t 1))⟩, ⟨(some 23), none, (MI.loadn 2 (MO.t 3))⟩, ⟨(some 24), none, (MI.callN 19 [(MO.t 22), (MO.t 23)])⟩, ⟨(some 21), none, (MI.mv (MO.t 24))⟩, ⟨(some 25), none, (MI.ext (MO.t 21) 0)⟩, ⟨(some 26), none, (MI.ext (MO.t 21) 1)⟩, ⟨(some 5), none, (MI.alloc 23 [(AV.i .i64 0), (AV.i .i64 0)])⟩, ⟨none, none, (MI.store 2 (MO.t 5) (MO.t 25))⟩, ⟨(some 6), none, (MI.mv (MO.t 26))⟩]) (MC.seq (MC.ops [⟨(some 28), none, (MI.loadn 2 (MO.t 3))⟩, ⟨(some 29), none, (MI.callN 31 [(MO.t 28)])⟩, ⟨(some 27), none, (MI.mv (MO.t 29))⟩, ⟨(some 30), none, (MI.ext (MO.t 27) 0)⟩, ⟨(some 31), none, (MI.ext (MO.t 27) 1)⟩, ⟨(some 7), none, (MI.mv (MO.t 30))⟩, ⟨(some 8), none, (MI.mv (MO.t 31))⟩]) (MC.seq (MC.ops [⟨(some 33), none, (MI.build [(AV.i .i64 0), (AV.i .i64 0)] [(0, 1, (MO.c (AV.i .i64 (-1)))), (1, 1, (MO.c (AV.i .i64 2)))])⟩, ⟨(some 34), none, (MI.callN 31 [(MO.t 33)])⟩, ⟨(some 32), none, (MI.mv (MO.t 34))⟩, ⟨(some 35), none, (MI.ext (MO.t 32) 0)⟩, ⟨(some 36), none, (MI.ext (MO.t 32) 1)⟩, ⟨(some 9), none, (MI.mv (MO.t 35))⟩, ⟨(some 10), none, (MI.mv (MO.t 36))⟩]) (MC.seq (MC.ops [⟨(some 37), none, (MI.callN 33 [(MO.c (AV.i .i64 1)), (MO.c (AV.i .i64 8)), (MO.c (AV.i .i64 707106)), (MO.c (AV.i .i64 707107))])⟩, ⟨(some 38), none, (MI.mv (MO.t 37))⟩, ⟨(some 39), (some (38, true)), (MI.callN 33 [(MO.c (AV.i .i64 1)), (MO.c (AV.i .i64 6)), (MO.c (AV.i .i64 500000)), (MO.c (AV.i .i64 500000))])⟩, ⟨(some 40), none, (MI.pick (MO.t 38) (MO.t 39) (MO.c (AV.b false)))⟩, ⟨(some 41), none, (MI.mv (MO.t 40))⟩, ⟨(some 42), (some (41, true)), (MI.callN 34 [(MO.c (AV.i .i64 1)), (MO.c (AV.i .i64 6)), (MO.c (AV.i .i64 866025)), (MO.c (AV.i .i64 866026))])⟩, ⟨(some 43), none, (MI.pick (MO.t 41) (MO.t 42) (MO.c (AV.b false)))⟩, ⟨(some 44), none, (MI.mv (MO.t 43))⟩, ⟨(some 45), (some (44, true)), (MI.callN 34 [(MO.c (AV.i .i64 3)), (MO.c (AV.i .i64 4)), (MO.c (AV.i .i64 (-1000000))), (MO.c (AV.i .i64 (-1000000)))])⟩, ⟨(some 46), none, (MI.pick (MO.t 44) (MO.t 45) (MO.c (AV.b false)))⟩, ⟨(some 47), none, (MI.mv (MO.t 46))⟩, ⟨(some 48), (some (47, true)), (MI.loadn 2 (MO.t 1))⟩, ⟨(some 49), (some (47, true)), (MI.mv (MO.t 2))⟩, ⟨(some 50), (some (47, true)), (MI.callN 35 [(MO.t 48), (MO.t 49), (MO.c (AV.i .i64 333333)), (MO.c (AV.i .i64 333334))])⟩, ⟨(some 51), none, (MI.pick (MO.t 47) (MO.t 50) (MO.c (AV.b false)))⟩, ⟨(some 52), none, (MI.mv (MO.t 51))⟩, ⟨(some 53), (some (52, true)), (MI.loadn 2 (MO.t 3))⟩, ⟨(some 54), (some (52, true)), (MI.mv (MO.t 4))⟩, ⟨(some 55), (some (52, true)), (MI.callN 35 [(MO.t 53), (MO.t 54), (MO.c (AV.i .i64 (-333334))), (MO.c (AV.i .i64 (-333333)))])⟩, ⟨(some 56), none, (MI.pick (MO.t 52) (MO.t 55) (MO.c (AV.b false)))⟩, ⟨(some 57), none, (MI.mv (MO.t 56))⟩, ⟨(some 58), (some (57, true)), (MI.loadn 2 (MO.t 5))⟩, ⟨(some 59), (some (57, true)), (MI.mv (MO.t 6))⟩, ⟨(some 60), (some (57, true)), (MI.callN 35 [(MO.t 58), (MO.t 59), (MO.c (AV.i .i64 (-111112))), (MO.c (AV.i .i64 (-111110)))])⟩, ⟨(some 61), none, (MI.pick (MO.t 57) (MO.t 60) (MO.c (AV.b false)))⟩, ⟨(some 62), none, (MI.mv (MO.t 61))⟩, ⟨(some 63), (some (62, true)), (MI.mv (MO.t 8))⟩, ⟨(some 64), (some (62, true)), (MI.bin .eql (MO.t 63) (MO.c (AV.i .i64 0)))⟩, ⟨(some 65), none, (MI.pick (MO.t 62) (MO.t 64) (MO.c (AV.b false)))⟩, ⟨(some 66), none, (MI.mv (MO.t 65))⟩, ⟨(some 67), (some (66, true)), (MI.mv (MO.t 7))⟩, ⟨(some 68), (some (66, true)), (MI.bin .eql (MO.t 67) (MO.c (AV.i .i64 (-1))))⟩, ⟨(some 69), none, (MI.pick (MO.t 66) (MO.t 68) (MO.c (AV.b false)))⟩, ⟨(some 70), none, (MI.mv (MO.t 69))⟩, ⟨(some 71), (some (70, true)), (MI.mv (MO.t 10))⟩, ⟨(some 72), (some (70, true)), (MI.bin .eql (MO.t 71) (MO.c (AV.i .i64 24)))⟩, ⟨(some 73), none, (MI.pick (MO.t 70) (MO.t 72) (MO.c (AV.b false)))⟩, ⟨(some 0), none, (MI.mv (MO.t 73))⟩]) MC.ret)))))))⟩
theorem FMc_law05_alive : compF Go.Proofs.Try.prog (eqsP Go.Proofs.Try.prog) (neutOf [19, 27, 31, 33, 34, 35]) (neutOf [19, 27, 31, 33, 34, 35]) 18 = some FM_law05_alive := by kernel_rfl
def G_law05_alive : Gam := mkG [(19, S_sine_Mul), (27, S_sine_Of), (31, S_sine_Sign), (33, S_law05_cos), (34, S_law05_sin), (35, S_law05_is)] []
theorem sg_law05_alive : SoundG Go.Proofs.Try.prog 18 (WF G_law05_alive 0 FM_law05_alive) := WF_sound (allD_ok (n := G_law05_alive.n) (l := [19, 27, 31, 33, 34, 35]) ⟨det_sine_Mul, det_sine_Of, det_sine_Sign, det_law05_cos, det_law05_sin, det_law05_is, trivial⟩) mixP (mkG_ok (n := [(19, S_sine_Mul), (27, S_sine_Of), (31, S_sine_Sign), (33, S_law05_cos), (34, S_law05_sin), (35, S_law05_is)]) (g := []) ⟨ok_sine_Mul, ok_sine_Of, ok_sine_Sign, ok_law05_cos, ok_law05_sin, ok_law05_is, trivial⟩ trivial) eqsP_ok FMc_law05_alive
def S_law05_alive : NSpec := fun args _ K => match args with
  | [] => K (.b true)
  | _ => False
theorem det_law05_alive : DetN S_law05_alive := by
  intro args H K h
  unfold S_law05_alive at h
  split at h
  · exact ⟨_, h, fun H' K' _ k => k⟩
  · exact h.elim

def NF_law05_alive  (K : AV → Prop) : Prop :=
 ((I64 (1 : Int) ∧ I64 (3 : Int)) ∧
 ((I64 (-1 : Int) ∧ I64 (3 : Int)) ∧
 (((I64 (sOf (1 : Int) (3 : Int)).lo ∧ I64 (sOf (1 : Int) (3 : Int)).hi) ∧ I64 (sOf (-1 : Int) (3 : Int)).lo ∧ I64 (sOf (-1 : Int) (3 : Int)).hi) ∧
 ((I64 (sOf (-1 : Int) (3 : Int)).lo ∧ I64 (sOf (-1 : Int) (3 : Int)).hi) ∧
 ((I64 (-1 : Int) ∧ I64 (2 : Int)) ∧
 ((I64 (1 : Int) ∧ I64 (8 : Int)) ∧
 (bif (isS (cosE (1 : Int) (8 : Int)) (707106 : Int) (707107 : Int)) then ((I64 (1 : Int) ∧ I64 (6 : Int)) ∧
 (bif (isS (cosE (1 : Int) (6 : Int)) (500000 : Int) (500000 : Int)) then ((I64 (1 : Int) ∧ I64 (6 : Int)) ∧
 (bif (isS (sinE (1 : Int) (6 : Int)) (866025 : Int) (866026 : Int)) then ((I64 (3 : Int) ∧ I64 (4 : Int)) ∧
 (bif (isS (sinE (3 : Int) (4 : Int)) (-1000000 : Int) (-1000000 : Int)) then (bif (decide ((sOf (1 : Int) (3 : Int)).e = 0 ∧ (sOf (1 : Int) (3 : Int)).lo = (333333 : Int) ∧ (sOf (1 : Int) (3 : Int)).hi = (333334 : Int))) then (bif (decide ((sOf (-1 : Int) (3 : Int)).e = 0 ∧ (sOf (-1 : Int) (3 : Int)).lo = (-333334 : Int) ∧ (sOf (-1 : Int) (3 : Int)).hi = (-333333 : Int))) then (bif (decide ((sMul (sOf (1 : Int) (3 : Int)).lo (sOf (1 : Int) (3 : Int)).hi (sOf (-1 : Int) (3 : Int)).lo (sOf (-1 : Int) (3 : Int)).hi).e = 0 ∧ (sMul (sOf (1 : Int) (3 : Int)).lo (sOf (1 : Int) (3 : Int)).hi (sOf (-1 : Int) (3 : Int)).lo (sOf (-1 : Int) (3 : Int)).hi).lo = (-111112 : Int) ∧ (sMul (sOf (1 : Int) (3 : Int)).lo (sOf (1 : Int) (3 : Int)).hi (sOf (-1 : Int) (3 : Int)).lo (sOf (-1 : Int) (3 : Int)).hi).hi = (-111110 : Int))) then (bif ((ssign (sOf (-1 : Int) (3 : Int)).lo (sOf (-1 : Int) (3 : Int)).hi).e == 0) then (bif ((ssign (sOf (-1 : Int) (3 : Int)).lo (sOf (-1 : Int) (3 : Int)).hi).v == (-1)) then K (.b ((ssign (-1 : Int) (2 : Int)).e == 24))
 else K (.b false))
 else K (.b false))
 else K (.b false))
 else K (.b false))
 else K (.b false))
 else K (.b false)))
 else K (.b false)))
 else K (.b false)))
 else K (.b false))))))))
theorem nf_law05_alive  (K : AV → Prop) : WF G_law05_alive 0 FM_law05_alive [] [] (fun a _ => K a) = NF_law05_alive  K := by kernel_rfl
theorem key_law05_alive  {K : AV → Prop} (hk : K (.b true)) : NF_law05_alive  K := by
  unfold NF_law05_alive
  have e1 : sOf 1 3 = ⟨333333, 333334, 0⟩ := by kernel_rfl
  have e2 : sOf (-1) 3 = ⟨-333334, -333333, 0⟩ := by kernel_rfl
  have e3 : sMul 333333 333334 (-333334) (-333333) = ⟨-111112, -111110, 0⟩ := by kernel_rfl
  have e4 : ssign (-333334) (-333333) = ⟨-1, 0⟩ := by kernel_rfl
  have e5 : ssign (-1) 2 = ⟨0, 24⟩ := by kernel_rfl
  have a1 : isS (cosE 1 8) 707106 707107 = true := by kernel_rfl
  have a2 : isS (cosE 1 6) 500000 500000 = true := by kernel_rfl
  have a3 : isS (sinE 1 6) 866025 866026 = true := by kernel_rfl
  have a4 : isS (sinE 3 4) (-1000000) (-1000000) = true := by kernel_rfl
  simp only [e1, e2, e3, e4, e5, a1, a2, a3, a4, I64]
  simpa using hk
theorem ok_law05_alive : SoundN Go.Proofs.Try.prog 18 S_law05_alive := by
  refine soundN_of sg_law05_alive fun args H K hS => ?_
  unfold S_law05_alive at hS
  split at hS
  · skip
    have hS1 := key_law05_alive  (K := fun a => plainA a = true ∧ K a) ⟨by simp [plainA, plainL], hS⟩
    refine ⟨by simp [plainA, plainL], ?_⟩
    rw [nf_law05_alive  fun a => plainA a = true ∧ K a]
    exact hS1
  · exact hS.elim

def FM_law05_common : FM := ⟨17, [(RV.tmp 4)], (MC.seq (MC.ops [⟨(some 2), none, (MI.box 23 (MO.t 0))⟩, ⟨(some 3), none, (MI.box 23 (MO.t 1))⟩, ⟨(some 4), none, (MI.mv (MO.c (AV.b false)))⟩]) (MC.seq (MC.ops [⟨(some 5), none, (MI.faddr 0 (MO.t 2))⟩, ⟨(some 6), none, (MI.load (MO.t 5))⟩, ⟨(some 7), none, (MI.faddr 1 (MO.t 3))⟩, ⟨(some 8), none, (MI.load (MO.t 7))⟩, ⟨(some 9), none, (MI.bin .leq (MO.t 6) (MO.t 8))⟩, ⟨(some 10), none, (MI.mv (MO.t 9))⟩, ⟨(some 11), (some (10, true)), (MI.faddr 0 (MO.t 3))⟩, ⟨(some 12), (some (10, true)), (MI.load (MO.t 11))⟩, ⟨(some 13), (some (10, true)), (MI.faddr 1 (MO.t 2))⟩, ⟨(some 14), (some (10, true)), (MI.load (MO.t 13))⟩, ⟨(some 15), (some (10, true)), (MI.bin .leq (MO.t 12) (MO.t 14))⟩, ⟨(some 16), none, (MI.pick (MO.t 10) (MO.t 15) (MO.c (AV.b false)))⟩, ⟨(some 4), none, (MI.mv (MO.t 16))⟩]) MC.ret))⟩
theorem FMc_law05_common : compF Go.Proofs.Try.prog (eqsP Go.Proofs.Try.prog) (neutOf []) (neutOf []) 23 = some FM_law05_common := by kernel_rfl
def G_law05_common : Gam := mkG [] []
theorem sg_law05_common : SoundG Go.Proofs.Try.prog 23 (WF G_law05_common 0 FM_law05_common) := WF_sound (allD_ok (n := G_law05_common.n) (l := []) trivial) mixP (mkG_ok (n := []) (g := []) trivial trivial) eqsP_ok FMc_law05_common
def S_law05_common : NSpec := fun args _ K => match args with
  | [(.agg [(.i .i64 a), (.i .i64 b)]), (.agg [(.i .i64 c), (.i .i64 d)])] => K (.b (decide (a ≤ d ∧ c ≤ b)))
  | _ => False
theorem det_law05_common : DetN S_law05_common := by
  intro args H K h
  unfold S_law05_common at h
  split at h
  · exact ⟨_, h, fun H' K' _ k => k⟩
  · exact h.elim

def NF_law05_common (a b c d : Int) (K : AV → Prop) : Prop :=
 (bif decide (a ≤ d) then K (.b (decide (c ≤ b)))
 else K (.b false))
theorem nf_law05_common (a b c d : Int) (K : AV → Prop) : WF G_law05_common 0 FM_law05_common [(.agg [(.i .i64 a), (.i .i64 b)]), (.agg [(.i .i64 c), (.i .i64 d)])] [] (fun a _ => K a) = NF_law05_common a b c d K := by kernel_rfl
theorem key_law05_common (a b c d : Int) {K : AV → Prop} (hk : K (.b (decide (a ≤ d ∧ c ≤ b)))) : NF_law05_common a b c d K := by
  unfold NF_law05_common
  refine bif_i (fun h => K_of hk ?_) (fun h => K_of hk ?_) <;> simp only [decide_eq_true_eq, decide_eq_false_iff_not] at h <;> congr 1
  · simp [h]
  · simp [h]
theorem ok_law05_common : SoundN Go.Proofs.Try.prog 23 S_law05_common := by
  refine soundN_of sg_law05_common fun args H K hS => ?_
  unfold S_law05_common at hS
  split at hS
  · rename_i a b c d
    have hS1 := key_law05_common a b c d (K := fun a => plainA a = true ∧ K a) ⟨by simp [plainA, plainL], hS⟩
    refine ⟨by simp [plainA, plainL], ?_⟩
    rw [nf_law05_common a b c d fun a => plainA a = true ∧ K a]
    exact hS1
  · exact hS.elim

end Go.Proofs.Ytkmhmabkahaekaa.V
