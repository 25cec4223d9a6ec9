/-
  Contracts, printed by a program of this session (wip/tool/sym.py) from the unit text sri: what each function comes to, and its proof.
-/
import Derived.Test.YtkmhmabkahaekaaSa5
import Derived.Test.YtkmhmabkahaekaaProg
set_option linter.unusedVariables false
set_option linter.unusedSimpArgs false
set_option maxRecDepth 100000
namespace Go.Proofs.Ytkmhmabkahaekaa.V
open Go Go.RowKit
open Go.IntKind (u64 i64 u8 i32 u32)

def FM_ref05_In : FM := ⟨31, [(RV.tmp 4)], (MC.seq (MC.ops [⟨(some 2), none, (MI.box 23 (MO.t 0))⟩, ⟨(some 3), none, (MI.box 45 (MO.t 1))⟩, ⟨(some 4), none, (MI.mv (MO.c (AV.b false)))⟩]) (MC.seq (MC.ops [⟨(some 10), none, (MI.faddr 0 (MO.t 2))⟩, ⟨(some 11), none, (MI.load (MO.t 10))⟩, ⟨(some 12), none, (MI.callN 60 [(MO.t 11), (MO.c (AV.i .i64 1000000))])⟩, ⟨(some 9), none, (MI.mv (MO.t 12))⟩, ⟨(some 13), none, (MI.ext (MO.t 9) 0)⟩, ⟨(some 14), none, (MI.ext (MO.t 9) 1)⟩, ⟨(some 5), none, (MI.alloc 45 [(AV.i .i64 0), (AV.i .i64 0)])⟩, ⟨none, none, (MI.store 2 (MO.t 5) (MO.t 13))⟩, ⟨(some 6), none, (MI.mv (MO.t 14))⟩]) (MC.seq (MC.ops [⟨(some 16), none, (MI.faddr 1 (MO.t 2))⟩, ⟨(some 17), none, (MI.load (MO.t 16))⟩, ⟨(some 18), none, (MI.callN 60 [(MO.t 17), (MO.c (AV.i .i64 1000000))])⟩, ⟨(some 15), none, (MI.mv (MO.t 18))⟩, ⟨(some 19), none, (MI.ext (MO.t 15) 0)⟩, ⟨(some 20), none, (MI.ext (MO.t 15) 1)⟩, ⟨(some 7), none, (MI.alloc 45 [(AV.i .i64 0), (AV.i .i64 0)])⟩, ⟨none, none, (MI.store 2 (MO.t 7) (MO.t 19))⟩, ⟨(some 8), none, (MI.mv (MO.t 20))⟩]) (MC.seq (MC.ops [⟨(some 21), none, (MI.loadn 2 (MO.t 3))⟩, ⟨(some 22), none, (MI.loadn 2 (MO.t 5))⟩, ⟨(some 23), none, (MI.callN 61 [(MO.t 21), (MO.t 22)])⟩, ⟨(some 24), none, (MI.un .not (MO.t 23))⟩, ⟨(some 25), none, (MI.mv (MO.t 24))⟩, ⟨(some 26), (some (25, true)), (MI.loadn 2 (MO.t 7))⟩, ⟨(some 27), (some (25, true)), (MI.loadn 2 (MO.t 3))⟩, ⟨(some 28), (some (25, true)), (MI.callN 61 [(MO.t 26), (MO.t 27)])⟩, ⟨(some 29), (some (25, true)), (MI.un .not (MO.t 28))⟩, ⟨(some 30), none, (MI.pick (MO.t 25) (MO.t 29) (MO.c (AV.b false)))⟩, ⟨(some 4), none, (MI.mv (MO.t 30))⟩]) MC.ret))))⟩
theorem FMc_ref05_In : compF Go.Proofs.Try.prog (eqsP Go.Proofs.Try.prog) (neutOf [60, 61]) (neutOf [60, 61]) 38 = some FM_ref05_In := by kernel_rfl
def G_ref05_In : Gam := mkG [(60, S_ref01_Make), (61, S_ref01_Less)] []
theorem sg_ref05_In : SoundG Go.Proofs.Try.prog 38 (WF G_ref05_In 0 FM_ref05_In) := WF_sound (allD_ok (n := G_ref05_In.n) (l := [60, 61]) ⟨det_ref01_Make, det_ref01_Less, trivial⟩) mixP (mkG_ok (n := [(60, S_ref01_Make), (61, S_ref01_Less)]) (g := []) ⟨ok_ref01_Make, ok_ref01_Less, trivial⟩ trivial) eqsP_ok FMc_ref05_In
def S_ref05_In : NSpec := fun args _ K => match args with
  | [(.agg [(.i .i64 a), (.i .i64 b)]), (.agg [(.i .i64 n), (.i .i64 d)])] => (spanOk a b ∧ okF n d) ∧ K (.b ((sHas a b n d).v))
  | _ => False
theorem det_ref05_In : DetN S_ref05_In := by
  intro args H K h
  unfold S_ref05_In at h
  split at h
  · exact ⟨_, h.2, fun H' K' _ k => ⟨h.1, k⟩⟩
  · exact h.elim

def NF_ref05_In (a b n d : Int) (K : AV → Prop) : Prop :=
 ((I64 a ∧ I64 (1000000 : Int)) ∧
 ((I64 b ∧ I64 (1000000 : Int)) ∧
 ((okF n d ∧ okF (makeF a (1000000 : Int)).n (makeF a (1000000 : Int)).d) ∧
 (bif (!(decide (n * (makeF a (1000000 : Int)).d < (makeF a (1000000 : Int)).n * d))) then ((okF (makeF b (1000000 : Int)).n (makeF b (1000000 : Int)).d ∧ okF n d) ∧
 K (.b (!(decide ((makeF b (1000000 : Int)).n * d < n * (makeF b (1000000 : Int)).d)))))
 else K (.b false)))))
theorem nf_ref05_In (a b n d : Int) (K : AV → Prop) : WF G_ref05_In 0 FM_ref05_In [(.agg [(.i .i64 a), (.i .i64 b)]), (.agg [(.i .i64 n), (.i .i64 d)])] [] (fun a _ => K a) = NF_ref05_In a b n d K := by kernel_rfl
theorem key_ref05_In (a b n d : Int) {K : AV → Prop} (hp : spanOk a b ∧ okF n d) (hk : K (.b ((sHas a b n d).v))) : NF_ref05_In a b n d K := by
  unfold NF_ref05_In
  obtain ⟨h, ho⟩ := hp
  
  obtain ⟨p, q, e1, k1, k2, k3⟩ := make_unit (a := a) (by unfold spanOk at h; omega)
  obtain ⟨r, t, e2, l1, l2, l3⟩ := make_unit (a := b) (by unfold spanOk at h; omega)
  obtain ⟨u1, _⟩ := unit_le (d := d) (n := n) k3 k2
  obtain ⟨_, u2⟩ := unit_le (d := d) (n := n) l3 l2
  obtain ⟨⟨v1, v2, v3, v4⟩, _⟩ := id k1
  obtain ⟨⟨w1, w2, w3, w4⟩, _⟩ := id l1
  
  have hs : (sHas a b n d).v = decide (a * d ≤ n * 1000000 ∧ n * 1000000 ≤ b * d) := by simp [sHas, h, ho]
  rw [hs] at hk
  have i : I64 a ∧ I64 b ∧ I64 (1000000 : Int) := by unfold spanOk at h; unfold I64; omega
  rw [e1, e2]
  refine ⟨⟨i.1, i.2.2⟩, ⟨i.2.1, i.2.2⟩, ⟨ho, k1⟩, bif_i (fun h1 => ⟨⟨l1, ho⟩, K_of hk ?_⟩) (fun h1 => K_of hk ?_)⟩ <;> simp only [Bool.not_eq_true', Bool.not_eq_false', decide_eq_true_eq, decide_eq_false_iff_not] at h1 <;> congr 1 <;> rw [Bool.eq_iff_iff] <;> simp only [Bool.not_eq_true', decide_eq_true_eq, decide_eq_false_iff_not]
  · omega
  · simp; omega
theorem ok_ref05_In : SoundN Go.Proofs.Try.prog 38 S_ref05_In := by
  refine soundN_of sg_ref05_In fun args H K hS => ?_
  unfold S_ref05_In at hS
  split at hS
  · rename_i a b n d
    have hS1 := key_ref05_In a b n d (K := fun a => plainA a = true ∧ K a) hS.1 ⟨by simp [plainA, plainL], hS.2⟩
    refine ⟨by simp [plainA, plainL], ?_⟩
    rw [nf_ref05_In a b n d fun a => plainA a = true ∧ K a]
    exact hS1
  · exact hS.elim

end Go.Proofs.Ytkmhmabkahaekaa.V
