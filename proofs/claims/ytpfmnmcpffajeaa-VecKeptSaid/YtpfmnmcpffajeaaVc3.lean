/-
  Contracts, printed by a program of this session (wip/tool/sym.py) from the unit text vc3: what each function comes to, and its proof.
-/
import Derived.Test.YtpfmnmcpffajeaaRf1
import Derived.Test.YtpfmnmcpffajeaaProg
set_option linter.unusedVariables false
set_option linter.unusedSimpArgs false
set_option maxRecDepth 100000
namespace Go.Proofs.Ytpfmnmcpffajeaa.V
open Go Go.RowKit
open Go.IntKind (u64 i64 u8 i32 u32)


theorem each3_ok2 {K : AV → Prop} {p1 p2 p3 : Prop} {x y z : FR} (hp : p1 ∧ p2 ∧ p3) (hk : K (.tup [(.agg [(.i .i64 (each3 x y z).a), (.i .i64 (each3 x y z).b), (.i .i64 (each3 x y z).c), (.i .i64 (each3 x y z).d), (.i .i64 (each3 x y z).e), (.i .i64 (each3 x y z).f)]), (.i .i64 (each3 x y z).er)])) :
    p1 ∧ bif (x.e != 0) then K (.tup [(.agg [(.i .i64 0), (.i .i64 0), (.i .i64 0), (.i .i64 0), (.i .i64 0), (.i .i64 0)]), (.i .i64 x.e)]) else (p2 ∧ bif (y.e != 0) then K (.tup [(.agg [(.i .i64 0), (.i .i64 0), (.i .i64 0), (.i .i64 0), (.i .i64 0), (.i .i64 0)]), (.i .i64 y.e)]) else (p3 ∧ bif (z.e != 0) then K (.tup [(.agg [(.i .i64 0), (.i .i64 0), (.i .i64 0), (.i .i64 0), (.i .i64 0), (.i .i64 0)]), (.i .i64 z.e)]) else K (.tup [(.agg [(.i .i64 x.n), (.i .i64 x.d), (.i .i64 y.n), (.i .i64 y.d), (.i .i64 z.n), (.i .i64 z.d)]), (.i .i64 0)]))) := each3_ok hp hk
def okM (m00n m00d m01n m01d m02n m02d m10n m10d m11n m11d m12n m12d m20n m20d m21n m21d m22n m22d : Int) : Prop := okV m00n m00d m01n m01d m02n m02d ∧ okV m10n m10d m11n m11d m12n m12d ∧ okV m20n m20d m21n m21d m22n m22d
instance (m00n m00d m01n m01d m02n m02d m10n m10d m11n m11d m12n m12d m20n m20d m21n m21d m22n m22d : Int) : Decidable (okM m00n m00d m01n m01d m02n m02d m10n m10d m11n m11d m12n m12d m20n m20d m21n m21d m22n m22d) := by unfold okM; infer_instance
def applyF (m00n m00d m01n m01d m02n m02d m10n m10d m11n m11d m12n m12d m20n m20d m21n m21d m22n m22d p q r s t u : Int) : VR := if okM m00n m00d m01n m01d m02n m02d m10n m10d m11n m11d m12n m12d m20n m20d m21n m21d m22n m22d ∧ okV p q r s t u then each3 (dotF m00n m00d m01n m01d m02n m02d p q r s t u) (dotF m10n m10d m11n m11d m12n m12d p q r s t u) (dotF m20n m20d m21n m21d m22n m22d p q r s t u) else badV
def dotC (a b c d e f : Int) (x : VR) : FR := if x.er ≠ 0 then ⟨0, 0, x.er⟩ else dotF a b c d e f x.a x.b x.c x.d x.e x.f
def detF (m00n m00d m01n m01d m02n m02d m10n m10d m11n m11d m12n m12d m20n m20d m21n m21d m22n m22d : Int) : FR := if okM m00n m00d m01n m01d m02n m02d m10n m10d m11n m11d m12n m12d m20n m20d m21n m21d m22n m22d then dotC m00n m00d m01n m01d m02n m02d (crossF m10n m10d m11n m11d m12n m12d m20n m20d m21n m21d m22n m22d) else ⟨0, 0, 8⟩
structure TRn where
  cn : Int
  cd : Int
  sn : Int
  sd : Int
  one : Int
  e : Int
def turnB (e : Int) : TRn := ⟨0, 0, 0, 0, 0, e⟩
def turnF (n d : Int) : TRn :=
  if okF n d then
    if (mulF n d n d).e ≠ 0 then turnB (mulF n d n d).e
    else if (subF 1 1 (mulF n d n d).n (mulF n d n d).d).e ≠ 0 ∨ (addF 1 1 (mulF n d n d).n (mulF n d n d).d).e ≠ 0 then turnB 16
    else if (divF (subF 1 1 (mulF n d n d).n (mulF n d n d).d).n (subF 1 1 (mulF n d n d).n (mulF n d n d).d).d (addF 1 1 (mulF n d n d).n (mulF n d n d).d).n (addF 1 1 (mulF n d n d).n (mulF n d n d).d).d).e ≠ 0 ∨ (addF n d n d).e ≠ 0 then turnB 16
    else if (divF (addF n d n d).n (addF n d n d).d (addF 1 1 (mulF n d n d).n (mulF n d n d).d).n (addF 1 1 (mulF n d n d).n (mulF n d n d).d).d).e ≠ 0 then turnB (divF (addF n d n d).n (addF n d n d).d (addF 1 1 (mulF n d n d).n (mulF n d n d).d).n (addF 1 1 (mulF n d n d).n (mulF n d n d).d).d).e
    else ⟨(divF (subF 1 1 (mulF n d n d).n (mulF n d n d).d).n (subF 1 1 (mulF n d n d).n (mulF n d n d).d).d (addF 1 1 (mulF n d n d).n (mulF n d n d).d).n (addF 1 1 (mulF n d n d).n (mulF n d n d).d).d).n, (divF (subF 1 1 (mulF n d n d).n (mulF n d n d).d).n (subF 1 1 (mulF n d n d).n (mulF n d n d).d).d (addF 1 1 (mulF n d n d).n (mulF n d n d).d).n (addF 1 1 (mulF n d n d).n (mulF n d n d).d).d).d, (divF (addF n d n d).n (addF n d n d).d (addF 1 1 (mulF n d n d).n (mulF n d n d).d).n (addF 1 1 (mulF n d n d).n (mulF n d n d).d).d).n, (divF (addF n d n d).n (addF n d n d).d (addF 1 1 (mulF n d n d).n (mulF n d n d).d).n (addF 1 1 (mulF n d n d).n (mulF n d n d).d).d).d, 1, 0⟩
  else turnB 8
theorem subF_range (a b c d : Int) : I64 (subF a b c d).n ∧ I64 (subF a b c d).d := by
  unfold subF; split
  · exact ofRat_range _
  · unfold I64; simp
theorem divF_range (a b c d : Int) : I64 (divF a b c d).n ∧ I64 (divF a b c d).d := by
  unfold divF; split
  · split
    · unfold I64; simp
    · exact ofRat_range _
  · unfold I64; simp
theorem stepF_range {s p : FR} (h : I64 s.n ∧ I64 s.d) : I64 (stepF s p).n ∧ I64 (stepF s p).d := by
  unfold stepF
  split
  · unfold I64; simp
  · split
    · unfold I64; simp
    · split
      · unfold I64; simp
      · exact addF_range ..
theorem twoF_range (a b p q c d r s : Int) : I64 (twoF a b p q c d r s).n ∧ I64 (twoF a b p q c d r s).d := stepF_range (stepF_range (by unfold I64; simp))
theorem dotF_range (a b c d e f p q r s t u : Int) : I64 (dotF a b c d e f p q r s t u).n ∧ I64 (dotF a b c d e f p q r s t u).d := stepF_range (stepF_range (stepF_range (by unfold I64; simp)))
structure VRange (x : VR) : Prop where
  a : I64 x.a ∧ I64 x.b
  c : I64 x.c ∧ I64 x.d
  e : I64 x.e ∧ I64 x.f
theorem each3_range {x y z : FR} (hx : I64 x.n ∧ I64 x.d) (hy : I64 y.n ∧ I64 y.d) (hz : I64 z.n ∧ I64 z.d) : VRange (each3 x y z) := by
  have z0 : I64 0 := by unfold I64; omega
  unfold each3
  split
  · exact ⟨⟨z0, z0⟩, ⟨z0, z0⟩, z0, z0⟩
  · split
    · exact ⟨⟨z0, z0⟩, ⟨z0, z0⟩, z0, z0⟩
    · split
      · exact ⟨⟨z0, z0⟩, ⟨z0, z0⟩, z0, z0⟩
      · exact ⟨hx, hy, hz⟩
theorem badV_range : VRange badV := by
  have z0 : I64 0 := by unfold I64; omega
  exact ⟨⟨z0, z0⟩, ⟨z0, z0⟩, z0, z0⟩
theorem crossF_range (a b c d e f p q r s t u : Int) : VRange (crossF a b c d e f p q r s t u) := by
  unfold crossF
  split
  · exact each3_range (twoF_range ..) (twoF_range ..) (twoF_range ..)
  · exact badV_range

def FM_vec_Apply : FM := ⟨19, [(RV.cells 4 6), (RV.tmp 5)], (MC.seq (MC.ops [⟨(some 2), none, (MI.box 37 (MO.t 0))⟩, ⟨(some 3), none, (MI.box 25 (MO.t 1))⟩, ⟨(some 4), none, (MI.alloc 25 [(AV.i .i64 0), (AV.i .i64 0), (AV.i .i64 0), (AV.i .i64 0), (AV.i .i64 0), (AV.i .i64 0)])⟩, ⟨(some 5), none, (MI.mv (MO.c (AV.i .i64 0)))⟩]) (MC.seq (MC.seq (MC.ops [⟨(some 6), none, (MI.loadn 18 (MO.t 2))⟩, ⟨(some 7), none, (MI.callN 36 [(MO.t 6)])⟩, ⟨(some 8), none, (MI.un .not (MO.t 7))⟩, ⟨(some 9), none, (MI.mv (MO.t 8))⟩, ⟨(some 10), (some (9, false)), (MI.loadn 6 (MO.t 3))⟩, ⟨(some 11), (some (9, false)), (MI.callN 27 [(MO.t 10)])⟩, ⟨(some 12), (some (9, false)), (MI.bin .neq (MO.t 11) (MO.c (AV.i .i64 0)))⟩, ⟨(some 13), none, (MI.pick (MO.t 9) (MO.c (AV.b true)) (MO.t 12))⟩]) (MC.cond (MO.t 13) (MC.seq (MC.ops [⟨(some 14), none, (MI.build [(AV.i .i64 0), (AV.i .i64 0), (AV.i .i64 0), (AV.i .i64 0), (AV.i .i64 0), (AV.i .i64 0)] [])⟩, ⟨none, none, (MI.store 6 (MO.t 4) (MO.t 14))⟩, ⟨(some 5), none, (MI.mv (MO.c (AV.i .i64 8)))⟩]) MC.ret) MC.skip)) (MC.seq (MC.ops [⟨(some 15), none, (MI.mkf 41 [(MO.t 2), (MO.t 3)])⟩, ⟨(some 16), none, (MI.callG 30 [(MO.t 15)])⟩, ⟨(some 17), none, (MI.ext (MO.t 16) 0)⟩, ⟨(some 18), none, (MI.ext (MO.t 16) 1)⟩, ⟨none, none, (MI.store 6 (MO.t 4) (MO.t 17))⟩, ⟨(some 5), none, (MI.mv (MO.t 18))⟩]) MC.ret)))⟩
theorem FMc_vec_Apply : compF Go.Proofs.Try.prog (eqsP Go.Proofs.Try.prog) (neutOf [27, 36]) (neutOf [27, 36]) 17 = some FM_vec_Apply := by kernel_rfl
def G_vec_Apply : Gam := mkG [(27, S_vec_Check), (36, S_vec_fine)] [(30, WF G_vec_each 4 FM_vec_each), (41, WF G_vec_Apply_1 0 FM_vec_Apply_1)]
theorem sg_vec_Apply : SoundG Go.Proofs.Try.prog 17 (WF G_vec_Apply 0 FM_vec_Apply) := WF_sound (allD_ok (n := G_vec_Apply.n) (l := [27, 36]) ⟨det_vec_Check, det_vec_fine, trivial⟩) mixP (mkG_ok (n := [(27, S_vec_Check), (36, S_vec_fine)]) (g := [(30, WF G_vec_each 4 FM_vec_each), (41, WF G_vec_Apply_1 0 FM_vec_Apply_1)]) ⟨ok_vec_Check, ok_vec_fine, trivial⟩ ⟨sg_vec_each, sg_vec_Apply_1, trivial⟩) eqsP_ok FMc_vec_Apply
def S_vec_Apply : NSpec := fun args _ K => match args with
  | [(.agg [(.i .i64 m00n), (.i .i64 m00d), (.i .i64 m01n), (.i .i64 m01d), (.i .i64 m02n), (.i .i64 m02d), (.i .i64 m10n), (.i .i64 m10d), (.i .i64 m11n), (.i .i64 m11d), (.i .i64 m12n), (.i .i64 m12d), (.i .i64 m20n), (.i .i64 m20d), (.i .i64 m21n), (.i .i64 m21d), (.i .i64 m22n), (.i .i64 m22d)]), (.agg [(.i .i64 p), (.i .i64 q), (.i .i64 r), (.i .i64 s), (.i .i64 t), (.i .i64 u)])] => ((((I64 m00n ∧ I64 m00d) ∧ (I64 m01n ∧ I64 m01d) ∧ I64 m02n ∧ I64 m02d) ∧ ((I64 m10n ∧ I64 m10d) ∧ (I64 m11n ∧ I64 m11d) ∧ I64 m12n ∧ I64 m12d) ∧ ((I64 m20n ∧ I64 m20d) ∧ (I64 m21n ∧ I64 m21d) ∧ I64 m22n ∧ I64 m22d)) ∧ ((I64 p ∧ I64 q) ∧ (I64 r ∧ I64 s) ∧ I64 t ∧ I64 u)) ∧ K (.tup [(.agg [(.i .i64 (applyF m00n m00d m01n m01d m02n m02d m10n m10d m11n m11d m12n m12d m20n m20d m21n m21d m22n m22d p q r s t u).a), (.i .i64 (applyF m00n m00d m01n m01d m02n m02d m10n m10d m11n m11d m12n m12d m20n m20d m21n m21d m22n m22d p q r s t u).b), (.i .i64 (applyF m00n m00d m01n m01d m02n m02d m10n m10d m11n m11d m12n m12d m20n m20d m21n m21d m22n m22d p q r s t u).c), (.i .i64 (applyF m00n m00d m01n m01d m02n m02d m10n m10d m11n m11d m12n m12d m20n m20d m21n m21d m22n m22d p q r s t u).d), (.i .i64 (applyF m00n m00d m01n m01d m02n m02d m10n m10d m11n m11d m12n m12d m20n m20d m21n m21d m22n m22d p q r s t u).e), (.i .i64 (applyF m00n m00d m01n m01d m02n m02d m10n m10d m11n m11d m12n m12d m20n m20d m21n m21d m22n m22d p q r s t u).f)]), (.i .i64 (applyF m00n m00d m01n m01d m02n m02d m10n m10d m11n m11d m12n m12d m20n m20d m21n m21d m22n m22d p q r s t u).er)])
  | _ => False
theorem det_vec_Apply : DetN S_vec_Apply := by
  intro args H K h
  unfold S_vec_Apply at h
  split at h
  · exact ⟨_, h.2, fun H' K' _ k => ⟨h.1, k⟩⟩
  · exact h.elim

def NF_vec_Apply (m00n m00d m01n m01d m02n m02d m10n m10d m11n m11d m12n m12d m20n m20d m21n m21d m22n m22d p q r s t u : Int) (K : AV → Prop) : Prop :=
 ((((I64 m00n ∧ I64 m00d) ∧ (I64 m01n ∧ I64 m01d) ∧ I64 m02n ∧ I64 m02d) ∧ ((I64 m10n ∧ I64 m10d) ∧ (I64 m11n ∧ I64 m11d) ∧ I64 m12n ∧ I64 m12d) ∧ ((I64 m20n ∧ I64 m20d) ∧ (I64 m21n ∧ I64 m21d) ∧ I64 m22n ∧ I64 m22d)) ∧
 (bif (!(decide (okV m00n m00d m01n m01d m02n m02d ∧ okV m10n m10d m11n m11d m12n m12d ∧ okV m20n m20d m21n m21d m22n m22d))) then K (.tup [(.agg [(.i .i64 0), (.i .i64 0), (.i .i64 0), (.i .i64 0), (.i .i64 0), (.i .i64 0)]), (.i .i64 8)])
 else (((I64 p ∧ I64 q) ∧ (I64 r ∧ I64 s) ∧ I64 t ∧ I64 u) ∧
 (bif ((okVE p q r s t u) != 0) then K (.tup [(.agg [(.i .i64 0), (.i .i64 0), (.i .i64 0), (.i .i64 0), (.i .i64 0), (.i .i64 0)]), (.i .i64 8)])
 else ((((I64 m00n ∧ I64 m00d) ∧ (I64 m01n ∧ I64 m01d) ∧ I64 m02n ∧ I64 m02d) ∧ (I64 p ∧ I64 q) ∧ (I64 r ∧ I64 s) ∧ I64 t ∧ I64 u) ∧
 (bif ((dotF m00n m00d m01n m01d m02n m02d p q r s t u).e != 0) then K (.tup [(.agg [(.i .i64 0), (.i .i64 0), (.i .i64 0), (.i .i64 0), (.i .i64 0), (.i .i64 0)]), (.i .i64 (dotF m00n m00d m01n m01d m02n m02d p q r s t u).e)])
 else ((((I64 m10n ∧ I64 m10d) ∧ (I64 m11n ∧ I64 m11d) ∧ I64 m12n ∧ I64 m12d) ∧ (I64 p ∧ I64 q) ∧ (I64 r ∧ I64 s) ∧ I64 t ∧ I64 u) ∧
 (bif ((dotF m10n m10d m11n m11d m12n m12d p q r s t u).e != 0) then K (.tup [(.agg [(.i .i64 0), (.i .i64 0), (.i .i64 0), (.i .i64 0), (.i .i64 0), (.i .i64 0)]), (.i .i64 (dotF m10n m10d m11n m11d m12n m12d p q r s t u).e)])
 else ((((I64 m20n ∧ I64 m20d) ∧ (I64 m21n ∧ I64 m21d) ∧ I64 m22n ∧ I64 m22d) ∧ (I64 p ∧ I64 q) ∧ (I64 r ∧ I64 s) ∧ I64 t ∧ I64 u) ∧
 (bif ((dotF m20n m20d m21n m21d m22n m22d p q r s t u).e != 0) then K (.tup [(.agg [(.i .i64 0), (.i .i64 0), (.i .i64 0), (.i .i64 0), (.i .i64 0), (.i .i64 0)]), (.i .i64 (dotF m20n m20d m21n m21d m22n m22d p q r s t u).e)])
 else K (.tup [(.agg [(.i .i64 (dotF m00n m00d m01n m01d m02n m02d p q r s t u).n), (.i .i64 (dotF m00n m00d m01n m01d m02n m02d p q r s t u).d), (.i .i64 (dotF m10n m10d m11n m11d m12n m12d p q r s t u).n), (.i .i64 (dotF m10n m10d m11n m11d m12n m12d p q r s t u).d), (.i .i64 (dotF m20n m20d m21n m21d m22n m22d p q r s t u).n), (.i .i64 (dotF m20n m20d m21n m21d m22n m22d p q r s t u).d)]), (.i .i64 0)])))))))))))
theorem nf_vec_Apply (m00n m00d m01n m01d m02n m02d m10n m10d m11n m11d m12n m12d m20n m20d m21n m21d m22n m22d p q r s t u : Int) (K : AV → Prop) : WF G_vec_Apply 0 FM_vec_Apply [(.agg [(.i .i64 m00n), (.i .i64 m00d), (.i .i64 m01n), (.i .i64 m01d), (.i .i64 m02n), (.i .i64 m02d), (.i .i64 m10n), (.i .i64 m10d), (.i .i64 m11n), (.i .i64 m11d), (.i .i64 m12n), (.i .i64 m12d), (.i .i64 m20n), (.i .i64 m20d), (.i .i64 m21n), (.i .i64 m21d), (.i .i64 m22n), (.i .i64 m22d)]), (.agg [(.i .i64 p), (.i .i64 q), (.i .i64 r), (.i .i64 s), (.i .i64 t), (.i .i64 u)])] [] (fun a _ => K a) = NF_vec_Apply m00n m00d m01n m01d m02n m02d m10n m10d m11n m11d m12n m12d m20n m20d m21n m21d m22n m22d p q r s t u K := by kernel_rfl
theorem key_vec_Apply (m00n m00d m01n m01d m02n m02d m10n m10d m11n m11d m12n m12d m20n m20d m21n m21d m22n m22d p q r s t u : Int) {K : AV → Prop} (hp : (((I64 m00n ∧ I64 m00d) ∧ (I64 m01n ∧ I64 m01d) ∧ I64 m02n ∧ I64 m02d) ∧ ((I64 m10n ∧ I64 m10d) ∧ (I64 m11n ∧ I64 m11d) ∧ I64 m12n ∧ I64 m12d) ∧ ((I64 m20n ∧ I64 m20d) ∧ (I64 m21n ∧ I64 m21d) ∧ I64 m22n ∧ I64 m22d)) ∧ ((I64 p ∧ I64 q) ∧ (I64 r ∧ I64 s) ∧ I64 t ∧ I64 u)) (hk : K (.tup [(.agg [(.i .i64 (applyF m00n m00d m01n m01d m02n m02d m10n m10d m11n m11d m12n m12d m20n m20d m21n m21d m22n m22d p q r s t u).a), (.i .i64 (applyF m00n m00d m01n m01d m02n m02d m10n m10d m11n m11d m12n m12d m20n m20d m21n m21d m22n m22d p q r s t u).b), (.i .i64 (applyF m00n m00d m01n m01d m02n m02d m10n m10d m11n m11d m12n m12d m20n m20d m21n m21d m22n m22d p q r s t u).c), (.i .i64 (applyF m00n m00d m01n m01d m02n m02d m10n m10d m11n m11d m12n m12d m20n m20d m21n m21d m22n m22d p q r s t u).d), (.i .i64 (applyF m00n m00d m01n m01d m02n m02d m10n m10d m11n m11d m12n m12d m20n m20d m21n m21d m22n m22d p q r s t u).e), (.i .i64 (applyF m00n m00d m01n m01d m02n m02d m10n m10d m11n m11d m12n m12d m20n m20d m21n m21d m22n m22d p q r s t u).f)]), (.i .i64 (applyF m00n m00d m01n m01d m02n m02d m10n m10d m11n m11d m12n m12d m20n m20d m21n m21d m22n m22d p q r s t u).er)])) : NF_vec_Apply m00n m00d m01n m01d m02n m02d m10n m10d m11n m11d m12n m12d m20n m20d m21n m21d m22n m22d p q r s t u K := by
  unfold NF_vec_Apply
  obtain ⟨i, j⟩ := hp
  refine ⟨i, ?_⟩
  by_cases x : okM m00n m00d m01n m01d m02n m02d m10n m10d m11n m11d m12n m12d m20n m20d m21n m21d m22n m22d
  rotate_left
  · exact bif_i (fun _ => K_of hk (by simp [applyF, badV, x])) (fun h => by unfold okM at x; simp [x] at h)
  have x' := x
  unfold okM at x'
  refine bif_i (fun h => by simp [x'] at h) (fun _ => ⟨j, ?_⟩)
  by_cases y : okV p q r s t u
  rotate_left
  · exact bif_i (fun _ => K_of hk (by simp [applyF, badV, y])) (fun h => by simp [okVE, y] at h)
  refine bif_i (fun h => by simp [okVE, y] at h) (fun _ => ?_)
  have hc : applyF m00n m00d m01n m01d m02n m02d m10n m10d m11n m11d m12n m12d m20n m20d m21n m21d m22n m22d p q r s t u = each3 (dotF m00n m00d m01n m01d m02n m02d p q r s t u) (dotF m10n m10d m11n m11d m12n m12d p q r s t u) (dotF m20n m20d m21n m21d m22n m22d p q r s t u) := by unfold applyF; rw [if_pos ⟨x, y⟩]
  rw [hc] at hk
  have pp := And.intro (And.intro i.1 j) (And.intro (And.intro i.2.1 j) (And.intro i.2.2 j))
  have core := each3_ok (K := K) pp hk
  repeat' (first | exact core | apply And.intro)
theorem ok_vec_Apply : SoundN Go.Proofs.Try.prog 17 S_vec_Apply := by
  refine soundN_of sg_vec_Apply fun args H K hS => ?_
  unfold S_vec_Apply at hS
  split at hS
  · rename_i m00n m00d m01n m01d m02n m02d m10n m10d m11n m11d m12n m12d m20n m20d m21n m21d m22n m22d p q r s t u
    have hS1 := key_vec_Apply m00n m00d m01n m01d m02n m02d m10n m10d m11n m11d m12n m12d m20n m20d m21n m21d m22n m22d p q r s t u (K := fun a => plainA a = true ∧ K a) hS.1 ⟨by simp [plainA, plainL], hS.2⟩
    refine ⟨by simp [plainA, plainL], ?_⟩
    rw [nf_vec_Apply m00n m00d m01n m01d m02n m02d m10n m10d m11n m11d m12n m12d m20n m20d m21n m21d m22n m22d p q r s t u fun a => plainA a = true ∧ K a]
    exact hS1
  · exact hS.elim

def FM_vec_Det : FM := ⟨31, [(RV.cells 2 2), (RV.tmp 3)], (MC.seq (MC.ops [⟨(some 1), none, (MI.box 37 (MO.t 0))⟩, ⟨(some 2), none, (MI.alloc 23 [(AV.i .i64 0), (AV.i .i64 0)])⟩, ⟨(some 3), none, (MI.mv (MO.c (AV.i .i64 0)))⟩]) (MC.seq (MC.seq (MC.ops [⟨(some 6), none, (MI.loadn 18 (MO.t 1))⟩, ⟨(some 7), none, (MI.callN 36 [(MO.t 6)])⟩, ⟨(some 8), none, (MI.un .not (MO.t 7))⟩]) (MC.cond (MO.t 8) (MC.seq (MC.ops [⟨(some 9), none, (MI.build [(AV.i .i64 0), (AV.i .i64 0)] [])⟩, ⟨none, none, (MI.store 2 (MO.t 2) (MO.t 9))⟩, ⟨(some 3), none, (MI.mv (MO.c (AV.i .i64 8)))⟩]) MC.ret) MC.skip)) (MC.seq (MC.dr (SchM.op ⟨(some 11), none, (MI.iaddrA 3 6 (MO.t 1) (MO.c (AV.i .i64 1)))⟩ (SchM.op ⟨(some 12), none, (MI.loadn 6 (MO.t 11))⟩ (SchM.op ⟨(some 13), none, (MI.callN 37 [(MO.t 12)])⟩ (SchM.op ⟨(some 14), none, (MI.iaddrA 3 6 (MO.t 1) (MO.c (AV.i .i64 2)))⟩ (SchM.op ⟨(some 15), none, (MI.loadn 6 (MO.t 14))⟩ (SchM.op ⟨(some 16), none, (MI.callN 37 [(MO.t 15)])⟩ (SchM.op ⟨(some 17), none, (MI.callN 10 [(MO.t 13), (MO.t 16)])⟩ (SchM.op ⟨(some 10), none, (MI.mv (MO.t 17))⟩ (SchM.op ⟨(some 18), none, (MI.ext (MO.t 10) 0)⟩ (SchM.op ⟨(some 19), none, (MI.ext (MO.t 10) 1)⟩ (SchM.op ⟨(some 4), none, (MI.alloc 25 [(AV.i .i64 0), (AV.i .i64 0), (AV.i .i64 0), (AV.i .i64 0), (AV.i .i64 0), (AV.i .i64 0)])⟩ (SchM.op ⟨none, none, (MI.store 6 (MO.t 4) (MO.t 18))⟩ (SchM.op ⟨(some 5), none, (MI.mv (MO.t 19))⟩ SchM.done)))))))))))))) (MC.seq (MC.seq (MC.ops [⟨(some 20), none, (MI.mv (MO.t 5))⟩, ⟨(some 21), none, (MI.bin .neq (MO.t 20) (MO.c (AV.i .i64 0)))⟩]) (MC.cond (MO.t 21) (MC.seq (MC.ops [⟨(some 22), none, (MI.build [(AV.i .i64 0), (AV.i .i64 0)] [])⟩, ⟨(some 23), none, (MI.mv (MO.t 5))⟩, ⟨none, none, (MI.store 2 (MO.t 2) (MO.t 22))⟩, ⟨(some 3), none, (MI.mv (MO.t 23))⟩]) MC.ret) MC.skip)) (MC.seq (MC.dr (SchM.op ⟨(some 24), none, (MI.iaddrA 3 6 (MO.t 1) (MO.c (AV.i .i64 0)))⟩ (SchM.op ⟨(some 25), none, (MI.loadn 6 (MO.t 24))⟩ (SchM.op ⟨(some 26), none, (MI.loadn 6 (MO.t 4))⟩ (SchM.op ⟨(some 27), none, (MI.callN 29 [(MO.t 26)])⟩ (SchM.op ⟨(some 28), none, (MI.callN 35 [(MO.t 25), (MO.t 27)])⟩ (SchM.op ⟨(some 29), none, (MI.ext (MO.t 28) 0)⟩ (SchM.op ⟨(some 30), none, (MI.ext (MO.t 28) 1)⟩ (SchM.op ⟨none, none, (MI.store 2 (MO.t 2) (MO.t 29))⟩ (SchM.op ⟨(some 3), none, (MI.mv (MO.t 30))⟩ SchM.done)))))))))) MC.ret)))))⟩
theorem FMc_vec_Det : compF Go.Proofs.Try.prog (eqsP Go.Proofs.Try.prog) (neutOf [10, 29, 35, 36, 37]) (neutOf [10, 29, 35, 36, 37]) 13 = some FM_vec_Det := by kernel_rfl
def G_vec_Det : Gam := mkG [(10, S_vec_Cross), (29, S_vec_list), (35, S_vec_dot), (36, S_vec_fine), (37, S_vec_vec)] []
theorem sg_vec_Det : SoundG Go.Proofs.Try.prog 13 (WF G_vec_Det 0 FM_vec_Det) := WF_sound (allD_ok (n := G_vec_Det.n) (l := [10, 29, 35, 36, 37]) ⟨det_vec_Cross, det_vec_list, det_vec_dot, det_vec_fine, det_vec_vec, trivial⟩) mixP (mkG_ok (n := [(10, S_vec_Cross), (29, S_vec_list), (35, S_vec_dot), (36, S_vec_fine), (37, S_vec_vec)]) (g := []) ⟨ok_vec_Cross, ok_vec_list, ok_vec_dot, ok_vec_fine, ok_vec_vec, trivial⟩ trivial) eqsP_ok FMc_vec_Det
def S_vec_Det : NSpec := fun args _ K => match args with
  | [(.agg [(.i .i64 m00n), (.i .i64 m00d), (.i .i64 m01n), (.i .i64 m01d), (.i .i64 m02n), (.i .i64 m02d), (.i .i64 m10n), (.i .i64 m10d), (.i .i64 m11n), (.i .i64 m11d), (.i .i64 m12n), (.i .i64 m12d), (.i .i64 m20n), (.i .i64 m20d), (.i .i64 m21n), (.i .i64 m21d), (.i .i64 m22n), (.i .i64 m22d)])] => (((I64 m00n ∧ I64 m00d) ∧ (I64 m01n ∧ I64 m01d) ∧ I64 m02n ∧ I64 m02d) ∧ ((I64 m10n ∧ I64 m10d) ∧ (I64 m11n ∧ I64 m11d) ∧ I64 m12n ∧ I64 m12d) ∧ ((I64 m20n ∧ I64 m20d) ∧ (I64 m21n ∧ I64 m21d) ∧ I64 m22n ∧ I64 m22d)) ∧ K (.tup [(.agg [(.i .i64 (detF m00n m00d m01n m01d m02n m02d m10n m10d m11n m11d m12n m12d m20n m20d m21n m21d m22n m22d).n), (.i .i64 (detF m00n m00d m01n m01d m02n m02d m10n m10d m11n m11d m12n m12d m20n m20d m21n m21d m22n m22d).d)]), (.i .i64 (detF m00n m00d m01n m01d m02n m02d m10n m10d m11n m11d m12n m12d m20n m20d m21n m21d m22n m22d).e)])
  | _ => False
theorem det_vec_Det : DetN S_vec_Det := by
  intro args H K h
  unfold S_vec_Det at h
  split at h
  · exact ⟨_, h.2, fun H' K' _ k => ⟨h.1, k⟩⟩
  · exact h.elim

def NF_vec_Det (m00n m00d m01n m01d m02n m02d m10n m10d m11n m11d m12n m12d m20n m20d m21n m21d m22n m22d : Int) (K : AV → Prop) : Prop :=
 ((((I64 m00n ∧ I64 m00d) ∧ (I64 m01n ∧ I64 m01d) ∧ I64 m02n ∧ I64 m02d) ∧ ((I64 m10n ∧ I64 m10d) ∧ (I64 m11n ∧ I64 m11d) ∧ I64 m12n ∧ I64 m12d) ∧ ((I64 m20n ∧ I64 m20d) ∧ (I64 m21n ∧ I64 m21d) ∧ I64 m22n ∧ I64 m22d)) ∧
 (bif (!(decide (okV m00n m00d m01n m01d m02n m02d ∧ okV m10n m10d m11n m11d m12n m12d ∧ okV m20n m20d m21n m21d m22n m22d))) then K (.tup [(.agg [(.i .i64 0), (.i .i64 0)]), (.i .i64 8)])
 else ((((I64 m10n ∧ I64 m10d) ∧ (I64 m11n ∧ I64 m11d) ∧ I64 m12n ∧ I64 m12d) ∧ (I64 m20n ∧ I64 m20d) ∧ (I64 m21n ∧ I64 m21d) ∧ I64 m22n ∧ I64 m22d) ∧
 (bif ((crossF m10n m10d m11n m11d m12n m12d m20n m20d m21n m21d m22n m22d).er != 0) then K (.tup [(.agg [(.i .i64 0), (.i .i64 0)]), (.i .i64 (crossF m10n m10d m11n m11d m12n m12d m20n m20d m21n m21d m22n m22d).er)])
 else ((((I64 m00n ∧ I64 m00d) ∧ (I64 m01n ∧ I64 m01d) ∧ I64 m02n ∧ I64 m02d) ∧ (I64 (crossF m10n m10d m11n m11d m12n m12d m20n m20d m21n m21d m22n m22d).a ∧ I64 (crossF m10n m10d m11n m11d m12n m12d m20n m20d m21n m21d m22n m22d).b) ∧ (I64 (crossF m10n m10d m11n m11d m12n m12d m20n m20d m21n m21d m22n m22d).c ∧ I64 (crossF m10n m10d m11n m11d m12n m12d m20n m20d m21n m21d m22n m22d).d) ∧ I64 (crossF m10n m10d m11n m11d m12n m12d m20n m20d m21n m21d m22n m22d).e ∧ I64 (crossF m10n m10d m11n m11d m12n m12d m20n m20d m21n m21d m22n m22d).f) ∧
 K (.tup [(.agg [(.i .i64 (dotF m00n m00d m01n m01d m02n m02d (crossF m10n m10d m11n m11d m12n m12d m20n m20d m21n m21d m22n m22d).a (crossF m10n m10d m11n m11d m12n m12d m20n m20d m21n m21d m22n m22d).b (crossF m10n m10d m11n m11d m12n m12d m20n m20d m21n m21d m22n m22d).c (crossF m10n m10d m11n m11d m12n m12d m20n m20d m21n m21d m22n m22d).d (crossF m10n m10d m11n m11d m12n m12d m20n m20d m21n m21d m22n m22d).e (crossF m10n m10d m11n m11d m12n m12d m20n m20d m21n m21d m22n m22d).f).n), (.i .i64 (dotF m00n m00d m01n m01d m02n m02d (crossF m10n m10d m11n m11d m12n m12d m20n m20d m21n m21d m22n m22d).a (crossF m10n m10d m11n m11d m12n m12d m20n m20d m21n m21d m22n m22d).b (crossF m10n m10d m11n m11d m12n m12d m20n m20d m21n m21d m22n m22d).c (crossF m10n m10d m11n m11d m12n m12d m20n m20d m21n m21d m22n m22d).d (crossF m10n m10d m11n m11d m12n m12d m20n m20d m21n m21d m22n m22d).e (crossF m10n m10d m11n m11d m12n m12d m20n m20d m21n m21d m22n m22d).f).d)]), (.i .i64 (dotF m00n m00d m01n m01d m02n m02d (crossF m10n m10d m11n m11d m12n m12d m20n m20d m21n m21d m22n m22d).a (crossF m10n m10d m11n m11d m12n m12d m20n m20d m21n m21d m22n m22d).b (crossF m10n m10d m11n m11d m12n m12d m20n m20d m21n m21d m22n m22d).c (crossF m10n m10d m11n m11d m12n m12d m20n m20d m21n m21d m22n m22d).d (crossF m10n m10d m11n m11d m12n m12d m20n m20d m21n m21d m22n m22d).e (crossF m10n m10d m11n m11d m12n m12d m20n m20d m21n m21d m22n m22d).f).e)]))))))
theorem nf_vec_Det (m00n m00d m01n m01d m02n m02d m10n m10d m11n m11d m12n m12d m20n m20d m21n m21d m22n m22d : Int) (K : AV → Prop) : WF G_vec_Det 0 FM_vec_Det [(.agg [(.i .i64 m00n), (.i .i64 m00d), (.i .i64 m01n), (.i .i64 m01d), (.i .i64 m02n), (.i .i64 m02d), (.i .i64 m10n), (.i .i64 m10d), (.i .i64 m11n), (.i .i64 m11d), (.i .i64 m12n), (.i .i64 m12d), (.i .i64 m20n), (.i .i64 m20d), (.i .i64 m21n), (.i .i64 m21d), (.i .i64 m22n), (.i .i64 m22d)])] [] (fun a _ => K a) = NF_vec_Det m00n m00d m01n m01d m02n m02d m10n m10d m11n m11d m12n m12d m20n m20d m21n m21d m22n m22d K := by kernel_rfl
theorem key_vec_Det (m00n m00d m01n m01d m02n m02d m10n m10d m11n m11d m12n m12d m20n m20d m21n m21d m22n m22d : Int) {K : AV → Prop} (hp : ((I64 m00n ∧ I64 m00d) ∧ (I64 m01n ∧ I64 m01d) ∧ I64 m02n ∧ I64 m02d) ∧ ((I64 m10n ∧ I64 m10d) ∧ (I64 m11n ∧ I64 m11d) ∧ I64 m12n ∧ I64 m12d) ∧ ((I64 m20n ∧ I64 m20d) ∧ (I64 m21n ∧ I64 m21d) ∧ I64 m22n ∧ I64 m22d)) (hk : K (.tup [(.agg [(.i .i64 (detF m00n m00d m01n m01d m02n m02d m10n m10d m11n m11d m12n m12d m20n m20d m21n m21d m22n m22d).n), (.i .i64 (detF m00n m00d m01n m01d m02n m02d m10n m10d m11n m11d m12n m12d m20n m20d m21n m21d m22n m22d).d)]), (.i .i64 (detF m00n m00d m01n m01d m02n m02d m10n m10d m11n m11d m12n m12d m20n m20d m21n m21d m22n m22d).e)])) : NF_vec_Det m00n m00d m01n m01d m02n m02d m10n m10d m11n m11d m12n m12d m20n m20d m21n m21d m22n m22d K := by
  unfold NF_vec_Det
  refine ⟨hp, ?_⟩
  by_cases x : okM m00n m00d m01n m01d m02n m02d m10n m10d m11n m11d m12n m12d m20n m20d m21n m21d m22n m22d
  rotate_left
  · exact bif_i (fun _ => K_of hk (by simp [detF, x])) (fun h => by unfold okM at x; simp [x] at h)
  have x' := x
  unfold okM at x'
  have hd : detF m00n m00d m01n m01d m02n m02d m10n m10d m11n m11d m12n m12d m20n m20d m21n m21d m22n m22d = dotC m00n m00d m01n m01d m02n m02d (crossF m10n m10d m11n m11d m12n m12d m20n m20d m21n m21d m22n m22d) := by unfold detF; rw [if_pos x]
  rw [hd] at hk
  unfold dotC at hk
  obtain ⟨ra, rc, re⟩ := crossF_range m10n m10d m11n m11d m12n m12d m20n m20d m21n m21d m22n m22d
  obtain ⟨i0, i1, i2⟩ := hp
  refine bif_i (fun h => by simp [x'] at h) (fun _ => ⟨⟨i1, i2⟩, bif_i (fun h => K_of hk ?_) (fun h => ⟨⟨i0, ra, rc, re⟩, K_of hk ?_⟩)⟩)
  · have : (crossF m10n m10d m11n m11d m12n m12d m20n m20d m21n m21d m22n m22d).er ≠ 0 := by simpa using h
    simp only [if_pos this]
  · have : ¬ (crossF m10n m10d m11n m11d m12n m12d m20n m20d m21n m21d m22n m22d).er ≠ 0 := by simpa using h
    simp only [if_neg this]
theorem ok_vec_Det : SoundN Go.Proofs.Try.prog 13 S_vec_Det := by
  refine soundN_of sg_vec_Det fun args H K hS => ?_
  unfold S_vec_Det at hS
  split at hS
  · rename_i m00n m00d m01n m01d m02n m02d m10n m10d m11n m11d m12n m12d m20n m20d m21n m21d m22n m22d
    have hS1 := key_vec_Det m00n m00d m01n m01d m02n m02d m10n m10d m11n m11d m12n m12d m20n m20d m21n m21d m22n m22d (K := fun a => plainA a = true ∧ K a) hS.1 ⟨by simp [plainA, plainL], hS.2⟩
    refine ⟨by simp [plainA, plainL], ?_⟩
    rw [nf_vec_Det m00n m00d m01n m01d m02n m02d m10n m10d m11n m11d m12n m12d m20n m20d m21n m21d m22n m22d fun a => plainA a = true ∧ K a]
    exact hS1
  · exact hS.elim

def FM_vec_Flip : FM := ⟨10, [(RV.cells 2 18), (RV.tmp 3)], (MC.seq (MC.ops [⟨(some 1), none, (MI.box 37 (MO.t 0))⟩, ⟨(some 2), none, (MI.alloc 37 [(AV.i .i64 0), (AV.i .i64 0), (AV.i .i64 0), (AV.i .i64 0), (AV.i .i64 0), (AV.i .i64 0), (AV.i .i64 0), (AV.i .i64 0), (AV.i .i64 0), (AV.i .i64 0), (AV.i .i64 0), (AV.i .i64 0), (AV.i .i64 0), (AV.i .i64 0), (AV.i .i64 0), (AV.i .i64 0), (AV.i .i64 0), (AV.i .i64 0)])⟩, ⟨(some 3), none, (MI.mv (MO.c (AV.i .i64 0)))⟩]) (MC.seq (MC.seq (MC.ops [⟨(some 4), none, (MI.loadn 18 (MO.t 1))⟩, ⟨(some 5), none, (MI.callN 36 [(MO.t 4)])⟩, ⟨(some 6), none, (MI.un .not (MO.t 5))⟩]) (MC.cond (MO.t 6) (MC.seq (MC.ops [⟨(some 7), none, (MI.build [(AV.i .i64 0), (AV.i .i64 0), (AV.i .i64 0), (AV.i .i64 0), (AV.i .i64 0), (AV.i .i64 0), (AV.i .i64 0), (AV.i .i64 0), (AV.i .i64 0), (AV.i .i64 0), (AV.i .i64 0), (AV.i .i64 0), (AV.i .i64 0), (AV.i .i64 0), (AV.i .i64 0), (AV.i .i64 0), (AV.i .i64 0), (AV.i .i64 0)] [])⟩, ⟨none, none, (MI.store 18 (MO.t 2) (MO.t 7))⟩, ⟨(some 3), none, (MI.mv (MO.c (AV.i .i64 8)))⟩]) MC.ret) MC.skip)) (MC.seq (MC.ops [⟨(some 8), none, (MI.loadn 18 (MO.t 1))⟩, ⟨(some 9), none, (MI.callN 38 [(MO.t 8)])⟩, ⟨none, none, (MI.store 18 (MO.t 2) (MO.t 9))⟩, ⟨(some 3), none, (MI.mv (MO.c (AV.i .i64 0)))⟩]) MC.ret)))⟩
theorem FMc_vec_Flip : compF Go.Proofs.Try.prog (eqsP Go.Proofs.Try.prog) (neutOf [36, 38]) (neutOf [36, 38]) 14 = some FM_vec_Flip := by kernel_rfl
def G_vec_Flip : Gam := mkG [(36, S_vec_fine), (38, S_vec_flip)] []
theorem sg_vec_Flip : SoundG Go.Proofs.Try.prog 14 (WF G_vec_Flip 0 FM_vec_Flip) := WF_sound (allD_ok (n := G_vec_Flip.n) (l := [36, 38]) ⟨det_vec_fine, det_vec_flip, trivial⟩) mixP (mkG_ok (n := [(36, S_vec_fine), (38, S_vec_flip)]) (g := []) ⟨ok_vec_fine, ok_vec_flip, trivial⟩ trivial) eqsP_ok FMc_vec_Flip
def S_vec_Flip : NSpec := fun args _ K => match args with
  | [(.agg [(.i .i64 m00n), (.i .i64 m00d), (.i .i64 m01n), (.i .i64 m01d), (.i .i64 m02n), (.i .i64 m02d), (.i .i64 m10n), (.i .i64 m10d), (.i .i64 m11n), (.i .i64 m11d), (.i .i64 m12n), (.i .i64 m12d), (.i .i64 m20n), (.i .i64 m20d), (.i .i64 m21n), (.i .i64 m21d), (.i .i64 m22n), (.i .i64 m22d)])] => (((I64 m00n ∧ I64 m00d) ∧ (I64 m01n ∧ I64 m01d) ∧ I64 m02n ∧ I64 m02d) ∧ ((I64 m10n ∧ I64 m10d) ∧ (I64 m11n ∧ I64 m11d) ∧ I64 m12n ∧ I64 m12d) ∧ ((I64 m20n ∧ I64 m20d) ∧ (I64 m21n ∧ I64 m21d) ∧ I64 m22n ∧ I64 m22d)) ∧ K (.tup [(.agg [(.i .i64 (if okM m00n m00d m01n m01d m02n m02d m10n m10d m11n m11d m12n m12d m20n m20d m21n m21d m22n m22d then m00n else 0)), (.i .i64 (if okM m00n m00d m01n m01d m02n m02d m10n m10d m11n m11d m12n m12d m20n m20d m21n m21d m22n m22d then m00d else 0)), (.i .i64 (if okM m00n m00d m01n m01d m02n m02d m10n m10d m11n m11d m12n m12d m20n m20d m21n m21d m22n m22d then m10n else 0)), (.i .i64 (if okM m00n m00d m01n m01d m02n m02d m10n m10d m11n m11d m12n m12d m20n m20d m21n m21d m22n m22d then m10d else 0)), (.i .i64 (if okM m00n m00d m01n m01d m02n m02d m10n m10d m11n m11d m12n m12d m20n m20d m21n m21d m22n m22d then m20n else 0)), (.i .i64 (if okM m00n m00d m01n m01d m02n m02d m10n m10d m11n m11d m12n m12d m20n m20d m21n m21d m22n m22d then m20d else 0)), (.i .i64 (if okM m00n m00d m01n m01d m02n m02d m10n m10d m11n m11d m12n m12d m20n m20d m21n m21d m22n m22d then m01n else 0)), (.i .i64 (if okM m00n m00d m01n m01d m02n m02d m10n m10d m11n m11d m12n m12d m20n m20d m21n m21d m22n m22d then m01d else 0)), (.i .i64 (if okM m00n m00d m01n m01d m02n m02d m10n m10d m11n m11d m12n m12d m20n m20d m21n m21d m22n m22d then m11n else 0)), (.i .i64 (if okM m00n m00d m01n m01d m02n m02d m10n m10d m11n m11d m12n m12d m20n m20d m21n m21d m22n m22d then m11d else 0)), (.i .i64 (if okM m00n m00d m01n m01d m02n m02d m10n m10d m11n m11d m12n m12d m20n m20d m21n m21d m22n m22d then m21n else 0)), (.i .i64 (if okM m00n m00d m01n m01d m02n m02d m10n m10d m11n m11d m12n m12d m20n m20d m21n m21d m22n m22d then m21d else 0)), (.i .i64 (if okM m00n m00d m01n m01d m02n m02d m10n m10d m11n m11d m12n m12d m20n m20d m21n m21d m22n m22d then m02n else 0)), (.i .i64 (if okM m00n m00d m01n m01d m02n m02d m10n m10d m11n m11d m12n m12d m20n m20d m21n m21d m22n m22d then m02d else 0)), (.i .i64 (if okM m00n m00d m01n m01d m02n m02d m10n m10d m11n m11d m12n m12d m20n m20d m21n m21d m22n m22d then m12n else 0)), (.i .i64 (if okM m00n m00d m01n m01d m02n m02d m10n m10d m11n m11d m12n m12d m20n m20d m21n m21d m22n m22d then m12d else 0)), (.i .i64 (if okM m00n m00d m01n m01d m02n m02d m10n m10d m11n m11d m12n m12d m20n m20d m21n m21d m22n m22d then m22n else 0)), (.i .i64 (if okM m00n m00d m01n m01d m02n m02d m10n m10d m11n m11d m12n m12d m20n m20d m21n m21d m22n m22d then m22d else 0))]), (.i .i64 (if okM m00n m00d m01n m01d m02n m02d m10n m10d m11n m11d m12n m12d m20n m20d m21n m21d m22n m22d then (0 : Int) else 8))])
  | _ => False
theorem det_vec_Flip : DetN S_vec_Flip := by
  intro args H K h
  unfold S_vec_Flip at h
  split at h
  · exact ⟨_, h.2, fun H' K' _ k => ⟨h.1, k⟩⟩
  · exact h.elim

def NF_vec_Flip (m00n m00d m01n m01d m02n m02d m10n m10d m11n m11d m12n m12d m20n m20d m21n m21d m22n m22d : Int) (K : AV → Prop) : Prop :=
 ((((I64 m00n ∧ I64 m00d) ∧ (I64 m01n ∧ I64 m01d) ∧ I64 m02n ∧ I64 m02d) ∧ ((I64 m10n ∧ I64 m10d) ∧ (I64 m11n ∧ I64 m11d) ∧ I64 m12n ∧ I64 m12d) ∧ ((I64 m20n ∧ I64 m20d) ∧ (I64 m21n ∧ I64 m21d) ∧ I64 m22n ∧ I64 m22d)) ∧
 (bif (!(decide (okV m00n m00d m01n m01d m02n m02d ∧ okV m10n m10d m11n m11d m12n m12d ∧ okV m20n m20d m21n m21d m22n m22d))) then K (.tup [(.agg [(.i .i64 0), (.i .i64 0), (.i .i64 0), (.i .i64 0), (.i .i64 0), (.i .i64 0), (.i .i64 0), (.i .i64 0), (.i .i64 0), (.i .i64 0), (.i .i64 0), (.i .i64 0), (.i .i64 0), (.i .i64 0), (.i .i64 0), (.i .i64 0), (.i .i64 0), (.i .i64 0)]), (.i .i64 8)])
 else K (.tup [(.agg [(.i .i64 m00n), (.i .i64 m00d), (.i .i64 m10n), (.i .i64 m10d), (.i .i64 m20n), (.i .i64 m20d), (.i .i64 m01n), (.i .i64 m01d), (.i .i64 m11n), (.i .i64 m11d), (.i .i64 m21n), (.i .i64 m21d), (.i .i64 m02n), (.i .i64 m02d), (.i .i64 m12n), (.i .i64 m12d), (.i .i64 m22n), (.i .i64 m22d)]), (.i .i64 0)])))
theorem nf_vec_Flip (m00n m00d m01n m01d m02n m02d m10n m10d m11n m11d m12n m12d m20n m20d m21n m21d m22n m22d : Int) (K : AV → Prop) : WF G_vec_Flip 0 FM_vec_Flip [(.agg [(.i .i64 m00n), (.i .i64 m00d), (.i .i64 m01n), (.i .i64 m01d), (.i .i64 m02n), (.i .i64 m02d), (.i .i64 m10n), (.i .i64 m10d), (.i .i64 m11n), (.i .i64 m11d), (.i .i64 m12n), (.i .i64 m12d), (.i .i64 m20n), (.i .i64 m20d), (.i .i64 m21n), (.i .i64 m21d), (.i .i64 m22n), (.i .i64 m22d)])] [] (fun a _ => K a) = NF_vec_Flip m00n m00d m01n m01d m02n m02d m10n m10d m11n m11d m12n m12d m20n m20d m21n m21d m22n m22d K := by kernel_rfl
theorem key_vec_Flip (m00n m00d m01n m01d m02n m02d m10n m10d m11n m11d m12n m12d m20n m20d m21n m21d m22n m22d : Int) {K : AV → Prop} (hp : ((I64 m00n ∧ I64 m00d) ∧ (I64 m01n ∧ I64 m01d) ∧ I64 m02n ∧ I64 m02d) ∧ ((I64 m10n ∧ I64 m10d) ∧ (I64 m11n ∧ I64 m11d) ∧ I64 m12n ∧ I64 m12d) ∧ ((I64 m20n ∧ I64 m20d) ∧ (I64 m21n ∧ I64 m21d) ∧ I64 m22n ∧ I64 m22d)) (hk : K (.tup [(.agg [(.i .i64 (if okM m00n m00d m01n m01d m02n m02d m10n m10d m11n m11d m12n m12d m20n m20d m21n m21d m22n m22d then m00n else 0)), (.i .i64 (if okM m00n m00d m01n m01d m02n m02d m10n m10d m11n m11d m12n m12d m20n m20d m21n m21d m22n m22d then m00d else 0)), (.i .i64 (if okM m00n m00d m01n m01d m02n m02d m10n m10d m11n m11d m12n m12d m20n m20d m21n m21d m22n m22d then m10n else 0)), (.i .i64 (if okM m00n m00d m01n m01d m02n m02d m10n m10d m11n m11d m12n m12d m20n m20d m21n m21d m22n m22d then m10d else 0)), (.i .i64 (if okM m00n m00d m01n m01d m02n m02d m10n m10d m11n m11d m12n m12d m20n m20d m21n m21d m22n m22d then m20n else 0)), (.i .i64 (if okM m00n m00d m01n m01d m02n m02d m10n m10d m11n m11d m12n m12d m20n m20d m21n m21d m22n m22d then m20d else 0)), (.i .i64 (if okM m00n m00d m01n m01d m02n m02d m10n m10d m11n m11d m12n m12d m20n m20d m21n m21d m22n m22d then m01n else 0)), (.i .i64 (if okM m00n m00d m01n m01d m02n m02d m10n m10d m11n m11d m12n m12d m20n m20d m21n m21d m22n m22d then m01d else 0)), (.i .i64 (if okM m00n m00d m01n m01d m02n m02d m10n m10d m11n m11d m12n m12d m20n m20d m21n m21d m22n m22d then m11n else 0)), (.i .i64 (if okM m00n m00d m01n m01d m02n m02d m10n m10d m11n m11d m12n m12d m20n m20d m21n m21d m22n m22d then m11d else 0)), (.i .i64 (if okM m00n m00d m01n m01d m02n m02d m10n m10d m11n m11d m12n m12d m20n m20d m21n m21d m22n m22d then m21n else 0)), (.i .i64 (if okM m00n m00d m01n m01d m02n m02d m10n m10d m11n m11d m12n m12d m20n m20d m21n m21d m22n m22d then m21d else 0)), (.i .i64 (if okM m00n m00d m01n m01d m02n m02d m10n m10d m11n m11d m12n m12d m20n m20d m21n m21d m22n m22d then m02n else 0)), (.i .i64 (if okM m00n m00d m01n m01d m02n m02d m10n m10d m11n m11d m12n m12d m20n m20d m21n m21d m22n m22d then m02d else 0)), (.i .i64 (if okM m00n m00d m01n m01d m02n m02d m10n m10d m11n m11d m12n m12d m20n m20d m21n m21d m22n m22d then m12n else 0)), (.i .i64 (if okM m00n m00d m01n m01d m02n m02d m10n m10d m11n m11d m12n m12d m20n m20d m21n m21d m22n m22d then m12d else 0)), (.i .i64 (if okM m00n m00d m01n m01d m02n m02d m10n m10d m11n m11d m12n m12d m20n m20d m21n m21d m22n m22d then m22n else 0)), (.i .i64 (if okM m00n m00d m01n m01d m02n m02d m10n m10d m11n m11d m12n m12d m20n m20d m21n m21d m22n m22d then m22d else 0))]), (.i .i64 (if okM m00n m00d m01n m01d m02n m02d m10n m10d m11n m11d m12n m12d m20n m20d m21n m21d m22n m22d then (0 : Int) else 8))])) : NF_vec_Flip m00n m00d m01n m01d m02n m02d m10n m10d m11n m11d m12n m12d m20n m20d m21n m21d m22n m22d K := by
  unfold NF_vec_Flip
  refine ⟨hp, ?_⟩
  by_cases x : okM m00n m00d m01n m01d m02n m02d m10n m10d m11n m11d m12n m12d m20n m20d m21n m21d m22n m22d
  · have x' := x
    unfold okM at x'
    simp only [if_pos x] at hk
    exact bif_i (fun h => by simp [x'] at h) (fun _ => hk)
  · simp only [if_neg x] at hk
    exact bif_i (fun _ => hk) (fun h => by unfold okM at x; simp [x] at h)
theorem ok_vec_Flip : SoundN Go.Proofs.Try.prog 14 S_vec_Flip := by
  refine soundN_of sg_vec_Flip fun args H K hS => ?_
  unfold S_vec_Flip at hS
  split at hS
  · rename_i m00n m00d m01n m01d m02n m02d m10n m10d m11n m11d m12n m12d m20n m20d m21n m21d m22n m22d
    have hS1 := key_vec_Flip m00n m00d m01n m01d m02n m02d m10n m10d m11n m11d m12n m12d m20n m20d m21n m21d m22n m22d (K := fun a => plainA a = true ∧ K a) hS.1 ⟨by simp [plainA, plainL], hS.2⟩
    refine ⟨by simp [plainA, plainL], ?_⟩
    rw [nf_vec_Flip m00n m00d m01n m01d m02n m02d m10n m10d m11n m11d m12n m12d m20n m20d m21n m21d m22n m22d fun a => plainA a = true ∧ K a]
    exact hS1
  · exact hS.elim

def FM_vec_unit : FM := ⟨23, [(RV.cells 0 18)], (MC.seq (MC.ops [⟨(some 0), none, (MI.alloc 37 [(AV.i .i64 0), (AV.i .i64 0), (AV.i .i64 0), (AV.i .i64 0), (AV.i .i64 0), (AV.i .i64 0), (AV.i .i64 0), (AV.i .i64 0), (AV.i .i64 0), (AV.i .i64 0), (AV.i .i64 0), (AV.i .i64 0), (AV.i .i64 0), (AV.i .i64 0), (AV.i .i64 0), (AV.i .i64 0), (AV.i .i64 0), (AV.i .i64 0)])⟩]) (MC.seq (MC.ops [⟨(some 1), none, (MI.alloc 37 [(AV.i .i64 0), (AV.i .i64 0), (AV.i .i64 0), (AV.i .i64 0), (AV.i .i64 0), (AV.i .i64 0), (AV.i .i64 0), (AV.i .i64 0), (AV.i .i64 0), (AV.i .i64 0), (AV.i .i64 0), (AV.i .i64 0), (AV.i .i64 0), (AV.i .i64 0), (AV.i .i64 0), (AV.i .i64 0), (AV.i .i64 0), (AV.i .i64 0)])⟩]) (MC.seq (MC.seq (MC.ops [⟨(some 4), none, (MI.mv (MO.c (AV.i .i64 0)))⟩]) (MC.block 0 (MC.loop (MC.seq (MC.ops [⟨(some 5), none, (MI.bin .lss (MO.t 4) (MO.c (AV.i .i64 3)))⟩]) (MC.seq (MC.cond (MO.t 5) MC.skip (MC.exit 0)) (MC.seq (MC.block 1 (MC.seq (MC.ops [⟨(some 6), none, (MI.mv (MO.t 4))⟩, ⟨(some 2), none, (MI.mv (MO.t 6))⟩]) (MC.seq (MC.seq (MC.ops [⟨(some 7), none, (MI.mv (MO.c (AV.i .i64 0)))⟩]) (MC.block 2 (MC.loop (MC.seq (MC.ops [⟨(some 8), none, (MI.bin .lss (MO.t 7) (MO.c (AV.i .i64 3)))⟩]) (MC.seq (MC.cond (MO.t 8) MC.skip (MC.exit 2)) (MC.seq (MC.block 3 (MC.seq (MC.ops [⟨(some 9), none, (MI.mv (MO.t 7))⟩, ⟨(some 3), none, (MI.mv (MO.t 9))⟩]) (MC.ops [⟨(some 10), none, (MI.mv (MO.t 2))⟩, ⟨(some 11), none, (MI.mv (MO.t 3))⟩, ⟨(some 12), none, (MI.build [(AV.i .i64 0), (AV.i .i64 0)] [(1, 1, (MO.c (AV.i .i64 1)))])⟩, ⟨(some 13), none, (MI.iaddrA 3 6 (MO.t 1) (MO.t 10))⟩, ⟨(some 14), none, (MI.iaddrA 3 2 (MO.t 13) (MO.t 11))⟩, ⟨none, none, (MI.store 2 (MO.t 14) (MO.t 12))⟩]))) (MC.ops [⟨(some 15), none, (MI.bin .add (MO.t 7) (MO.c (AV.i .i64 1)))⟩, ⟨(some 7), none, (MI.mv (MO.t 15))⟩]))))))) (MC.ops [⟨(some 16), none, (MI.mv (MO.t 2))⟩, ⟨(some 17), none, (MI.mv (MO.t 2))⟩, ⟨(some 18), none, (MI.iaddrA 3 6 (MO.t 1) (MO.t 16))⟩, ⟨(some 19), none, (MI.iaddrA 3 2 (MO.t 18) (MO.t 17))⟩, ⟨(some 20), none, (MI.faddr 0 (MO.t 19))⟩, ⟨none, none, (MI.store 1 (MO.t 20) (MO.c (AV.i .i64 1)))⟩])))) (MC.ops [⟨(some 21), none, (MI.bin .add (MO.t 4) (MO.c (AV.i .i64 1)))⟩, ⟨(some 4), none, (MI.mv (MO.t 21))⟩]))))))) (MC.seq (MC.ops [⟨(some 22), none, (MI.loadn 18 (MO.t 1))⟩, ⟨none, none, (MI.store 18 (MO.t 0) (MO.t 22))⟩]) MC.ret))))⟩
theorem FMc_vec_unit : compF Go.Proofs.Try.prog (eqsP Go.Proofs.Try.prog) (neutOf []) (neutOf []) 40 = some FM_vec_unit := by kernel_rfl
def G_vec_unit : Gam := mkG [] []
theorem sg_vec_unit : SoundG Go.Proofs.Try.prog 40 (WF G_vec_unit 5 FM_vec_unit) := WF_sound (allD_ok (n := G_vec_unit.n) (l := []) trivial) mixP (mkG_ok (n := []) (g := []) trivial trivial) eqsP_ok FMc_vec_unit
def S_vec_unit : NSpec := fun args _ K => match args with
  | [] => K (.agg [(.i .i64 1), (.i .i64 1), (.i .i64 0), (.i .i64 1), (.i .i64 0), (.i .i64 1), (.i .i64 0), (.i .i64 1), (.i .i64 1), (.i .i64 1), (.i .i64 0), (.i .i64 1), (.i .i64 0), (.i .i64 1), (.i .i64 0), (.i .i64 1), (.i .i64 1), (.i .i64 1)])
  | _ => False
theorem det_vec_unit : DetN S_vec_unit := by
  intro args H K h
  unfold S_vec_unit at h
  split at h
  · exact ⟨_, h, fun H' K' _ k => k⟩
  · exact h.elim

def NF_vec_unit  (K : AV → Prop) : Prop :=
 K (.agg [(.i .i64 1), (.i .i64 1), (.i .i64 0), (.i .i64 1), (.i .i64 0), (.i .i64 1), (.i .i64 0), (.i .i64 1), (.i .i64 1), (.i .i64 1), (.i .i64 0), (.i .i64 1), (.i .i64 0), (.i .i64 1), (.i .i64 0), (.i .i64 1), (.i .i64 1), (.i .i64 1)])
theorem nf_vec_unit  (K : AV → Prop) : WF G_vec_unit 5 FM_vec_unit [] [] (fun a _ => K a) = NF_vec_unit  K := by kernel_rfl
theorem key_vec_unit  {K : AV → Prop} (hk : K (.agg [(.i .i64 1), (.i .i64 1), (.i .i64 0), (.i .i64 1), (.i .i64 0), (.i .i64 1), (.i .i64 0), (.i .i64 1), (.i .i64 1), (.i .i64 1), (.i .i64 0), (.i .i64 1), (.i .i64 0), (.i .i64 1), (.i .i64 0), (.i .i64 1), (.i .i64 1), (.i .i64 1)])) : NF_vec_unit  K := by
  exact hk
theorem ok_vec_unit : SoundN Go.Proofs.Try.prog 40 S_vec_unit := by
  refine soundN_of sg_vec_unit fun args H K hS => ?_
  unfold S_vec_unit at hS
  split at hS
  · skip
    have hS1 := key_vec_unit  (K := fun a => plainA a = true ∧ K a) ⟨by simp [plainA, plainL], hS⟩
    refine ⟨by simp [plainA, plainL], ?_⟩
    rw [nf_vec_unit  fun a => plainA a = true ∧ K a]
    exact hS1
  · exact hS.elim

def FM_law02_of : FM := ⟨14, [(RV.cells 6 6)], (MC.seq (MC.ops [⟨(some 6), none, (MI.alloc 25 [(AV.i .i64 0), (AV.i .i64 0), (AV.i .i64 0), (AV.i .i64 0), (AV.i .i64 0), (AV.i .i64 0)])⟩]) (MC.seq (MC.ops [⟨(some 7), none, (MI.mv (MO.t 0))⟩, ⟨(some 8), none, (MI.callN 8 [(MO.t 7)])⟩, ⟨(some 9), none, (MI.mv (MO.t 1))⟩, ⟨(some 10), none, (MI.callN 8 [(MO.t 9)])⟩, ⟨(some 11), none, (MI.mv (MO.t 2))⟩, ⟨(some 12), none, (MI.callN 8 [(MO.t 11)])⟩, ⟨(some 13), none, (MI.build [(AV.i .i64 0), (AV.i .i64 0), (AV.i .i64 0), (AV.i .i64 0), (AV.i .i64 0), (AV.i .i64 0)] [(0, 2, (MO.t 8)), (2, 2, (MO.t 10)), (4, 2, (MO.t 12))])⟩, ⟨none, none, (MI.store 6 (MO.t 6) (MO.t 13))⟩]) MC.ret))⟩
theorem FMc_law02_of : compF Go.Proofs.Try.prog (eqsP Go.Proofs.Try.prog) (neutOf [8]) (neutOf [8]) 23 = some FM_law02_of := by kernel_rfl
def G_law02_of : Gam := mkG [(8, S_ref01_Of)] []
theorem sg_law02_of : SoundG Go.Proofs.Try.prog 23 (WF G_law02_of 0 FM_law02_of) := WF_sound (allD_ok (n := G_law02_of.n) (l := [8]) ⟨det_ref01_Of, trivial⟩) mixP (mkG_ok (n := [(8, S_ref01_Of)]) (g := []) ⟨ok_ref01_Of, trivial⟩ trivial) eqsP_ok FMc_law02_of
def S_law02_of : NSpec := fun args _ K => match args with
  | [(.i .i64 a), (.i .i64 b), (.i .i64 c)] => K (.agg [(.i .i64 a), (.i .i64 1), (.i .i64 b), (.i .i64 1), (.i .i64 c), (.i .i64 1)])
  | _ => False
theorem det_law02_of : DetN S_law02_of := by
  intro args H K h
  unfold S_law02_of at h
  split at h
  · exact ⟨_, h, fun H' K' _ k => k⟩
  · exact h.elim

def NF_law02_of (a b c : Int) (K : AV → Prop) : Prop :=
 K (.agg [(.i .i64 a), (.i .i64 1), (.i .i64 b), (.i .i64 1), (.i .i64 c), (.i .i64 1)])
theorem nf_law02_of (a b c : Int) (K : AV → Prop) : WF G_law02_of 0 FM_law02_of [(.i .i64 a), (.i .i64 b), (.i .i64 c)] [] (fun a _ => K a) = NF_law02_of a b c K := by kernel_rfl
theorem key_law02_of (a b c : Int) {K : AV → Prop} (hk : K (.agg [(.i .i64 a), (.i .i64 1), (.i .i64 b), (.i .i64 1), (.i .i64 c), (.i .i64 1)])) : NF_law02_of a b c K := by
  exact hk
theorem ok_law02_of : SoundN Go.Proofs.Try.prog 23 S_law02_of := by
  refine soundN_of sg_law02_of fun args H K hS => ?_
  unfold S_law02_of at hS
  split at hS
  · rename_i a b c
    have hS1 := key_law02_of a b c (K := fun a => plainA a = true ∧ K a) ⟨by simp [plainA, plainL], hS⟩
    refine ⟨by simp [plainA, plainL], ?_⟩
    rw [nf_law02_of a b c fun a => plainA a = true ∧ K a]
    exact hS1
  · exact hS.elim

def FM_ref01_Neg : FM := ⟨9, [(RV.cells 2 2)], (MC.seq (MC.ops [⟨(some 1), none, (MI.box 23 (MO.t 0))⟩, ⟨(some 2), none, (MI.alloc 23 [(AV.i .i64 0), (AV.i .i64 0)])⟩]) (MC.seq (MC.ops [⟨(some 3), none, (MI.faddr 0 (MO.t 1))⟩, ⟨(some 4), none, (MI.load (MO.t 3))⟩, ⟨(some 5), none, (MI.un .neg (MO.t 4))⟩, ⟨(some 6), none, (MI.faddr 1 (MO.t 1))⟩, ⟨(some 7), none, (MI.load (MO.t 6))⟩, ⟨(some 8), none, (MI.build [(AV.i .i64 0), (AV.i .i64 0)] [(0, 1, (MO.t 5)), (1, 1, (MO.t 7))])⟩, ⟨none, none, (MI.store 2 (MO.t 2) (MO.t 8))⟩]) MC.ret))⟩
theorem FMc_ref01_Neg : compF Go.Proofs.Try.prog (eqsP Go.Proofs.Try.prog) (neutOf []) (neutOf []) 34 = some FM_ref01_Neg := by kernel_rfl
def G_ref01_Neg : Gam := mkG [] []
theorem sg_ref01_Neg : SoundG Go.Proofs.Try.prog 34 (WF G_ref01_Neg 0 FM_ref01_Neg) := WF_sound (allD_ok (n := G_ref01_Neg.n) (l := []) trivial) mixP (mkG_ok (n := []) (g := []) trivial trivial) eqsP_ok FMc_ref01_Neg
def S_ref01_Neg : NSpec := fun args _ K => match args with
  | [(.agg [(.i .i64 a), (.i .i64 b)])] => K (.agg [(.i .i64 (i64.wrap (0 - a))), (.i .i64 b)])
  | _ => False
theorem det_ref01_Neg : DetN S_ref01_Neg := by
  intro args H K h
  unfold S_ref01_Neg at h
  split at h
  · exact ⟨_, h, fun H' K' _ k => k⟩
  · exact h.elim

def NF_ref01_Neg (a b : Int) (K : AV → Prop) : Prop :=
 K (.agg [(.i .i64 (i64.wrap (0 - a))), (.i .i64 b)])
theorem nf_ref01_Neg (a b : Int) (K : AV → Prop) : WF G_ref01_Neg 0 FM_ref01_Neg [(.agg [(.i .i64 a), (.i .i64 b)])] [] (fun a _ => K a) = NF_ref01_Neg a b K := by kernel_rfl
theorem key_ref01_Neg (a b : Int) {K : AV → Prop} (hk : K (.agg [(.i .i64 (i64.wrap (0 - a))), (.i .i64 b)])) : NF_ref01_Neg a b K := by
  exact hk
theorem ok_ref01_Neg : SoundN Go.Proofs.Try.prog 34 S_ref01_Neg := by
  refine soundN_of sg_ref01_Neg fun args H K hS => ?_
  unfold S_ref01_Neg at hS
  split at hS
  · rename_i a b
    have hS1 := key_ref01_Neg a b (K := fun a => plainA a = true ∧ K a) ⟨by simp [plainA, plainL], hS⟩
    refine ⟨by simp [plainA, plainL], ?_⟩
    rw [nf_ref01_Neg a b fun a => plainA a = true ∧ K a]
    exact hS1
  · exact hS.elim

def FM_ref02_Neg : FM := ⟨13, [(RV.cells 2 6)], (MC.seq (MC.ops [⟨(some 1), none, (MI.box 25 (MO.t 0))⟩, ⟨(some 2), none, (MI.alloc 25 [(AV.i .i64 0), (AV.i .i64 0), (AV.i .i64 0), (AV.i .i64 0), (AV.i .i64 0), (AV.i .i64 0)])⟩]) (MC.seq (MC.dr (SchM.op ⟨(some 3), none, (MI.faddr 0 (MO.t 1))⟩ (SchM.op ⟨(some 4), none, (MI.loadn 2 (MO.t 3))⟩ (SchM.op ⟨(some 5), none, (MI.callN 34 [(MO.t 4)])⟩ (SchM.op ⟨(some 6), none, (MI.faddr 2 (MO.t 1))⟩ (SchM.op ⟨(some 7), none, (MI.loadn 2 (MO.t 6))⟩ (SchM.op ⟨(some 8), none, (MI.callN 34 [(MO.t 7)])⟩ (SchM.op ⟨(some 9), none, (MI.faddr 4 (MO.t 1))⟩ (SchM.op ⟨(some 10), none, (MI.loadn 2 (MO.t 9))⟩ (SchM.op ⟨(some 11), none, (MI.callN 34 [(MO.t 10)])⟩ (SchM.op ⟨(some 12), none, (MI.build [(AV.i .i64 0), (AV.i .i64 0), (AV.i .i64 0), (AV.i .i64 0), (AV.i .i64 0), (AV.i .i64 0)] [(0, 2, (MO.t 5)), (2, 2, (MO.t 8)), (4, 2, (MO.t 11))])⟩ (SchM.op ⟨none, none, (MI.store 6 (MO.t 2) (MO.t 12))⟩ SchM.done)))))))))))) MC.ret))⟩
theorem FMc_ref02_Neg : compF Go.Proofs.Try.prog (eqsP Go.Proofs.Try.prog) (neutOf [34]) (neutOf [34]) 11 = some FM_ref02_Neg := by kernel_rfl
def G_ref02_Neg : Gam := mkG [(34, S_ref01_Neg)] []
theorem sg_ref02_Neg : SoundG Go.Proofs.Try.prog 11 (WF G_ref02_Neg 0 FM_ref02_Neg) := WF_sound (allD_ok (n := G_ref02_Neg.n) (l := [34]) ⟨det_ref01_Neg, trivial⟩) mixP (mkG_ok (n := [(34, S_ref01_Neg)]) (g := []) ⟨ok_ref01_Neg, trivial⟩ trivial) eqsP_ok FMc_ref02_Neg
def S_ref02_Neg : NSpec := fun args _ K => match args with
  | [(.agg [(.i .i64 a), (.i .i64 b), (.i .i64 c), (.i .i64 d), (.i .i64 e), (.i .i64 f)])] => K (.agg [(.i .i64 (i64.wrap (0 - a))), (.i .i64 b), (.i .i64 (i64.wrap (0 - c))), (.i .i64 d), (.i .i64 (i64.wrap (0 - e))), (.i .i64 f)])
  | _ => False
theorem det_ref02_Neg : DetN S_ref02_Neg := by
  intro args H K h
  unfold S_ref02_Neg at h
  split at h
  · exact ⟨_, h, fun H' K' _ k => k⟩
  · exact h.elim

def NF_ref02_Neg (a b c d e f : Int) (K : AV → Prop) : Prop :=
 K (.agg [(.i .i64 (i64.wrap (0 - a))), (.i .i64 b), (.i .i64 (i64.wrap (0 - c))), (.i .i64 d), (.i .i64 (i64.wrap (0 - e))), (.i .i64 f)])
theorem nf_ref02_Neg (a b c d e f : Int) (K : AV → Prop) : WF G_ref02_Neg 0 FM_ref02_Neg [(.agg [(.i .i64 a), (.i .i64 b), (.i .i64 c), (.i .i64 d), (.i .i64 e), (.i .i64 f)])] [] (fun a _ => K a) = NF_ref02_Neg a b c d e f K := by kernel_rfl
theorem key_ref02_Neg (a b c d e f : Int) {K : AV → Prop} (hk : K (.agg [(.i .i64 (i64.wrap (0 - a))), (.i .i64 b), (.i .i64 (i64.wrap (0 - c))), (.i .i64 d), (.i .i64 (i64.wrap (0 - e))), (.i .i64 f)])) : NF_ref02_Neg a b c d e f K := by
  exact hk
theorem ok_ref02_Neg : SoundN Go.Proofs.Try.prog 11 S_ref02_Neg := by
  refine soundN_of sg_ref02_Neg fun args H K hS => ?_
  unfold S_ref02_Neg at hS
  split at hS
  · rename_i a b c d e f
    have hS1 := key_ref02_Neg a b c d e f (K := fun a => plainA a = true ∧ K a) ⟨by simp [plainA, plainL], hS⟩
    refine ⟨by simp [plainA, plainL], ?_⟩
    rw [nf_ref02_Neg a b c d e f fun a => plainA a = true ∧ K a]
    exact hS1
  · exact hS.elim

end Go.Proofs.Ytpfmnmcpffajeaa.V
