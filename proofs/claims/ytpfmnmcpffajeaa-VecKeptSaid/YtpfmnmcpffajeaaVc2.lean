/-
  Contracts, printed by a program of this session (wip/tool/sym.py) from the unit text vc2: what each function comes to, and its proof.
-/
import Derived.Test.YtpfmnmcpffajeaaVc1
import Derived.Test.YtpfmnmcpffajeaaProg
set_option linter.unusedVariables false
set_option linter.unusedSimpArgs false
set_option maxRecDepth 100000
namespace Go.Proofs.Ytpfmnmcpffajeaa.V
open Go Go.RowKit
open Go.IntKind (u64 i64 u8 i32 u32)


theorem each3_ok {K : AV → Prop} {p1 p2 p3 : Prop} {x y z : FR} (hp : p1 ∧ p2 ∧ p3) (hk : K (.tup [(.agg [(.i .i64 (each3 x y z).a), (.i .i64 (each3 x y z).b), (.i .i64 (each3 x y z).c), (.i .i64 (each3 x y z).d), (.i .i64 (each3 x y z).e), (.i .i64 (each3 x y z).f)]), (.i .i64 (each3 x y z).er)])) :
    p1 ∧ bif (x.e != 0) then K (.tup [(.agg [(.i .i64 0), (.i .i64 0), (.i .i64 0), (.i .i64 0), (.i .i64 0), (.i .i64 0)]), (.i .i64 x.e)]) else (p2 ∧ bif (y.e != 0) then K (.tup [(.agg [(.i .i64 0), (.i .i64 0), (.i .i64 0), (.i .i64 0), (.i .i64 0), (.i .i64 0)]), (.i .i64 y.e)]) else (p3 ∧ bif (z.e != 0) then K (.tup [(.agg [(.i .i64 0), (.i .i64 0), (.i .i64 0), (.i .i64 0), (.i .i64 0), (.i .i64 0)]), (.i .i64 z.e)]) else K (.tup [(.agg [(.i .i64 x.n), (.i .i64 x.d), (.i .i64 y.n), (.i .i64 y.d), (.i .i64 z.n), (.i .i64 z.d)]), (.i .i64 0)]))) := by
  obtain ⟨h1, h2, h3⟩ := hp
  unfold each3 at hk
  refine ⟨h1, bif_i (fun a => K_of hk ?_) (fun a => ⟨h2, bif_i (fun b => K_of hk ?_) (fun b => ⟨h3, bif_i (fun c => K_of hk ?_) (fun c => K_of hk ?_)⟩)⟩)⟩ <;> simp at a <;> (try simp at b) <;> (try simp at c) <;> simp [*]

def FM_vec_Cross_1 : FM := ⟨31, [(RV.cells 4 2), (RV.tmp 5)], (MC.seq (MC.ops [⟨(some 4), none, (MI.alloc 23 [(AV.i .i64 0), (AV.i .i64 0)])⟩, ⟨(some 5), none, (MI.mv (MO.c (AV.i .i64 0)))⟩]) (MC.seq (MC.ops [⟨(some 8), none, (MI.mv (MO.t 0))⟩, ⟨(some 9), none, (MI.bin .add (MO.t 8) (MO.c (AV.i .i64 1)))⟩, ⟨(some 10), none, (MI.bin .rem (MO.t 9) (MO.c (AV.i .i64 3)))⟩, ⟨(some 11), none, (MI.mv (MO.t 0))⟩, ⟨(some 12), none, (MI.bin .add (MO.t 11) (MO.c (AV.i .i64 2)))⟩, ⟨(some 13), none, (MI.bin .rem (MO.t 12) (MO.c (AV.i .i64 3)))⟩, ⟨(some 6), none, (MI.mv (MO.t 10))⟩, ⟨(some 7), none, (MI.mv (MO.t 13))⟩]) (MC.seq (MC.dr (SchM.op ⟨(some 14), none, (MI.mv (MO.t 6))⟩ (SchM.op ⟨(some 15), none, (MI.iaddrA 3 2 (MO.t 1) (MO.t 14))⟩ (SchM.op ⟨(some 16), none, (MI.loadn 2 (MO.t 15))⟩ (SchM.op ⟨(some 17), none, (MI.mv (MO.t 7))⟩ (SchM.op ⟨(some 18), none, (MI.iaddrA 3 2 (MO.t 2) (MO.t 17))⟩ (SchM.op ⟨(some 19), none, (MI.loadn 2 (MO.t 18))⟩ (SchM.op ⟨(some 20), none, (MI.mv (MO.t 7))⟩ (SchM.op ⟨(some 21), none, (MI.iaddrA 3 2 (MO.t 1) (MO.t 20))⟩ (SchM.op ⟨(some 22), none, (MI.loadn 2 (MO.t 21))⟩ (SchM.op ⟨(some 23), none, (MI.callN 33 [(MO.t 22)])⟩ (SchM.op ⟨(some 24), none, (MI.mv (MO.t 6))⟩ (SchM.op ⟨(some 25), none, (MI.iaddrA 3 2 (MO.t 2) (MO.t 24))⟩ (SchM.op ⟨(some 26), none, (MI.loadn 2 (MO.t 25))⟩ (SchM.op ⟨(some 27), none, (MI.bslice 23 4 [(AV.i .i64 0), (AV.i .i64 0), (AV.i .i64 0), (AV.i .i64 0), (AV.i .i64 0), (AV.i .i64 0), (AV.i .i64 0), (AV.i .i64 0)] [(0, 2, (MO.t 16)), (2, 2, (MO.t 19)), (4, 2, (MO.t 23)), (6, 2, (MO.t 26))])⟩ (SchM.op ⟨(some 28), none, (MI.callN 32 [(MO.t 27)])⟩ (SchM.op ⟨(some 29), none, (MI.ext (MO.t 28) 0)⟩ (SchM.op ⟨(some 30), none, (MI.ext (MO.t 28) 1)⟩ (SchM.op ⟨none, none, (MI.store 2 (MO.t 4) (MO.t 29))⟩ (SchM.op ⟨(some 5), none, (MI.mv (MO.t 30))⟩ SchM.done)))))))))))))))))))) MC.ret)))⟩
theorem FMc_vec_Cross_1 : compF Go.Proofs.Try.prog (eqsP Go.Proofs.Try.prog) (neutOf [32, 33]) (neutOf [32, 33]) 31 = some FM_vec_Cross_1 := by kernel_rfl
def G_vec_Cross_1 : Gam := mkG [(32, S_vec_products), (33, S_vec_minus)] []
theorem sg_vec_Cross_1 : SoundG Go.Proofs.Try.prog 31 (WF G_vec_Cross_1 0 FM_vec_Cross_1) := WF_sound (allD_ok (n := G_vec_Cross_1.n) (l := [32, 33]) ⟨det_vec_products, det_vec_minus, trivial⟩) mixP (mkG_ok (n := [(32, S_vec_products), (33, S_vec_minus)]) (g := []) ⟨ok_vec_products, ok_vec_minus, trivial⟩ trivial) eqsP_ok FMc_vec_Cross_1

def FM_vec_Apply_1 : FM := ⟨14, [(RV.cells 4 2), (RV.tmp 5)], (MC.seq (MC.ops [⟨(some 4), none, (MI.alloc 23 [(AV.i .i64 0), (AV.i .i64 0)])⟩, ⟨(some 5), none, (MI.mv (MO.c (AV.i .i64 0)))⟩]) (MC.seq (MC.dr (SchM.op ⟨(some 6), none, (MI.mv (MO.t 0))⟩ (SchM.op ⟨(some 7), none, (MI.iaddrA 3 6 (MO.t 1) (MO.t 6))⟩ (SchM.op ⟨(some 8), none, (MI.loadn 6 (MO.t 7))⟩ (SchM.op ⟨(some 9), none, (MI.loadn 6 (MO.t 2))⟩ (SchM.op ⟨(some 10), none, (MI.callN 29 [(MO.t 9)])⟩ (SchM.op ⟨(some 11), none, (MI.callN 35 [(MO.t 8), (MO.t 10)])⟩ (SchM.op ⟨(some 12), none, (MI.ext (MO.t 11) 0)⟩ (SchM.op ⟨(some 13), none, (MI.ext (MO.t 11) 1)⟩ (SchM.op ⟨none, none, (MI.store 2 (MO.t 4) (MO.t 12))⟩ (SchM.op ⟨(some 5), none, (MI.mv (MO.t 13))⟩ SchM.done))))))))))) MC.ret))⟩
theorem FMc_vec_Apply_1 : compF Go.Proofs.Try.prog (eqsP Go.Proofs.Try.prog) (neutOf [29, 35]) (neutOf [29, 35]) 41 = some FM_vec_Apply_1 := by kernel_rfl
def G_vec_Apply_1 : Gam := mkG [(29, S_vec_list), (35, S_vec_dot)] []
theorem sg_vec_Apply_1 : SoundG Go.Proofs.Try.prog 41 (WF G_vec_Apply_1 0 FM_vec_Apply_1) := WF_sound (allD_ok (n := G_vec_Apply_1.n) (l := [29, 35]) ⟨det_vec_list, det_vec_dot, trivial⟩) mixP (mkG_ok (n := [(29, S_vec_list), (35, S_vec_dot)]) (g := []) ⟨ok_vec_list, ok_vec_dot, trivial⟩ trivial) eqsP_ok FMc_vec_Apply_1

def FM_vec_each : FM := ⟨27, [(RV.cells 2 6), (RV.tmp 3)], (MC.seq (MC.ops [⟨(some 2), none, (MI.alloc 25 [(AV.i .i64 0), (AV.i .i64 0), (AV.i .i64 0), (AV.i .i64 0), (AV.i .i64 0), (AV.i .i64 0)])⟩, ⟨(some 3), none, (MI.mv (MO.c (AV.i .i64 0)))⟩]) (MC.seq (MC.ops [⟨(some 4), none, (MI.alloc 35 [(AV.i .i64 0), (AV.i .i64 0), (AV.i .i64 0), (AV.i .i64 0), (AV.i .i64 0), (AV.i .i64 0)])⟩]) (MC.seq (MC.seq (MC.ops [⟨(some 8), none, (MI.mv (MO.c (AV.i .i64 0)))⟩]) (MC.block 0 (MC.loop (MC.seq (MC.ops [⟨(some 9), none, (MI.bin .lss (MO.t 8) (MO.c (AV.i .i64 3)))⟩]) (MC.seq (MC.cond (MO.t 9) MC.skip (MC.exit 0)) (MC.seq (MC.block 1 (MC.seq (MC.ops [⟨(some 10), none, (MI.mv (MO.t 8))⟩, ⟨(some 5), none, (MI.mv (MO.t 10))⟩]) (MC.seq (MC.ops [⟨(some 12), none, (MI.mv (MO.t 0))⟩, ⟨(some 13), none, (MI.mv (MO.t 5))⟩, ⟨(some 14), none, (MI.callV (MO.t 12) [(MO.t 13)])⟩, ⟨(some 11), none, (MI.mv (MO.t 14))⟩, ⟨(some 15), none, (MI.ext (MO.t 11) 0)⟩, ⟨(some 16), none, (MI.ext (MO.t 11) 1)⟩, ⟨(some 6), none, (MI.alloc 23 [(AV.i .i64 0), (AV.i .i64 0)])⟩, ⟨none, none, (MI.store 2 (MO.t 6) (MO.t 15))⟩, ⟨(some 7), none, (MI.mv (MO.t 16))⟩]) (MC.seq (MC.seq (MC.ops [⟨(some 17), none, (MI.mv (MO.t 7))⟩, ⟨(some 18), none, (MI.bin .neq (MO.t 17) (MO.c (AV.i .i64 0)))⟩]) (MC.cond (MO.t 18) (MC.seq (MC.ops [⟨(some 19), none, (MI.build [(AV.i .i64 0), (AV.i .i64 0), (AV.i .i64 0), (AV.i .i64 0), (AV.i .i64 0), (AV.i .i64 0)] [])⟩, ⟨(some 20), none, (MI.mv (MO.t 7))⟩, ⟨none, none, (MI.store 6 (MO.t 2) (MO.t 19))⟩, ⟨(some 3), none, (MI.mv (MO.t 20))⟩]) MC.ret) MC.skip)) (MC.ops [⟨(some 21), none, (MI.mv (MO.t 5))⟩, ⟨(some 22), none, (MI.loadn 2 (MO.t 6))⟩, ⟨(some 23), none, (MI.iaddrA 3 2 (MO.t 4) (MO.t 21))⟩, ⟨none, none, (MI.store 2 (MO.t 23) (MO.t 22))⟩]))))) (MC.ops [⟨(some 24), none, (MI.bin .add (MO.t 8) (MO.c (AV.i .i64 1)))⟩, ⟨(some 8), none, (MI.mv (MO.t 24))⟩]))))))) (MC.seq (MC.ops [⟨(some 25), none, (MI.loadn 6 (MO.t 4))⟩, ⟨(some 26), none, (MI.callN 37 [(MO.t 25)])⟩, ⟨none, none, (MI.store 6 (MO.t 2) (MO.t 26))⟩, ⟨(some 3), none, (MI.mv (MO.c (AV.i .i64 0)))⟩]) MC.ret))))⟩
theorem FMc_vec_each : compF Go.Proofs.Try.prog (eqsP Go.Proofs.Try.prog) (neutOf [37]) (neutOf [37]) 30 = some FM_vec_each := by kernel_rfl
def G_vec_each : Gam := mkG [(37, S_vec_vec)] [(31, WF G_vec_Cross_1 0 FM_vec_Cross_1), (41, WF G_vec_Apply_1 0 FM_vec_Apply_1)]
theorem sg_vec_each : SoundG Go.Proofs.Try.prog 30 (WF G_vec_each 4 FM_vec_each) := WF_sound (allD_ok (n := G_vec_each.n) (l := [37]) ⟨det_vec_vec, trivial⟩) mixP (mkG_ok (n := [(37, S_vec_vec)]) (g := [(31, WF G_vec_Cross_1 0 FM_vec_Cross_1), (41, WF G_vec_Apply_1 0 FM_vec_Apply_1)]) ⟨ok_vec_vec, trivial⟩ ⟨sg_vec_Cross_1, sg_vec_Apply_1, trivial⟩) eqsP_ok FMc_vec_each

def FM_vec_Cross : FM := ⟨25, [(RV.cells 4 6), (RV.tmp 5)], (MC.seq (MC.ops [⟨(some 2), none, (MI.box 25 (MO.t 0))⟩, ⟨(some 3), none, (MI.box 25 (MO.t 1))⟩, ⟨(some 4), none, (MI.alloc 25 [(AV.i .i64 0), (AV.i .i64 0), (AV.i .i64 0), (AV.i .i64 0), (AV.i .i64 0), (AV.i .i64 0)])⟩, ⟨(some 5), none, (MI.mv (MO.c (AV.i .i64 0)))⟩]) (MC.seq (MC.seq (MC.ops [⟨(some 8), none, (MI.loadn 6 (MO.t 2))⟩, ⟨(some 9), none, (MI.callN 27 [(MO.t 8)])⟩, ⟨(some 10), none, (MI.bin .neq (MO.t 9) (MO.c (AV.i .i64 0)))⟩, ⟨(some 11), none, (MI.mv (MO.t 10))⟩, ⟨(some 12), (some (11, false)), (MI.loadn 6 (MO.t 3))⟩, ⟨(some 13), (some (11, false)), (MI.callN 27 [(MO.t 12)])⟩, ⟨(some 14), (some (11, false)), (MI.bin .neq (MO.t 13) (MO.c (AV.i .i64 0)))⟩, ⟨(some 15), none, (MI.pick (MO.t 11) (MO.c (AV.b true)) (MO.t 14))⟩]) (MC.cond (MO.t 15) (MC.seq (MC.ops [⟨(some 16), none, (MI.build [(AV.i .i64 0), (AV.i .i64 0), (AV.i .i64 0), (AV.i .i64 0), (AV.i .i64 0), (AV.i .i64 0)] [])⟩, ⟨none, none, (MI.store 6 (MO.t 4) (MO.t 16))⟩, ⟨(some 5), none, (MI.mv (MO.c (AV.i .i64 8)))⟩]) MC.ret) MC.skip)) (MC.seq (MC.dr (SchM.op ⟨(some 17), none, (MI.loadn 6 (MO.t 2))⟩ (SchM.op ⟨(some 18), none, (MI.callN 29 [(MO.t 17)])⟩ (SchM.alt ⟨(some 19), none, (MI.loadn 6 (MO.t 3))⟩ (SchM.op ⟨(some 20), none, (MI.callN 29 [(MO.t 19)])⟩ (SchM.alt ⟨(some 6), none, (MI.alloc 35 [(AV.i .i64 0), (AV.i .i64 0), (AV.i .i64 0), (AV.i .i64 0), (AV.i .i64 0), (AV.i .i64 0)])⟩ (SchM.op ⟨(some 7), none, (MI.alloc 35 [(AV.i .i64 0), (AV.i .i64 0), (AV.i .i64 0), (AV.i .i64 0), (AV.i .i64 0), (AV.i .i64 0)])⟩ (SchM.op ⟨none, none, (MI.store 6 (MO.t 6) (MO.t 18))⟩ (SchM.op ⟨none, none, (MI.store 6 (MO.t 7) (MO.t 20))⟩ SchM.done))) (SchM.op ⟨(some 7), none, (MI.alloc 35 [(AV.i .i64 0), (AV.i .i64 0), (AV.i .i64 0), (AV.i .i64 0), (AV.i .i64 0), (AV.i .i64 0)])⟩ (SchM.op ⟨(some 6), none, (MI.alloc 35 [(AV.i .i64 0), (AV.i .i64 0), (AV.i .i64 0), (AV.i .i64 0), (AV.i .i64 0), (AV.i .i64 0)])⟩ (SchM.op ⟨none, none, (MI.store 6 (MO.t 6) (MO.t 18))⟩ (SchM.op ⟨none, none, (MI.store 6 (MO.t 7) (MO.t 20))⟩ SchM.done)))))) (SchM.alt ⟨(some 6), none, (MI.alloc 35 [(AV.i .i64 0), (AV.i .i64 0), (AV.i .i64 0), (AV.i .i64 0), (AV.i .i64 0), (AV.i .i64 0)])⟩ (SchM.alt ⟨(some 19), none, (MI.loadn 6 (MO.t 3))⟩ (SchM.op ⟨(some 20), none, (MI.callN 29 [(MO.t 19)])⟩ (SchM.op ⟨(some 7), none, (MI.alloc 35 [(AV.i .i64 0), (AV.i .i64 0), (AV.i .i64 0), (AV.i .i64 0), (AV.i .i64 0), (AV.i .i64 0)])⟩ (SchM.op ⟨none, none, (MI.store 6 (MO.t 6) (MO.t 18))⟩ (SchM.op ⟨none, none, (MI.store 6 (MO.t 7) (MO.t 20))⟩ SchM.done)))) (SchM.op ⟨(some 7), none, (MI.alloc 35 [(AV.i .i64 0), (AV.i .i64 0), (AV.i .i64 0), (AV.i .i64 0), (AV.i .i64 0), (AV.i .i64 0)])⟩ (SchM.op ⟨(some 19), none, (MI.loadn 6 (MO.t 3))⟩ (SchM.op ⟨(some 20), none, (MI.callN 29 [(MO.t 19)])⟩ (SchM.op ⟨none, none, (MI.store 6 (MO.t 6) (MO.t 18))⟩ (SchM.op ⟨none, none, (MI.store 6 (MO.t 7) (MO.t 20))⟩ SchM.done)))))) (SchM.op ⟨(some 7), none, (MI.alloc 35 [(AV.i .i64 0), (AV.i .i64 0), (AV.i .i64 0), (AV.i .i64 0), (AV.i .i64 0), (AV.i .i64 0)])⟩ (SchM.alt ⟨(some 19), none, (MI.loadn 6 (MO.t 3))⟩ (SchM.op ⟨(some 20), none, (MI.callN 29 [(MO.t 19)])⟩ (SchM.op ⟨(some 6), none, (MI.alloc 35 [(AV.i .i64 0), (AV.i .i64 0), (AV.i .i64 0), (AV.i .i64 0), (AV.i .i64 0), (AV.i .i64 0)])⟩ (SchM.op ⟨none, none, (MI.store 6 (MO.t 6) (MO.t 18))⟩ (SchM.op ⟨none, none, (MI.store 6 (MO.t 7) (MO.t 20))⟩ SchM.done)))) (SchM.op ⟨(some 6), none, (MI.alloc 35 [(AV.i .i64 0), (AV.i .i64 0), (AV.i .i64 0), (AV.i .i64 0), (AV.i .i64 0), (AV.i .i64 0)])⟩ (SchM.op ⟨(some 19), none, (MI.loadn 6 (MO.t 3))⟩ (SchM.op ⟨(some 20), none, (MI.callN 29 [(MO.t 19)])⟩ (SchM.op ⟨none, none, (MI.store 6 (MO.t 6) (MO.t 18))⟩ (SchM.op ⟨none, none, (MI.store 6 (MO.t 7) (MO.t 20))⟩ SchM.done)))))))))))) (MC.seq (MC.ops [⟨(some 21), none, (MI.mkf 31 [(MO.t 6), (MO.t 7)])⟩, ⟨(some 22), none, (MI.callG 30 [(MO.t 21)])⟩, ⟨(some 23), none, (MI.ext (MO.t 22) 0)⟩, ⟨(some 24), none, (MI.ext (MO.t 22) 1)⟩, ⟨none, none, (MI.store 6 (MO.t 4) (MO.t 23))⟩, ⟨(some 5), none, (MI.mv (MO.t 24))⟩]) MC.ret))))⟩
theorem FMc_vec_Cross : compF Go.Proofs.Try.prog (eqsP Go.Proofs.Try.prog) (neutOf [27, 29]) (neutOf [27, 29]) 10 = some FM_vec_Cross := by kernel_rfl
def G_vec_Cross : Gam := mkG [(27, S_vec_Check), (29, S_vec_list)] [(30, WF G_vec_each 4 FM_vec_each), (31, WF G_vec_Cross_1 0 FM_vec_Cross_1)]
theorem sg_vec_Cross : SoundG Go.Proofs.Try.prog 10 (WF G_vec_Cross 0 FM_vec_Cross) := WF_sound (allD_ok (n := G_vec_Cross.n) (l := [27, 29]) ⟨det_vec_Check, det_vec_list, trivial⟩) mixP (mkG_ok (n := [(27, S_vec_Check), (29, S_vec_list)]) (g := [(30, WF G_vec_each 4 FM_vec_each), (31, WF G_vec_Cross_1 0 FM_vec_Cross_1)]) ⟨ok_vec_Check, ok_vec_list, trivial⟩ ⟨sg_vec_each, sg_vec_Cross_1, trivial⟩) eqsP_ok FMc_vec_Cross
def S_vec_Cross : NSpec := fun args _ K => match args with
  | [(.agg [(.i .i64 a), (.i .i64 b), (.i .i64 c), (.i .i64 d), (.i .i64 e), (.i .i64 f)]), (.agg [(.i .i64 p), (.i .i64 q), (.i .i64 r), (.i .i64 s), (.i .i64 t), (.i .i64 u)])] => (((I64 a ∧ I64 b) ∧ (I64 c ∧ I64 d) ∧ I64 e ∧ I64 f) ∧ (I64 p ∧ I64 q) ∧ (I64 r ∧ I64 s) ∧ I64 t ∧ I64 u) ∧ K (.tup [(.agg [(.i .i64 (crossF a b c d e f p q r s t u).a), (.i .i64 (crossF a b c d e f p q r s t u).b), (.i .i64 (crossF a b c d e f p q r s t u).c), (.i .i64 (crossF a b c d e f p q r s t u).d), (.i .i64 (crossF a b c d e f p q r s t u).e), (.i .i64 (crossF a b c d e f p q r s t u).f)]), (.i .i64 (crossF a b c d e f p q r s t u).er)])
  | _ => False
theorem det_vec_Cross : DetN S_vec_Cross := by
  intro args H K h
  unfold S_vec_Cross at h
  split at h
  · exact ⟨_, h.2, fun H' K' _ k => ⟨h.1, k⟩⟩
  · exact h.elim

def NF_vec_Cross (a b c d e f p q r s t u : Int) (K : AV → Prop) : Prop :=
 (((I64 a ∧ I64 b) ∧ (I64 c ∧ I64 d) ∧ I64 e ∧ I64 f) ∧
 (bif ((okVE a b c d e f) != 0) then K (.tup [(.agg [(.i .i64 0), (.i .i64 0), (.i .i64 0), (.i .i64 0), (.i .i64 0), (.i .i64 0)]), (.i .i64 8)])
 else (((I64 p ∧ I64 q) ∧ (I64 r ∧ I64 s) ∧ I64 t ∧ I64 u) ∧
 (bif ((okVE p q r s t u) != 0) then K (.tup [(.agg [(.i .i64 0), (.i .i64 0), (.i .i64 0), (.i .i64 0), (.i .i64 0), (.i .i64 0)]), (.i .i64 8)])
 else ((((((I64 c ∧ I64 d) ∧ (I64 (i64.wrap (0 - e)) ∧ I64 f)) ∧ (I64 t ∧ I64 u) ∧ (I64 r ∧ I64 s)) ∧
 (bif ((twoF c d t u (i64.wrap (0 - e)) f r s).e != 0) then K (.tup [(.agg [(.i .i64 0), (.i .i64 0), (.i .i64 0), (.i .i64 0), (.i .i64 0), (.i .i64 0)]), (.i .i64 (twoF c d t u (i64.wrap (0 - e)) f r s).e)])
 else ((((I64 e ∧ I64 f) ∧ (I64 (i64.wrap (0 - a)) ∧ I64 b)) ∧ (I64 p ∧ I64 q) ∧ (I64 t ∧ I64 u)) ∧
 (bif ((twoF e f p q (i64.wrap (0 - a)) b t u).e != 0) then K (.tup [(.agg [(.i .i64 0), (.i .i64 0), (.i .i64 0), (.i .i64 0), (.i .i64 0), (.i .i64 0)]), (.i .i64 (twoF e f p q (i64.wrap (0 - a)) b t u).e)])
 else ((((I64 a ∧ I64 b) ∧ (I64 (i64.wrap (0 - c)) ∧ I64 d)) ∧ (I64 r ∧ I64 s) ∧ (I64 p ∧ I64 q)) ∧
 (bif ((twoF a b r s (i64.wrap (0 - c)) d p q).e != 0) then K (.tup [(.agg [(.i .i64 0), (.i .i64 0), (.i .i64 0), (.i .i64 0), (.i .i64 0), (.i .i64 0)]), (.i .i64 (twoF a b r s (i64.wrap (0 - c)) d p q).e)])
 else K (.tup [(.agg [(.i .i64 (twoF c d t u (i64.wrap (0 - e)) f r s).n), (.i .i64 (twoF c d t u (i64.wrap (0 - e)) f r s).d), (.i .i64 (twoF e f p q (i64.wrap (0 - a)) b t u).n), (.i .i64 (twoF e f p q (i64.wrap (0 - a)) b t u).d), (.i .i64 (twoF a b r s (i64.wrap (0 - c)) d p q).n), (.i .i64 (twoF a b r s (i64.wrap (0 - c)) d p q).d)]), (.i .i64 0)]))))))) ∧
 ((((I64 c ∧ I64 d) ∧ (I64 (i64.wrap (0 - e)) ∧ I64 f)) ∧ (I64 t ∧ I64 u) ∧ (I64 r ∧ I64 s)) ∧
 (bif ((twoF c d t u (i64.wrap (0 - e)) f r s).e != 0) then K (.tup [(.agg [(.i .i64 0), (.i .i64 0), (.i .i64 0), (.i .i64 0), (.i .i64 0), (.i .i64 0)]), (.i .i64 (twoF c d t u (i64.wrap (0 - e)) f r s).e)])
 else ((((I64 e ∧ I64 f) ∧ (I64 (i64.wrap (0 - a)) ∧ I64 b)) ∧ (I64 p ∧ I64 q) ∧ (I64 t ∧ I64 u)) ∧
 (bif ((twoF e f p q (i64.wrap (0 - a)) b t u).e != 0) then K (.tup [(.agg [(.i .i64 0), (.i .i64 0), (.i .i64 0), (.i .i64 0), (.i .i64 0), (.i .i64 0)]), (.i .i64 (twoF e f p q (i64.wrap (0 - a)) b t u).e)])
 else ((((I64 a ∧ I64 b) ∧ (I64 (i64.wrap (0 - c)) ∧ I64 d)) ∧ (I64 r ∧ I64 s) ∧ (I64 p ∧ I64 q)) ∧
 (bif ((twoF a b r s (i64.wrap (0 - c)) d p q).e != 0) then K (.tup [(.agg [(.i .i64 0), (.i .i64 0), (.i .i64 0), (.i .i64 0), (.i .i64 0), (.i .i64 0)]), (.i .i64 (twoF a b r s (i64.wrap (0 - c)) d p q).e)])
 else K (.tup [(.agg [(.i .i64 (twoF c d t u (i64.wrap (0 - e)) f r s).n), (.i .i64 (twoF c d t u (i64.wrap (0 - e)) f r s).d), (.i .i64 (twoF e f p q (i64.wrap (0 - a)) b t u).n), (.i .i64 (twoF e f p q (i64.wrap (0 - a)) b t u).d), (.i .i64 (twoF a b r s (i64.wrap (0 - c)) d p q).n), (.i .i64 (twoF a b r s (i64.wrap (0 - c)) d p q).d)]), (.i .i64 0)])))))))) ∧
 ((((((I64 c ∧ I64 d) ∧ (I64 (i64.wrap (0 - e)) ∧ I64 f)) ∧ (I64 t ∧ I64 u) ∧ (I64 r ∧ I64 s)) ∧
 (bif ((twoF c d t u (i64.wrap (0 - e)) f r s).e != 0) then K (.tup [(.agg [(.i .i64 0), (.i .i64 0), (.i .i64 0), (.i .i64 0), (.i .i64 0), (.i .i64 0)]), (.i .i64 (twoF c d t u (i64.wrap (0 - e)) f r s).e)])
 else ((((I64 e ∧ I64 f) ∧ (I64 (i64.wrap (0 - a)) ∧ I64 b)) ∧ (I64 p ∧ I64 q) ∧ (I64 t ∧ I64 u)) ∧
 (bif ((twoF e f p q (i64.wrap (0 - a)) b t u).e != 0) then K (.tup [(.agg [(.i .i64 0), (.i .i64 0), (.i .i64 0), (.i .i64 0), (.i .i64 0), (.i .i64 0)]), (.i .i64 (twoF e f p q (i64.wrap (0 - a)) b t u).e)])
 else ((((I64 a ∧ I64 b) ∧ (I64 (i64.wrap (0 - c)) ∧ I64 d)) ∧ (I64 r ∧ I64 s) ∧ (I64 p ∧ I64 q)) ∧
 (bif ((twoF a b r s (i64.wrap (0 - c)) d p q).e != 0) then K (.tup [(.agg [(.i .i64 0), (.i .i64 0), (.i .i64 0), (.i .i64 0), (.i .i64 0), (.i .i64 0)]), (.i .i64 (twoF a b r s (i64.wrap (0 - c)) d p q).e)])
 else K (.tup [(.agg [(.i .i64 (twoF c d t u (i64.wrap (0 - e)) f r s).n), (.i .i64 (twoF c d t u (i64.wrap (0 - e)) f r s).d), (.i .i64 (twoF e f p q (i64.wrap (0 - a)) b t u).n), (.i .i64 (twoF e f p q (i64.wrap (0 - a)) b t u).d), (.i .i64 (twoF a b r s (i64.wrap (0 - c)) d p q).n), (.i .i64 (twoF a b r s (i64.wrap (0 - c)) d p q).d)]), (.i .i64 0)]))))))) ∧
 ((((I64 c ∧ I64 d) ∧ (I64 (i64.wrap (0 - e)) ∧ I64 f)) ∧ (I64 t ∧ I64 u) ∧ (I64 r ∧ I64 s)) ∧
 (bif ((twoF c d t u (i64.wrap (0 - e)) f r s).e != 0) then K (.tup [(.agg [(.i .i64 0), (.i .i64 0), (.i .i64 0), (.i .i64 0), (.i .i64 0), (.i .i64 0)]), (.i .i64 (twoF c d t u (i64.wrap (0 - e)) f r s).e)])
 else ((((I64 e ∧ I64 f) ∧ (I64 (i64.wrap (0 - a)) ∧ I64 b)) ∧ (I64 p ∧ I64 q) ∧ (I64 t ∧ I64 u)) ∧
 (bif ((twoF e f p q (i64.wrap (0 - a)) b t u).e != 0) then K (.tup [(.agg [(.i .i64 0), (.i .i64 0), (.i .i64 0), (.i .i64 0), (.i .i64 0), (.i .i64 0)]), (.i .i64 (twoF e f p q (i64.wrap (0 - a)) b t u).e)])
 else ((((I64 a ∧ I64 b) ∧ (I64 (i64.wrap (0 - c)) ∧ I64 d)) ∧ (I64 r ∧ I64 s) ∧ (I64 p ∧ I64 q)) ∧
 (bif ((twoF a b r s (i64.wrap (0 - c)) d p q).e != 0) then K (.tup [(.agg [(.i .i64 0), (.i .i64 0), (.i .i64 0), (.i .i64 0), (.i .i64 0), (.i .i64 0)]), (.i .i64 (twoF a b r s (i64.wrap (0 - c)) d p q).e)])
 else K (.tup [(.agg [(.i .i64 (twoF c d t u (i64.wrap (0 - e)) f r s).n), (.i .i64 (twoF c d t u (i64.wrap (0 - e)) f r s).d), (.i .i64 (twoF e f p q (i64.wrap (0 - a)) b t u).n), (.i .i64 (twoF e f p q (i64.wrap (0 - a)) b t u).d), (.i .i64 (twoF a b r s (i64.wrap (0 - c)) d p q).n), (.i .i64 (twoF a b r s (i64.wrap (0 - c)) d p q).d)]), (.i .i64 0)])))))))) ∧
 (((((I64 c ∧ I64 d) ∧ (I64 (i64.wrap (0 - e)) ∧ I64 f)) ∧ (I64 t ∧ I64 u) ∧ (I64 r ∧ I64 s)) ∧
 (bif ((twoF c d t u (i64.wrap (0 - e)) f r s).e != 0) then K (.tup [(.agg [(.i .i64 0), (.i .i64 0), (.i .i64 0), (.i .i64 0), (.i .i64 0), (.i .i64 0)]), (.i .i64 (twoF c d t u (i64.wrap (0 - e)) f r s).e)])
 else ((((I64 e ∧ I64 f) ∧ (I64 (i64.wrap (0 - a)) ∧ I64 b)) ∧ (I64 p ∧ I64 q) ∧ (I64 t ∧ I64 u)) ∧
 (bif ((twoF e f p q (i64.wrap (0 - a)) b t u).e != 0) then K (.tup [(.agg [(.i .i64 0), (.i .i64 0), (.i .i64 0), (.i .i64 0), (.i .i64 0), (.i .i64 0)]), (.i .i64 (twoF e f p q (i64.wrap (0 - a)) b t u).e)])
 else ((((I64 a ∧ I64 b) ∧ (I64 (i64.wrap (0 - c)) ∧ I64 d)) ∧ (I64 r ∧ I64 s) ∧ (I64 p ∧ I64 q)) ∧
 (bif ((twoF a b r s (i64.wrap (0 - c)) d p q).e != 0) then K (.tup [(.agg [(.i .i64 0), (.i .i64 0), (.i .i64 0), (.i .i64 0), (.i .i64 0), (.i .i64 0)]), (.i .i64 (twoF a b r s (i64.wrap (0 - c)) d p q).e)])
 else K (.tup [(.agg [(.i .i64 (twoF c d t u (i64.wrap (0 - e)) f r s).n), (.i .i64 (twoF c d t u (i64.wrap (0 - e)) f r s).d), (.i .i64 (twoF e f p q (i64.wrap (0 - a)) b t u).n), (.i .i64 (twoF e f p q (i64.wrap (0 - a)) b t u).d), (.i .i64 (twoF a b r s (i64.wrap (0 - c)) d p q).n), (.i .i64 (twoF a b r s (i64.wrap (0 - c)) d p q).d)]), (.i .i64 0)]))))))) ∧
 ((((I64 c ∧ I64 d) ∧ (I64 (i64.wrap (0 - e)) ∧ I64 f)) ∧ (I64 t ∧ I64 u) ∧ (I64 r ∧ I64 s)) ∧
 (bif ((twoF c d t u (i64.wrap (0 - e)) f r s).e != 0) then K (.tup [(.agg [(.i .i64 0), (.i .i64 0), (.i .i64 0), (.i .i64 0), (.i .i64 0), (.i .i64 0)]), (.i .i64 (twoF c d t u (i64.wrap (0 - e)) f r s).e)])
 else ((((I64 e ∧ I64 f) ∧ (I64 (i64.wrap (0 - a)) ∧ I64 b)) ∧ (I64 p ∧ I64 q) ∧ (I64 t ∧ I64 u)) ∧
 (bif ((twoF e f p q (i64.wrap (0 - a)) b t u).e != 0) then K (.tup [(.agg [(.i .i64 0), (.i .i64 0), (.i .i64 0), (.i .i64 0), (.i .i64 0), (.i .i64 0)]), (.i .i64 (twoF e f p q (i64.wrap (0 - a)) b t u).e)])
 else ((((I64 a ∧ I64 b) ∧ (I64 (i64.wrap (0 - c)) ∧ I64 d)) ∧ (I64 r ∧ I64 s) ∧ (I64 p ∧ I64 q)) ∧
 (bif ((twoF a b r s (i64.wrap (0 - c)) d p q).e != 0) then K (.tup [(.agg [(.i .i64 0), (.i .i64 0), (.i .i64 0), (.i .i64 0), (.i .i64 0), (.i .i64 0)]), (.i .i64 (twoF a b r s (i64.wrap (0 - c)) d p q).e)])
 else K (.tup [(.agg [(.i .i64 (twoF c d t u (i64.wrap (0 - e)) f r s).n), (.i .i64 (twoF c d t u (i64.wrap (0 - e)) f r s).d), (.i .i64 (twoF e f p q (i64.wrap (0 - a)) b t u).n), (.i .i64 (twoF e f p q (i64.wrap (0 - a)) b t u).d), (.i .i64 (twoF a b r s (i64.wrap (0 - c)) d p q).n), (.i .i64 (twoF a b r s (i64.wrap (0 - c)) d p q).d)]), (.i .i64 0)]))))))))))))))
theorem nf_vec_Cross (a b c d e f p q r s t u : Int) (K : AV → Prop) : WF G_vec_Cross 0 FM_vec_Cross [(.agg [(.i .i64 a), (.i .i64 b), (.i .i64 c), (.i .i64 d), (.i .i64 e), (.i .i64 f)]), (.agg [(.i .i64 p), (.i .i64 q), (.i .i64 r), (.i .i64 s), (.i .i64 t), (.i .i64 u)])] [] (fun a _ => K a) = NF_vec_Cross a b c d e f p q r s t u K := by kernel_rfl
theorem key_vec_Cross (a b c d e f p q r s t u : Int) {K : AV → Prop} (hp : ((I64 a ∧ I64 b) ∧ (I64 c ∧ I64 d) ∧ I64 e ∧ I64 f) ∧ (I64 p ∧ I64 q) ∧ (I64 r ∧ I64 s) ∧ I64 t ∧ I64 u) (hk : K (.tup [(.agg [(.i .i64 (crossF a b c d e f p q r s t u).a), (.i .i64 (crossF a b c d e f p q r s t u).b), (.i .i64 (crossF a b c d e f p q r s t u).c), (.i .i64 (crossF a b c d e f p q r s t u).d), (.i .i64 (crossF a b c d e f p q r s t u).e), (.i .i64 (crossF a b c d e f p q r s t u).f)]), (.i .i64 (crossF a b c d e f p q r s t u).er)])) : NF_vec_Cross a b c d e f p q r s t u K := by
  unfold NF_vec_Cross
  obtain ⟨i, j⟩ := hp
  refine ⟨i, ?_⟩
  by_cases x : okV a b c d e f
  rotate_left
  · exact bif_i (fun _ => K_of hk (by simp [crossF, badV, x])) (fun h => by simp [okVE, x] at h)
  refine bif_i (fun h => by simp [okVE, x] at h) (fun _ => ⟨j, ?_⟩)
  by_cases y : okV p q r s t u
  rotate_left
  · exact bif_i (fun _ => K_of hk (by simp [crossF, badV, y])) (fun h => by simp [okVE, y] at h)
  refine bif_i (fun h => by simp [okVE, y] at h) (fun _ => ?_)
  obtain ⟨⟨⟨a1, a2, a3, a4⟩, _⟩, ⟨⟨c1, c2, c3, c4⟩, _⟩, ⟨⟨e1, e2, e3, e4⟩, _⟩⟩ := id x
  have we : i64.wrap (0 - e) = -e := by rw [wrap_i64 (by omega) (by omega)]; omega
  have wa : i64.wrap (0 - a) = -a := by rw [wrap_i64 (by omega) (by omega)]; omega
  have wc : i64.wrap (0 - c) = -c := by rw [wrap_i64 (by omega) (by omega)]; omega
  have hc : crossF a b c d e f p q r s t u = each3 (twoF c d t u (-e) f r s) (twoF e f p q (-a) b t u) (twoF a b r s (-c) d p q) := by unfold crossF; rw [if_pos ⟨x, y⟩]
  rw [hc] at hk
  rw [we, wa, wc]
  obtain ⟨⟨ia, ib⟩, ⟨ic, id'⟩, ie, if'⟩ := i
  obtain ⟨⟨ip, iq⟩, ⟨ir, is⟩, it, iu⟩ := j
  have ne : I64 (-e) := ⟨by omega, by omega⟩
  have na : I64 (-a) := ⟨by omega, by omega⟩
  have nc : I64 (-c) := ⟨by omega, by omega⟩
  have core := each3_ok (K := K) (x := twoF c d t u (-e) f r s) (y := twoF e f p q (-a) b t u) (z := twoF a b r s (-c) d p q) (p1 := (((I64 c ∧ I64 d) ∧ (I64 (-e) ∧ I64 f)) ∧ (I64 t ∧ I64 u) ∧ (I64 r ∧ I64 s))) (p2 := (((I64 e ∧ I64 f) ∧ (I64 (-a) ∧ I64 b)) ∧ (I64 p ∧ I64 q) ∧ (I64 t ∧ I64 u))) (p3 := (((I64 a ∧ I64 b) ∧ (I64 (-c) ∧ I64 d)) ∧ (I64 r ∧ I64 s) ∧ (I64 p ∧ I64 q)))
    ⟨⟨⟨⟨ic, id'⟩, ne, if'⟩, ⟨it, iu⟩, ir, is⟩, ⟨⟨⟨ie, if'⟩, na, ib⟩, ⟨ip, iq⟩, it, iu⟩, ⟨⟨ia, ib⟩, nc, id'⟩, ⟨ir, is⟩, ip, iq⟩ hk
  repeat' (first | exact core | apply And.intro)
theorem ok_vec_Cross : SoundN Go.Proofs.Try.prog 10 S_vec_Cross := by
  refine soundN_of sg_vec_Cross fun args H K hS => ?_
  unfold S_vec_Cross at hS
  split at hS
  · rename_i a b c d e f p q r s t u
    have hS1 := key_vec_Cross a b c d e f p q r s t u (K := fun a => plainA a = true ∧ K a) hS.1 ⟨by simp [plainA, plainL], hS.2⟩
    refine ⟨by simp [plainA, plainL], ?_⟩
    rw [nf_vec_Cross a b c d e f p q r s t u fun a => plainA a = true ∧ K a]
    exact hS1
  · exact hS.elim

def FM_vec_fine : FM := ⟨16, [(RV.tmp 2)], (MC.seq (MC.ops [⟨(some 1), none, (MI.box 37 (MO.t 0))⟩, ⟨(some 2), none, (MI.mv (MO.c (AV.b false)))⟩]) (MC.seq (MC.ops [⟨(some 3), none, (MI.iaddrA 3 6 (MO.t 1) (MO.c (AV.i .i64 0)))⟩, ⟨(some 4), none, (MI.slA 3 2 (MO.t 3) none none)⟩, ⟨(some 5), none, (MI.callN 39 [(MO.t 4)])⟩, ⟨(some 6), none, (MI.mv (MO.t 5))⟩, ⟨(some 7), (some (6, true)), (MI.iaddrA 3 6 (MO.t 1) (MO.c (AV.i .i64 1)))⟩, ⟨(some 8), (some (6, true)), (MI.slA 3 2 (MO.t 7) none none)⟩, ⟨(some 9), (some (6, true)), (MI.callN 39 [(MO.t 8)])⟩, ⟨(some 10), none, (MI.pick (MO.t 6) (MO.t 9) (MO.c (AV.b false)))⟩, ⟨(some 11), none, (MI.mv (MO.t 10))⟩, ⟨(some 12), (some (11, true)), (MI.iaddrA 3 6 (MO.t 1) (MO.c (AV.i .i64 2)))⟩, ⟨(some 13), (some (11, true)), (MI.slA 3 2 (MO.t 12) none none)⟩, ⟨(some 14), (some (11, true)), (MI.callN 39 [(MO.t 13)])⟩, ⟨(some 15), none, (MI.pick (MO.t 11) (MO.t 14) (MO.c (AV.b false)))⟩, ⟨(some 2), none, (MI.mv (MO.t 15))⟩]) MC.ret))⟩
theorem FMc_vec_fine : compF Go.Proofs.Try.prog (eqsP Go.Proofs.Try.prog) (neutOf [39]) (neutOf [39]) 36 = some FM_vec_fine := by kernel_rfl
def G_vec_fine : Gam := mkG [(39, S_vec_valid)] []
theorem sg_vec_fine : SoundG Go.Proofs.Try.prog 36 (WF G_vec_fine 0 FM_vec_fine) := WF_sound (allD_ok (n := G_vec_fine.n) (l := [39]) ⟨det_vec_valid, trivial⟩) mixP (mkG_ok (n := [(39, S_vec_valid)]) (g := []) ⟨ok_vec_valid, trivial⟩ trivial) eqsP_ok FMc_vec_fine
def S_vec_fine : NSpec := fun args _ K => match args with
  | [(.agg [(.i .i64 m00n), (.i .i64 m00d), (.i .i64 m01n), (.i .i64 m01d), (.i .i64 m02n), (.i .i64 m02d), (.i .i64 m10n), (.i .i64 m10d), (.i .i64 m11n), (.i .i64 m11d), (.i .i64 m12n), (.i .i64 m12d), (.i .i64 m20n), (.i .i64 m20d), (.i .i64 m21n), (.i .i64 m21d), (.i .i64 m22n), (.i .i64 m22d)])] => (((I64 m00n ∧ I64 m00d) ∧ (I64 m01n ∧ I64 m01d) ∧ I64 m02n ∧ I64 m02d) ∧ ((I64 m10n ∧ I64 m10d) ∧ (I64 m11n ∧ I64 m11d) ∧ I64 m12n ∧ I64 m12d) ∧ ((I64 m20n ∧ I64 m20d) ∧ (I64 m21n ∧ I64 m21d) ∧ I64 m22n ∧ I64 m22d)) ∧ K (.b (decide (okV m00n m00d m01n m01d m02n m02d ∧ okV m10n m10d m11n m11d m12n m12d ∧ okV m20n m20d m21n m21d m22n m22d)))
  | _ => False
theorem det_vec_fine : DetN S_vec_fine := by
  intro args H K h
  unfold S_vec_fine at h
  split at h
  · exact ⟨_, h.2, fun H' K' _ k => ⟨h.1, k⟩⟩
  · exact h.elim

def NF_vec_fine (m00n m00d m01n m01d m02n m02d m10n m10d m11n m11d m12n m12d m20n m20d m21n m21d m22n m22d : Int) (K : AV → Prop) : Prop :=
 (((I64 m00n ∧ I64 m00d) ∧ (I64 m01n ∧ I64 m01d) ∧ I64 m02n ∧ I64 m02d) ∧
 (bif (decide (okV m00n m00d m01n m01d m02n m02d)) then (((I64 m10n ∧ I64 m10d) ∧ (I64 m11n ∧ I64 m11d) ∧ I64 m12n ∧ I64 m12d) ∧
 (bif (decide (okV m10n m10d m11n m11d m12n m12d)) then (((I64 m20n ∧ I64 m20d) ∧ (I64 m21n ∧ I64 m21d) ∧ I64 m22n ∧ I64 m22d) ∧
 K (.b (decide (okV m20n m20d m21n m21d m22n m22d))))
 else K (.b false)))
 else K (.b false)))
theorem nf_vec_fine (m00n m00d m01n m01d m02n m02d m10n m10d m11n m11d m12n m12d m20n m20d m21n m21d m22n m22d : Int) (K : AV → Prop) : WF G_vec_fine 0 FM_vec_fine [(.agg [(.i .i64 m00n), (.i .i64 m00d), (.i .i64 m01n), (.i .i64 m01d), (.i .i64 m02n), (.i .i64 m02d), (.i .i64 m10n), (.i .i64 m10d), (.i .i64 m11n), (.i .i64 m11d), (.i .i64 m12n), (.i .i64 m12d), (.i .i64 m20n), (.i .i64 m20d), (.i .i64 m21n), (.i .i64 m21d), (.i .i64 m22n), (.i .i64 m22d)])] [] (fun a _ => K a) = NF_vec_fine m00n m00d m01n m01d m02n m02d m10n m10d m11n m11d m12n m12d m20n m20d m21n m21d m22n m22d K := by kernel_rfl
theorem key_vec_fine (m00n m00d m01n m01d m02n m02d m10n m10d m11n m11d m12n m12d m20n m20d m21n m21d m22n m22d : Int) {K : AV → Prop} (hp : ((I64 m00n ∧ I64 m00d) ∧ (I64 m01n ∧ I64 m01d) ∧ I64 m02n ∧ I64 m02d) ∧ ((I64 m10n ∧ I64 m10d) ∧ (I64 m11n ∧ I64 m11d) ∧ I64 m12n ∧ I64 m12d) ∧ ((I64 m20n ∧ I64 m20d) ∧ (I64 m21n ∧ I64 m21d) ∧ I64 m22n ∧ I64 m22d)) (hk : K (.b (decide (okV m00n m00d m01n m01d m02n m02d ∧ okV m10n m10d m11n m11d m12n m12d ∧ okV m20n m20d m21n m21d m22n m22d)))) : NF_vec_fine m00n m00d m01n m01d m02n m02d m10n m10d m11n m11d m12n m12d m20n m20d m21n m21d m22n m22d K := by
  unfold NF_vec_fine
  obtain ⟨h0, h1, h2⟩ := hp
  refine ⟨h0, bif_i (fun a => ⟨h1, bif_i (fun b => ⟨h2, K_of hk ?_⟩) (fun b => K_of hk ?_)⟩) (fun a => K_of hk ?_)⟩ <;> simp only [decide_eq_true_eq, decide_eq_false_iff_not] at a <;> (try simp only [decide_eq_true_eq, decide_eq_false_iff_not] at b) <;> simp [*]
theorem ok_vec_fine : SoundN Go.Proofs.Try.prog 36 S_vec_fine := by
  refine soundN_of sg_vec_fine fun args H K hS => ?_
  unfold S_vec_fine at hS
  split at hS
  · rename_i m00n m00d m01n m01d m02n m02d m10n m10d m11n m11d m12n m12d m20n m20d m21n m21d m22n m22d
    have hS1 := key_vec_fine m00n m00d m01n m01d m02n m02d m10n m10d m11n m11d m12n m12d m20n m20d m21n m21d m22n m22d (K := fun a => plainA a = true ∧ K a) hS.1 ⟨by simp [plainA, plainL], hS.2⟩
    refine ⟨by simp [plainA, plainL], ?_⟩
    rw [nf_vec_fine m00n m00d m01n m01d m02n m02d m10n m10d m11n m11d m12n m12d m20n m20d m21n m21d m22n m22d fun a => plainA a = true ∧ K a]
    exact hS1
  · exact hS.elim

def FM_vec_flip : FM := ⟨26, [(RV.cells 2 18)], (MC.seq (MC.ops [⟨(some 1), none, (MI.box 37 (MO.t 0))⟩, ⟨(some 2), none, (MI.alloc 37 [(AV.i .i64 0), (AV.i .i64 0), (AV.i .i64 0), (AV.i .i64 0), (AV.i .i64 0), (AV.i .i64 0), (AV.i .i64 0), (AV.i .i64 0), (AV.i .i64 0), (AV.i .i64 0), (AV.i .i64 0), (AV.i .i64 0), (AV.i .i64 0), (AV.i .i64 0), (AV.i .i64 0), (AV.i .i64 0), (AV.i .i64 0), (AV.i .i64 0)])⟩]) (MC.seq (MC.ops [⟨(some 3), none, (MI.alloc 37 [(AV.i .i64 0), (AV.i .i64 0), (AV.i .i64 0), (AV.i .i64 0), (AV.i .i64 0), (AV.i .i64 0), (AV.i .i64 0), (AV.i .i64 0), (AV.i .i64 0), (AV.i .i64 0), (AV.i .i64 0), (AV.i .i64 0), (AV.i .i64 0), (AV.i .i64 0), (AV.i .i64 0), (AV.i .i64 0), (AV.i .i64 0), (AV.i .i64 0)])⟩]) (MC.seq (MC.seq (MC.ops [⟨(some 8), none, (MI.loadn 18 (MO.t 1))⟩, ⟨(some 9), none, (MI.mv (MO.c (AV.i .i64 0)))⟩]) (MC.block 0 (MC.loop (MC.seq (MC.ops [⟨(some 10), none, (MI.bin .lss (MO.t 9) (MO.c (AV.i .i64 3)))⟩]) (MC.seq (MC.cond (MO.t 10) MC.skip (MC.exit 0)) (MC.seq (MC.block 1 (MC.seq (MC.ops [⟨(some 11), none, (MI.mv (MO.t 9))⟩, ⟨(some 12), none, (MI.idxn 3 6 (MO.t 8) (MO.t 9))⟩, ⟨(some 5), none, (MI.alloc 35 [(AV.i .i64 0), (AV.i .i64 0), (AV.i .i64 0), (AV.i .i64 0), (AV.i .i64 0), (AV.i .i64 0)])⟩, ⟨(some 4), none, (MI.mv (MO.t 11))⟩, ⟨none, none, (MI.store 6 (MO.t 5) (MO.t 12))⟩]) (MC.seq (MC.ops [⟨(some 13), none, (MI.loadn 6 (MO.t 5))⟩, ⟨(some 14), none, (MI.mv (MO.c (AV.i .i64 0)))⟩]) (MC.block 2 (MC.loop (MC.seq (MC.ops [⟨(some 15), none, (MI.bin .lss (MO.t 14) (MO.c (AV.i .i64 3)))⟩]) (MC.seq (MC.cond (MO.t 15) MC.skip (MC.exit 2)) (MC.seq (MC.block 3 (MC.seq (MC.ops [⟨(some 16), none, (MI.mv (MO.t 14))⟩, ⟨(some 17), none, (MI.idxn 3 2 (MO.t 13) (MO.t 14))⟩, ⟨(some 7), none, (MI.alloc 23 [(AV.i .i64 0), (AV.i .i64 0)])⟩, ⟨(some 6), none, (MI.mv (MO.t 16))⟩, ⟨none, none, (MI.store 2 (MO.t 7) (MO.t 17))⟩]) (MC.dr (SchM.op ⟨(some 18), none, (MI.mv (MO.t 6))⟩ (SchM.op ⟨(some 19), none, (MI.mv (MO.t 4))⟩ (SchM.op ⟨(some 20), none, (MI.loadn 2 (MO.t 7))⟩ (SchM.op ⟨(some 21), none, (MI.iaddrA 3 6 (MO.t 3) (MO.t 18))⟩ (SchM.op ⟨(some 22), none, (MI.iaddrA 3 2 (MO.t 21) (MO.t 19))⟩ (SchM.op ⟨none, none, (MI.store 2 (MO.t 22) (MO.t 20))⟩ SchM.done))))))))) (MC.ops [⟨(some 23), none, (MI.bin .add (MO.t 14) (MO.c (AV.i .i64 1)))⟩, ⟨(some 14), none, (MI.mv (MO.t 23))⟩]))))))))) (MC.ops [⟨(some 24), none, (MI.bin .add (MO.t 9) (MO.c (AV.i .i64 1)))⟩, ⟨(some 9), none, (MI.mv (MO.t 24))⟩]))))))) (MC.seq (MC.ops [⟨(some 25), none, (MI.loadn 18 (MO.t 3))⟩, ⟨none, none, (MI.store 18 (MO.t 2) (MO.t 25))⟩]) MC.ret))))⟩
theorem FMc_vec_flip : compF Go.Proofs.Try.prog (eqsP Go.Proofs.Try.prog) (neutOf []) (neutOf []) 38 = some FM_vec_flip := by kernel_rfl
def G_vec_flip : Gam := mkG [] []
theorem sg_vec_flip : SoundG Go.Proofs.Try.prog 38 (WF G_vec_flip 5 FM_vec_flip) := WF_sound (allD_ok (n := G_vec_flip.n) (l := []) trivial) mixP (mkG_ok (n := []) (g := []) trivial trivial) eqsP_ok FMc_vec_flip
def S_vec_flip : NSpec := fun args _ K => match args with
  | [(.agg [(.i .i64 m00n), (.i .i64 m00d), (.i .i64 m01n), (.i .i64 m01d), (.i .i64 m02n), (.i .i64 m02d), (.i .i64 m10n), (.i .i64 m10d), (.i .i64 m11n), (.i .i64 m11d), (.i .i64 m12n), (.i .i64 m12d), (.i .i64 m20n), (.i .i64 m20d), (.i .i64 m21n), (.i .i64 m21d), (.i .i64 m22n), (.i .i64 m22d)])] => K (.agg [(.i .i64 m00n), (.i .i64 m00d), (.i .i64 m10n), (.i .i64 m10d), (.i .i64 m20n), (.i .i64 m20d), (.i .i64 m01n), (.i .i64 m01d), (.i .i64 m11n), (.i .i64 m11d), (.i .i64 m21n), (.i .i64 m21d), (.i .i64 m02n), (.i .i64 m02d), (.i .i64 m12n), (.i .i64 m12d), (.i .i64 m22n), (.i .i64 m22d)])
  | _ => False
theorem det_vec_flip : DetN S_vec_flip := by
  intro args H K h
  unfold S_vec_flip at h
  split at h
  · exact ⟨_, h, fun H' K' _ k => k⟩
  · exact h.elim

def NF_vec_flip (m00n m00d m01n m01d m02n m02d m10n m10d m11n m11d m12n m12d m20n m20d m21n m21d m22n m22d : Int) (K : AV → Prop) : Prop :=
 K (.agg [(.i .i64 m00n), (.i .i64 m00d), (.i .i64 m10n), (.i .i64 m10d), (.i .i64 m20n), (.i .i64 m20d), (.i .i64 m01n), (.i .i64 m01d), (.i .i64 m11n), (.i .i64 m11d), (.i .i64 m21n), (.i .i64 m21d), (.i .i64 m02n), (.i .i64 m02d), (.i .i64 m12n), (.i .i64 m12d), (.i .i64 m22n), (.i .i64 m22d)])
theorem nf_vec_flip (m00n m00d m01n m01d m02n m02d m10n m10d m11n m11d m12n m12d m20n m20d m21n m21d m22n m22d : Int) (K : AV → Prop) : WF G_vec_flip 5 FM_vec_flip [(.agg [(.i .i64 m00n), (.i .i64 m00d), (.i .i64 m01n), (.i .i64 m01d), (.i .i64 m02n), (.i .i64 m02d), (.i .i64 m10n), (.i .i64 m10d), (.i .i64 m11n), (.i .i64 m11d), (.i .i64 m12n), (.i .i64 m12d), (.i .i64 m20n), (.i .i64 m20d), (.i .i64 m21n), (.i .i64 m21d), (.i .i64 m22n), (.i .i64 m22d)])] [] (fun a _ => K a) = NF_vec_flip m00n m00d m01n m01d m02n m02d m10n m10d m11n m11d m12n m12d m20n m20d m21n m21d m22n m22d K := by kernel_rfl
theorem key_vec_flip (m00n m00d m01n m01d m02n m02d m10n m10d m11n m11d m12n m12d m20n m20d m21n m21d m22n m22d : Int) {K : AV → Prop} (hk : K (.agg [(.i .i64 m00n), (.i .i64 m00d), (.i .i64 m10n), (.i .i64 m10d), (.i .i64 m20n), (.i .i64 m20d), (.i .i64 m01n), (.i .i64 m01d), (.i .i64 m11n), (.i .i64 m11d), (.i .i64 m21n), (.i .i64 m21d), (.i .i64 m02n), (.i .i64 m02d), (.i .i64 m12n), (.i .i64 m12d), (.i .i64 m22n), (.i .i64 m22d)])) : NF_vec_flip m00n m00d m01n m01d m02n m02d m10n m10d m11n m11d m12n m12d m20n m20d m21n m21d m22n m22d K := by
  unfold NF_vec_flip
  exact hk
theorem ok_vec_flip : SoundN Go.Proofs.Try.prog 38 S_vec_flip := by
  refine soundN_of sg_vec_flip fun args H K hS => ?_
  unfold S_vec_flip at hS
  split at hS
  · rename_i m00n m00d m01n m01d m02n m02d m10n m10d m11n m11d m12n m12d m20n m20d m21n m21d m22n m22d
    have hS1 := key_vec_flip m00n m00d m01n m01d m02n m02d m10n m10d m11n m11d m12n m12d m20n m20d m21n m21d m22n m22d (K := fun a => plainA a = true ∧ K a) ⟨by simp [plainA, plainL], hS⟩
    refine ⟨by simp [plainA, plainL], ?_⟩
    rw [nf_vec_flip m00n m00d m01n m01d m02n m02d m10n m10d m11n m11d m12n m12d m20n m20d m21n m21d m22n m22d fun a => plainA a = true ∧ K a]
    exact hS1
  · exact hS.elim

def FM_ref01_Of : FM := ⟨5, [(RV.cells 2 2)], (MC.seq (MC.ops [⟨(some 2), none, (MI.alloc 23 [(AV.i .i64 0), (AV.i .i64 0)])⟩]) (MC.seq (MC.ops [⟨(some 3), none, (MI.mv (MO.t 0))⟩, ⟨(some 4), none, (MI.build [(AV.i .i64 0), (AV.i .i64 0)] [(0, 1, (MO.t 3)), (1, 1, (MO.c (AV.i .i64 1)))])⟩, ⟨none, none, (MI.store 2 (MO.t 2) (MO.t 4))⟩]) MC.ret))⟩
theorem FMc_ref01_Of : compF Go.Proofs.Try.prog (eqsP Go.Proofs.Try.prog) (neutOf []) (neutOf []) 8 = some FM_ref01_Of := by kernel_rfl
def G_ref01_Of : Gam := mkG [] []
theorem sg_ref01_Of : SoundG Go.Proofs.Try.prog 8 (WF G_ref01_Of 0 FM_ref01_Of) := WF_sound (allD_ok (n := G_ref01_Of.n) (l := []) trivial) mixP (mkG_ok (n := []) (g := []) trivial trivial) eqsP_ok FMc_ref01_Of
def S_ref01_Of : NSpec := fun args _ K => match args with
  | [(.i .i64 n)] => K (.agg [(.i .i64 n), (.i .i64 1)])
  | _ => False
theorem det_ref01_Of : DetN S_ref01_Of := by
  intro args H K h
  unfold S_ref01_Of at h
  split at h
  · exact ⟨_, h, fun H' K' _ k => k⟩
  · exact h.elim

def NF_ref01_Of (n : Int) (K : AV → Prop) : Prop :=
 K (.agg [(.i .i64 n), (.i .i64 1)])
theorem nf_ref01_Of (n : Int) (K : AV → Prop) : WF G_ref01_Of 0 FM_ref01_Of [(.i .i64 n)] [] (fun a _ => K a) = NF_ref01_Of n K := by kernel_rfl
theorem key_ref01_Of (n : Int) {K : AV → Prop} (hk : K (.agg [(.i .i64 n), (.i .i64 1)])) : NF_ref01_Of n K := by
  exact hk
theorem ok_ref01_Of : SoundN Go.Proofs.Try.prog 8 S_ref01_Of := by
  refine soundN_of sg_ref01_Of fun args H K hS => ?_
  unfold S_ref01_Of at hS
  split at hS
  · rename_i n
    have hS1 := key_ref01_Of n (K := fun a => plainA a = true ∧ K a) ⟨by simp [plainA, plainL], hS⟩
    refine ⟨by simp [plainA, plainL], ?_⟩
    rw [nf_ref01_Of n fun a => plainA a = true ∧ K a]
    exact hS1
  · exact hS.elim

end Go.Proofs.Ytpfmnmcpffajeaa.V
