/-
  Contracts, printed by a program of this session (wip/tool/sym.py) from the unit text vc1: what each function comes to, and its proof.
-/
import Derived.Test.YtpfmnmcpffajeaaFr7
import Derived.Test.YtpfmnmcpffajeaaProg
import Derived.Test.YtpfmnmcpffajeaaVp
set_option linter.unusedVariables false
set_option linter.unusedSimpArgs false
set_option maxRecDepth 100000
namespace Go.Proofs.Ytpfmnmcpffajeaa.V
open Go Go.RowKit
open Go.IntKind (u64 i64 u8 i32 u32)


def okV (a b c d e f : Int) : Prop := okF a b ∧ okF c d ∧ okF e f
instance (a b c d e f : Int) : Decidable (okV a b c d e f) := by unfold okV; infer_instance
def okVE (a b c d e f : Int) : Int := if okV a b c d e f then 0 else 8
/-- A sum as the program builds it: one more product, or the first error. -/
def stepF (s p : FR) : FR := if s.e ≠ 0 then ⟨0, 0, s.e⟩ else if p.e ≠ 0 then ⟨0, 0, p.e⟩ else if (addF s.n s.d p.n p.d).e ≠ 0 then ⟨0, 0, (addF s.n s.d p.n p.d).e⟩ else addF s.n s.d p.n p.d
def dotF (a b c d e f p q r s t u : Int) : FR := stepF (stepF (stepF ⟨0, 1, 0⟩ (mulF a b p q)) (mulF c d r s)) (mulF e f t u)
def twoF (a b p q c d r s : Int) : FR := stepF (stepF ⟨0, 1, 0⟩ (mulF a b p q)) (mulF c d r s)
/-- A vector of results: the first error counts. -/
structure VR where
  a : Int
  b : Int
  c : Int
  d : Int
  e : Int
  f : Int
  er : Int
def each3 (x y z : FR) : VR := if x.e ≠ 0 then ⟨0, 0, 0, 0, 0, 0, x.e⟩ else if y.e ≠ 0 then ⟨0, 0, 0, 0, 0, 0, y.e⟩ else if z.e ≠ 0 then ⟨0, 0, 0, 0, 0, 0, z.e⟩ else ⟨x.n, x.d, y.n, y.d, z.n, z.d, 0⟩
def badV : VR := ⟨0, 0, 0, 0, 0, 0, 8⟩
def crossF (a b c d e f p q r s t u : Int) : VR := if okV a b c d e f ∧ okV p q r s t u then each3 (twoF c d t u (-e) f r s) (twoF e f p q (-a) b t u) (twoF a b r s (-c) d p q) else badV
def dotV (a b c d e f p q r s t u : Int) : FR := if okV a b c d e f ∧ okV p q r s t u then dotF a b c d e f p q r s t u else ⟨0, 0, 8⟩
theorem ofRat_range (q : Rat) : I64 (ofRat q).n ∧ I64 (ofRat q).d := by
  by_cases h : inR q.num q.den
  · have e : ofRat q = ⟨q.num, q.den, 0⟩ := by unfold ofRat; rw [if_pos h]
    rw [e]
    obtain ⟨h1, h2, h3⟩ := h
    have := Int.natCast_nonneg q.den
    exact ⟨⟨by simp only; omega, by simp only; omega⟩, by simp only; omega, by simp only; omega⟩
  · have e : ofRat q = ⟨0, 0, 16⟩ := by unfold ofRat; rw [if_neg h]
    rw [e]; unfold I64; simp
theorem mulF_range (a b c d : Int) : I64 (mulF a b c d).n ∧ I64 (mulF a b c d).d := by
  unfold mulF; split
  · exact ofRat_range _
  · unfold I64; simp
theorem addF_range (a b c d : Int) : I64 (addF a b c d).n ∧ I64 (addF a b c d).d := by
  unfold addF; split
  · exact ofRat_range _
  · unfold I64; simp

def FM_vec_valid_1 : FM := ⟨6, [(RV.tmp 2)], (MC.seq (MC.ops [⟨(some 1), none, (MI.box 23 (MO.t 0))⟩, ⟨(some 2), none, (MI.mv (MO.c (AV.b false)))⟩]) (MC.seq (MC.ops [⟨(some 3), none, (MI.loadn 2 (MO.t 1))⟩, ⟨(some 4), none, (MI.callN 59 [(MO.t 3)])⟩, ⟨(some 5), none, (MI.bin .neq (MO.t 4) (MO.c (AV.i .i64 0)))⟩, ⟨(some 2), none, (MI.mv (MO.t 5))⟩]) MC.ret))⟩
theorem FMc_vec_valid_1 : compF Go.Proofs.Try.prog (eqsP Go.Proofs.Try.prog) (neutOf [59]) (neutOf [59]) 58 = some FM_vec_valid_1 := by kernel_rfl
def G_vec_valid_1 : Gam := mkG [(59, S_frac_Check)] []
theorem sg_vec_valid_1 : SoundG Go.Proofs.Try.prog 58 (WF G_vec_valid_1 0 FM_vec_valid_1) := WF_sound (allD_ok (n := G_vec_valid_1.n) (l := [59]) ⟨det_frac_Check, trivial⟩) mixP (mkG_ok (n := [(59, S_frac_Check)]) (g := []) ⟨ok_frac_Check, trivial⟩ trivial) eqsP_ok FMc_vec_valid_1

def FM_slices_IndexFunc_api_Frac_api_Frac : FM := ⟨19, [(RV.tmp 4)], (MC.seq (MC.ops [⟨(some 4), none, (MI.mv (MO.c (AV.i .i64 0)))⟩]) (MC.seq (MC.seq (MC.ops [⟨(some 6), none, (MI.mv (MO.t 0))⟩, ⟨(some 7), none, (MI.len (MO.t 6))⟩, ⟨(some 8), none, (MI.mv (MO.c (AV.i .i64 0)))⟩]) (MC.block 0 (MC.loop (MC.seq (MC.ops [⟨(some 9), none, (MI.bin .lss (MO.t 8) (MO.t 7))⟩]) (MC.seq (MC.cond (MO.t 9) MC.skip (MC.exit 0)) (MC.seq (MC.block 1 (MC.seq (MC.ops [⟨(some 10), none, (MI.mv (MO.t 8))⟩, ⟨(some 5), none, (MI.mv (MO.t 10))⟩]) (MC.seq (MC.ops [⟨(some 11), none, (MI.mv (MO.t 1))⟩, ⟨(some 12), none, (MI.mv (MO.t 0))⟩, ⟨(some 13), none, (MI.mv (MO.t 5))⟩, ⟨(some 14), none, (MI.iaddrS 2 (MO.t 12) (MO.t 13))⟩, ⟨(some 15), none, (MI.loadn 2 (MO.t 14))⟩, ⟨(some 16), none, (MI.callV (MO.t 11) [(MO.t 15)])⟩]) (MC.cond (MO.t 16) (MC.seq (MC.ops [⟨(some 17), none, (MI.mv (MO.t 5))⟩, ⟨(some 4), none, (MI.mv (MO.t 17))⟩]) MC.ret) MC.skip)))) (MC.ops [⟨(some 18), none, (MI.bin .add (MO.t 8) (MO.c (AV.i .i64 1)))⟩, ⟨(some 8), none, (MI.mv (MO.t 18))⟩]))))))) (MC.seq (MC.ops [⟨(some 4), none, (MI.mv (MO.c (AV.i .i64 (-1))))⟩]) MC.ret)))⟩
theorem FMc_slices_IndexFunc_api_Frac_api_Frac : compF Go.Proofs.Try.prog (eqsP Go.Proofs.Try.prog) (neutOf []) (neutOf []) 67 = some FM_slices_IndexFunc_api_Frac_api_Frac := by kernel_rfl
def G_slices_IndexFunc_api_Frac_api_Frac : Gam := mkG [] [(58, WF G_vec_valid_1 0 FM_vec_valid_1)]
theorem sg_slices_IndexFunc_api_Frac_api_Frac : SoundG Go.Proofs.Try.prog 67 (WF G_slices_IndexFunc_api_Frac_api_Frac 4 FM_slices_IndexFunc_api_Frac_api_Frac) := WF_sound (allD_ok (n := G_slices_IndexFunc_api_Frac_api_Frac.n) (l := []) trivial) mixP (mkG_ok (n := []) (g := [(58, WF G_vec_valid_1 0 FM_vec_valid_1)]) trivial ⟨sg_vec_valid_1, trivial⟩) eqsP_ok FMc_slices_IndexFunc_api_Frac_api_Frac

def FM_slices_ContainsFunc_api_Frac_api_Frac : FM := ⟨9, [(RV.tmp 4)], (MC.seq (MC.ops [⟨(some 4), none, (MI.mv (MO.c (AV.b false)))⟩]) (MC.seq (MC.ops [⟨(some 5), none, (MI.mv (MO.t 0))⟩, ⟨(some 6), none, (MI.mv (MO.t 1))⟩, ⟨(some 7), none, (MI.callG 67 [(MO.t 5), (MO.t 6)])⟩, ⟨(some 8), none, (MI.bin .geq (MO.t 7) (MO.c (AV.i .i64 0)))⟩, ⟨(some 4), none, (MI.mv (MO.t 8))⟩]) MC.ret))⟩
theorem FMc_slices_ContainsFunc_api_Frac_api_Frac : compF Go.Proofs.Try.prog (eqsP Go.Proofs.Try.prog) (neutOf []) (neutOf []) 57 = some FM_slices_ContainsFunc_api_Frac_api_Frac := by kernel_rfl
def G_slices_ContainsFunc_api_Frac_api_Frac : Gam := mkG [] [(67, WF G_slices_IndexFunc_api_Frac_api_Frac 4 FM_slices_IndexFunc_api_Frac_api_Frac)]
theorem sg_slices_ContainsFunc_api_Frac_api_Frac : SoundG Go.Proofs.Try.prog 57 (WF G_slices_ContainsFunc_api_Frac_api_Frac 0 FM_slices_ContainsFunc_api_Frac_api_Frac) := WF_sound (allD_ok (n := G_slices_ContainsFunc_api_Frac_api_Frac.n) (l := []) trivial) mixP (mkG_ok (n := []) (g := [(67, WF G_slices_IndexFunc_api_Frac_api_Frac 4 FM_slices_IndexFunc_api_Frac_api_Frac)]) trivial ⟨sg_slices_IndexFunc_api_Frac_api_Frac, trivial⟩) eqsP_ok FMc_slices_ContainsFunc_api_Frac_api_Frac

def FM_vec_valid : FM := ⟨6, [(RV.tmp 2)], (MC.seq (MC.ops [⟨(some 2), none, (MI.mv (MO.c (AV.b false)))⟩]) (MC.seq (MC.ops [⟨(some 3), none, (MI.mv (MO.t 0))⟩, ⟨(some 4), none, (MI.callG 57 [(MO.t 3), (MO.c (AV.fn 58 []))])⟩, ⟨(some 5), none, (MI.un .not (MO.t 4))⟩, ⟨(some 2), none, (MI.mv (MO.t 5))⟩]) MC.ret))⟩
theorem FMc_vec_valid : compF Go.Proofs.Try.prog (eqsP Go.Proofs.Try.prog) (neutOf []) (neutOf []) 39 = some FM_vec_valid := by kernel_rfl
def G_vec_valid : Gam := mkG [] [(57, WF G_slices_ContainsFunc_api_Frac_api_Frac 0 FM_slices_ContainsFunc_api_Frac_api_Frac), (58, WF G_vec_valid_1 0 FM_vec_valid_1)]
theorem sg_vec_valid : SoundG Go.Proofs.Try.prog 39 (WF G_vec_valid 0 FM_vec_valid) := WF_sound (allD_ok (n := G_vec_valid.n) (l := []) trivial) mixP (mkG_ok (n := []) (g := [(57, WF G_slices_ContainsFunc_api_Frac_api_Frac 0 FM_slices_ContainsFunc_api_Frac_api_Frac), (58, WF G_vec_valid_1 0 FM_vec_valid_1)]) trivial ⟨sg_slices_ContainsFunc_api_Frac_api_Frac, sg_vec_valid_1, trivial⟩) eqsP_ok FMc_vec_valid
def Q_vec_valid_1 : RowQ1 := fun cs K => match cs with
  | [(.i .i64 a), (.i .i64 b)] => (I64 a ∧ I64 b) ∧ K (.b (decide (okF a b)))
  | _ => False
theorem detq_vec_valid_1 : detQ Q_vec_valid_1 := by
  intro cs K h
  unfold Q_vec_valid_1 at h
  split at h
  · exact ⟨_, h.2, fun K' k => ⟨h.1, k⟩⟩
  · exact h.elim
def Q_vec_valid_3 : RowQ1 := fun cs K => match cs with
  | [(.i .i64 a), (.i .i64 b), (.i .i64 c), (.i .i64 d), (.i .i64 e), (.i .i64 f)] => ((I64 a ∧ I64 b) ∧ (I64 c ∧ I64 d) ∧ I64 e ∧ I64 f) ∧ K (.b (decide (okV a b c d e f)))
  | _ => False
theorem detq_vec_valid_3 : detQ Q_vec_valid_3 := by
  intro cs K h
  unfold Q_vec_valid_3 at h
  split at h
  · exact ⟨_, h.2, fun K' k => ⟨h.1, k⟩⟩
  · exact h.elim
def S_vec_valid : NSpec := rowS 2 [(1, Q_vec_valid_1), (3, Q_vec_valid_3)]
theorem det_vec_valid : DetN S_vec_valid := rowS_det ⟨detq_vec_valid_1, detq_vec_valid_3, trivial⟩
def NF_vec_valid_1 (a b : Int) (K : AV → Prop) : Prop :=
 ((I64 a ∧ I64 b) ∧
 (bif ((okE a b) != 0) then K (.b false)
 else K (.b true)))
theorem nf_vec_valid_1 (a b : Int) (ty esz : Nat) (K : AV → Prop) : WF G_vec_valid 0 FM_vec_valid [.slc 0 0 0 1 1] [some ⟨false, ty, esz, 1, false, fun _ => [(.i .i64 a), (.i .i64 b)], 0⟩] (fun a _ => K a) = NF_vec_valid_1 a b K := by kernel_rfl
theorem key_vec_valid_1 (a b : Int) {K : AV → Prop} (hp : I64 a ∧ I64 b) (hk : K (.b (decide (okF a b)))) : NF_vec_valid_1 a b K := by
  unfold NF_vec_valid_1
  refine ⟨hp, ?_⟩
  rcases okE_cases a b with ⟨x, ex⟩ | ⟨x, ex⟩ <;> rw [ex]
  · exact bif_i (fun h => by simp at h) (fun _ => K_of hk (by simp [x]))
  · exact bif_i (fun _ => K_of hk (by simp [x])) (fun h => by simp at h)
theorem rowok_vec_valid_1 : ∀ cs K ty esz, Q_vec_valid_1 cs K → plainL cs = true ∧ WF G_vec_valid 0 FM_vec_valid [.slc 0 0 0 1 1] [some ⟨false, ty, esz, 1, false, fun _ => cs, 0⟩] fun a _ => plainA a = true ∧ K a := by
  intro cs K ty esz h
  unfold Q_vec_valid_1 at h
  split at h
  · rename_i a b
    refine ⟨by simp [plainL, plainA], ?_⟩
    rw [nf_vec_valid_1 a b ty esz fun a => plainA a = true ∧ K a]
    exact key_vec_valid_1 a b (K := fun a => plainA a = true ∧ K a) h.1 ⟨by simp [plainA, plainL], h.2⟩
  · exact h.elim
def NF_vec_valid_3 (a b c d e f : Int) (K : AV → Prop) : Prop :=
 ((I64 a ∧ I64 b) ∧
 (bif ((okE a b) != 0) then K (.b false)
 else ((I64 c ∧ I64 d) ∧
 (bif ((okE c d) != 0) then K (.b false)
 else ((I64 e ∧ I64 f) ∧
 (bif ((okE e f) != 0) then K (.b false)
 else K (.b true)))))))
theorem nf_vec_valid_3 (a b c d e f : Int) (ty esz : Nat) (K : AV → Prop) : WF G_vec_valid 0 FM_vec_valid [.slc 0 0 0 3 3] [some ⟨false, ty, esz, 1, false, fun _ => [(.i .i64 a), (.i .i64 b), (.i .i64 c), (.i .i64 d), (.i .i64 e), (.i .i64 f)], 0⟩] (fun a _ => K a) = NF_vec_valid_3 a b c d e f K := by kernel_rfl
theorem key_vec_valid_3 (a b c d e f : Int) {K : AV → Prop} (hp : (I64 a ∧ I64 b) ∧ (I64 c ∧ I64 d) ∧ I64 e ∧ I64 f) (hk : K (.b (decide (okV a b c d e f)))) : NF_vec_valid_3 a b c d e f K := by
  unfold NF_vec_valid_3
  obtain ⟨h1, h2, h3⟩ := hp
  refine ⟨h1, ?_⟩
  rcases okE_cases a b with ⟨x, ex⟩ | ⟨x, ex⟩ <;> rw [ex]
  rotate_left
  · exact bif_i (fun _ => K_of hk (by simp [okV, x])) (fun h => by simp at h)
  refine bif_i (fun h => by simp at h) (fun _ => ⟨h2, ?_⟩)
  rcases okE_cases c d with ⟨y, ey⟩ | ⟨y, ey⟩ <;> rw [ey]
  rotate_left
  · exact bif_i (fun _ => K_of hk (by simp [okV, y])) (fun h => by simp at h)
  refine bif_i (fun h => by simp at h) (fun _ => ⟨h3, ?_⟩)
  rcases okE_cases e f with ⟨z, ez⟩ | ⟨z, ez⟩ <;> rw [ez]
  rotate_left
  · exact bif_i (fun _ => K_of hk (by simp [okV, z])) (fun h => by simp at h)
  exact bif_i (fun h => by simp at h) (fun _ => K_of hk (by simp [okV, x, y, z]))
theorem rowok_vec_valid_3 : ∀ cs K ty esz, Q_vec_valid_3 cs K → plainL cs = true ∧ WF G_vec_valid 0 FM_vec_valid [.slc 0 0 0 3 3] [some ⟨false, ty, esz, 1, false, fun _ => cs, 0⟩] fun a _ => plainA a = true ∧ K a := by
  intro cs K ty esz h
  unfold Q_vec_valid_3 at h
  split at h
  · rename_i a b c d e f
    refine ⟨by simp [plainL, plainA], ?_⟩
    rw [nf_vec_valid_3 a b c d e f ty esz fun a => plainA a = true ∧ K a]
    exact key_vec_valid_3 a b c d e f (K := fun a => plainA a = true ∧ K a) h.1 ⟨by simp [plainA, plainL], h.2⟩
  · exact h.elim
theorem ok_vec_valid : SoundN Go.Proofs.Try.prog 39 S_vec_valid := rowS_ok sg_vec_valid ⟨rowok_vec_valid_1, rowok_vec_valid_3, trivial⟩

def FM_vec_Check : FM := ⟨12, [(RV.tmp 2)], (MC.seq (MC.ops [⟨(some 1), none, (MI.box 25 (MO.t 0))⟩, ⟨(some 2), none, (MI.mv (MO.c (AV.i .i64 0)))⟩]) (MC.seq (MC.seq (MC.ops [⟨(some 3), none, (MI.faddr 0 (MO.t 1))⟩, ⟨(some 4), none, (MI.loadn 2 (MO.t 3))⟩, ⟨(some 5), none, (MI.faddr 2 (MO.t 1))⟩, ⟨(some 6), none, (MI.loadn 2 (MO.t 5))⟩, ⟨(some 7), none, (MI.faddr 4 (MO.t 1))⟩, ⟨(some 8), none, (MI.loadn 2 (MO.t 7))⟩, ⟨(some 9), none, (MI.bslice 23 3 [(AV.i .i64 0), (AV.i .i64 0), (AV.i .i64 0), (AV.i .i64 0), (AV.i .i64 0), (AV.i .i64 0)] [(0, 2, (MO.t 4)), (2, 2, (MO.t 6)), (4, 2, (MO.t 8))])⟩, ⟨(some 10), none, (MI.callN 39 [(MO.t 9)])⟩, ⟨(some 11), none, (MI.un .not (MO.t 10))⟩]) (MC.cond (MO.t 11) (MC.seq (MC.ops [⟨(some 2), none, (MI.mv (MO.c (AV.i .i64 8)))⟩]) MC.ret) MC.skip)) (MC.seq (MC.ops [⟨(some 2), none, (MI.mv (MO.c (AV.i .i64 0)))⟩]) MC.ret)))⟩
theorem FMc_vec_Check : compF Go.Proofs.Try.prog (eqsP Go.Proofs.Try.prog) (neutOf [39]) (neutOf [39]) 27 = some FM_vec_Check := by kernel_rfl
def G_vec_Check : Gam := mkG [(39, S_vec_valid)] []
theorem sg_vec_Check : SoundG Go.Proofs.Try.prog 27 (WF G_vec_Check 0 FM_vec_Check) := WF_sound (allD_ok (n := G_vec_Check.n) (l := [39]) ⟨det_vec_valid, trivial⟩) mixP (mkG_ok (n := [(39, S_vec_valid)]) (g := []) ⟨ok_vec_valid, trivial⟩ trivial) eqsP_ok FMc_vec_Check
def S_vec_Check : NSpec := fun args _ K => match args with
  | [(.agg [(.i .i64 a), (.i .i64 b), (.i .i64 c), (.i .i64 d), (.i .i64 e), (.i .i64 f)])] => ((I64 a ∧ I64 b) ∧ (I64 c ∧ I64 d) ∧ I64 e ∧ I64 f) ∧ K (.i .i64 (okVE a b c d e f))
  | _ => False
theorem det_vec_Check : DetN S_vec_Check := by
  intro args H K h
  unfold S_vec_Check at h
  split at h
  · exact ⟨_, h.2, fun H' K' _ k => ⟨h.1, k⟩⟩
  · exact h.elim

def NF_vec_Check (a b c d e f : Int) (K : AV → Prop) : Prop :=
 (((I64 a ∧ I64 b) ∧ (I64 c ∧ I64 d) ∧ I64 e ∧ I64 f) ∧
 (bif (!(decide (okV a b c d e f))) then K (.i .i64 8)
 else K (.i .i64 0)))
theorem nf_vec_Check (a b c d e f : Int) (K : AV → Prop) : WF G_vec_Check 0 FM_vec_Check [(.agg [(.i .i64 a), (.i .i64 b), (.i .i64 c), (.i .i64 d), (.i .i64 e), (.i .i64 f)])] [] (fun a _ => K a) = NF_vec_Check a b c d e f K := by kernel_rfl
theorem key_vec_Check (a b c d e f : Int) {K : AV → Prop} (hp : (I64 a ∧ I64 b) ∧ (I64 c ∧ I64 d) ∧ I64 e ∧ I64 f) (hk : K (.i .i64 (okVE a b c d e f))) : NF_vec_Check a b c d e f K := by
  unfold NF_vec_Check
  refine ⟨hp, ?_⟩
  by_cases h : okV a b c d e f
  · refine bif_i (fun x => by simp [h] at x) (fun _ => K_of hk (by simp [okVE, h]))
  · refine bif_i (fun _ => K_of hk (by simp [okVE, h])) (fun x => by simp [h] at x)
theorem ok_vec_Check : SoundN Go.Proofs.Try.prog 27 S_vec_Check := by
  refine soundN_of sg_vec_Check fun args H K hS => ?_
  unfold S_vec_Check at hS
  split at hS
  · rename_i a b c d e f
    have hS1 := key_vec_Check a b c d e f (K := fun a => plainA a = true ∧ K a) hS.1 ⟨by simp [plainA, plainL], hS.2⟩
    refine ⟨by simp [plainA, plainL], ?_⟩
    rw [nf_vec_Check a b c d e f fun a => plainA a = true ∧ K a]
    exact hS1
  · exact hS.elim

def FM_vec_list : FM := ⟨10, [(RV.cells 2 6)], (MC.seq (MC.ops [⟨(some 1), none, (MI.box 25 (MO.t 0))⟩, ⟨(some 2), none, (MI.alloc 35 [(AV.i .i64 0), (AV.i .i64 0), (AV.i .i64 0), (AV.i .i64 0), (AV.i .i64 0), (AV.i .i64 0)])⟩]) (MC.seq (MC.ops [⟨(some 3), none, (MI.faddr 0 (MO.t 1))⟩, ⟨(some 4), none, (MI.loadn 2 (MO.t 3))⟩, ⟨(some 5), none, (MI.faddr 2 (MO.t 1))⟩, ⟨(some 6), none, (MI.loadn 2 (MO.t 5))⟩, ⟨(some 7), none, (MI.faddr 4 (MO.t 1))⟩, ⟨(some 8), none, (MI.loadn 2 (MO.t 7))⟩, ⟨(some 9), none, (MI.build [(AV.i .i64 0), (AV.i .i64 0), (AV.i .i64 0), (AV.i .i64 0), (AV.i .i64 0), (AV.i .i64 0)] [(0, 2, (MO.t 4)), (2, 2, (MO.t 6)), (4, 2, (MO.t 8))])⟩, ⟨none, none, (MI.store 6 (MO.t 2) (MO.t 9))⟩]) MC.ret))⟩
theorem FMc_vec_list : compF Go.Proofs.Try.prog (eqsP Go.Proofs.Try.prog) (neutOf []) (neutOf []) 29 = some FM_vec_list := by kernel_rfl
def G_vec_list : Gam := mkG [] []
theorem sg_vec_list : SoundG Go.Proofs.Try.prog 29 (WF G_vec_list 0 FM_vec_list) := WF_sound (allD_ok (n := G_vec_list.n) (l := []) trivial) mixP (mkG_ok (n := []) (g := []) trivial trivial) eqsP_ok FMc_vec_list
def S_vec_list : NSpec := fun args _ K => match args with
  | [(.agg [(.i .i64 a), (.i .i64 b), (.i .i64 c), (.i .i64 d), (.i .i64 e), (.i .i64 f)])] => K (.agg [(.i .i64 a), (.i .i64 b), (.i .i64 c), (.i .i64 d), (.i .i64 e), (.i .i64 f)])
  | _ => False
theorem det_vec_list : DetN S_vec_list := by
  intro args H K h
  unfold S_vec_list at h
  split at h
  · exact ⟨_, h, fun H' K' _ k => k⟩
  · exact h.elim

def NF_vec_list (a b c d e f : Int) (K : AV → Prop) : Prop :=
 K (.agg [(.i .i64 a), (.i .i64 b), (.i .i64 c), (.i .i64 d), (.i .i64 e), (.i .i64 f)])
theorem nf_vec_list (a b c d e f : Int) (K : AV → Prop) : WF G_vec_list 0 FM_vec_list [(.agg [(.i .i64 a), (.i .i64 b), (.i .i64 c), (.i .i64 d), (.i .i64 e), (.i .i64 f)])] [] (fun a _ => K a) = NF_vec_list a b c d e f K := by kernel_rfl
theorem key_vec_list (a b c d e f : Int) {K : AV → Prop} (hk : K (.agg [(.i .i64 a), (.i .i64 b), (.i .i64 c), (.i .i64 d), (.i .i64 e), (.i .i64 f)])) : NF_vec_list a b c d e f K := by
  unfold NF_vec_list
  exact hk
theorem ok_vec_list : SoundN Go.Proofs.Try.prog 29 S_vec_list := by
  refine soundN_of sg_vec_list fun args H K hS => ?_
  unfold S_vec_list at hS
  split at hS
  · rename_i a b c d e f
    have hS1 := key_vec_list a b c d e f (K := fun a => plainA a = true ∧ K a) ⟨by simp [plainA, plainL], hS⟩
    refine ⟨by simp [plainA, plainL], ?_⟩
    rw [nf_vec_list a b c d e f fun a => plainA a = true ∧ K a]
    exact hS1
  · exact hS.elim

def FM_vec_vec : FM := ⟨10, [(RV.cells 2 6)], (MC.seq (MC.ops [⟨(some 1), none, (MI.box 35 (MO.t 0))⟩, ⟨(some 2), none, (MI.alloc 25 [(AV.i .i64 0), (AV.i .i64 0), (AV.i .i64 0), (AV.i .i64 0), (AV.i .i64 0), (AV.i .i64 0)])⟩]) (MC.seq (MC.ops [⟨(some 3), none, (MI.iaddrA 3 2 (MO.t 1) (MO.c (AV.i .i64 0)))⟩, ⟨(some 4), none, (MI.loadn 2 (MO.t 3))⟩, ⟨(some 5), none, (MI.iaddrA 3 2 (MO.t 1) (MO.c (AV.i .i64 1)))⟩, ⟨(some 6), none, (MI.loadn 2 (MO.t 5))⟩, ⟨(some 7), none, (MI.iaddrA 3 2 (MO.t 1) (MO.c (AV.i .i64 2)))⟩, ⟨(some 8), none, (MI.loadn 2 (MO.t 7))⟩, ⟨(some 9), none, (MI.build [(AV.i .i64 0), (AV.i .i64 0), (AV.i .i64 0), (AV.i .i64 0), (AV.i .i64 0), (AV.i .i64 0)] [(0, 2, (MO.t 4)), (2, 2, (MO.t 6)), (4, 2, (MO.t 8))])⟩, ⟨none, none, (MI.store 6 (MO.t 2) (MO.t 9))⟩]) MC.ret))⟩
theorem FMc_vec_vec : compF Go.Proofs.Try.prog (eqsP Go.Proofs.Try.prog) (neutOf []) (neutOf []) 37 = some FM_vec_vec := by kernel_rfl
def G_vec_vec : Gam := mkG [] []
theorem sg_vec_vec : SoundG Go.Proofs.Try.prog 37 (WF G_vec_vec 0 FM_vec_vec) := WF_sound (allD_ok (n := G_vec_vec.n) (l := []) trivial) mixP (mkG_ok (n := []) (g := []) trivial trivial) eqsP_ok FMc_vec_vec
def S_vec_vec : NSpec := fun args _ K => match args with
  | [(.agg [(.i .i64 a), (.i .i64 b), (.i .i64 c), (.i .i64 d), (.i .i64 e), (.i .i64 f)])] => K (.agg [(.i .i64 a), (.i .i64 b), (.i .i64 c), (.i .i64 d), (.i .i64 e), (.i .i64 f)])
  | _ => False
theorem det_vec_vec : DetN S_vec_vec := by
  intro args H K h
  unfold S_vec_vec at h
  split at h
  · exact ⟨_, h, fun H' K' _ k => k⟩
  · exact h.elim

def NF_vec_vec (a b c d e f : Int) (K : AV → Prop) : Prop :=
 K (.agg [(.i .i64 a), (.i .i64 b), (.i .i64 c), (.i .i64 d), (.i .i64 e), (.i .i64 f)])
theorem nf_vec_vec (a b c d e f : Int) (K : AV → Prop) : WF G_vec_vec 0 FM_vec_vec [(.agg [(.i .i64 a), (.i .i64 b), (.i .i64 c), (.i .i64 d), (.i .i64 e), (.i .i64 f)])] [] (fun a _ => K a) = NF_vec_vec a b c d e f K := by kernel_rfl
theorem key_vec_vec (a b c d e f : Int) {K : AV → Prop} (hk : K (.agg [(.i .i64 a), (.i .i64 b), (.i .i64 c), (.i .i64 d), (.i .i64 e), (.i .i64 f)])) : NF_vec_vec a b c d e f K := by
  unfold NF_vec_vec
  exact hk
theorem ok_vec_vec : SoundN Go.Proofs.Try.prog 37 S_vec_vec := by
  refine soundN_of sg_vec_vec fun args H K hS => ?_
  unfold S_vec_vec at hS
  split at hS
  · rename_i a b c d e f
    have hS1 := key_vec_vec a b c d e f (K := fun a => plainA a = true ∧ K a) ⟨by simp [plainA, plainL], hS⟩
    refine ⟨by simp [plainA, plainL], ?_⟩
    rw [nf_vec_vec a b c d e f fun a => plainA a = true ∧ K a]
    exact hS1
  · exact hS.elim

def FM_vec_minus : FM := ⟨9, [(RV.cells 2 2)], (MC.seq (MC.ops [⟨(some 1), none, (MI.box 23 (MO.t 0))⟩, ⟨(some 2), none, (MI.alloc 23 [(AV.i .i64 0), (AV.i .i64 0)])⟩]) (MC.seq (MC.ops [⟨(some 3), none, (MI.faddr 0 (MO.t 1))⟩, ⟨(some 4), none, (MI.load (MO.t 3))⟩, ⟨(some 5), none, (MI.un .neg (MO.t 4))⟩, ⟨(some 6), none, (MI.faddr 1 (MO.t 1))⟩, ⟨(some 7), none, (MI.load (MO.t 6))⟩, ⟨(some 8), none, (MI.build [(AV.i .i64 0), (AV.i .i64 0)] [(0, 1, (MO.t 5)), (1, 1, (MO.t 7))])⟩, ⟨none, none, (MI.store 2 (MO.t 2) (MO.t 8))⟩]) MC.ret))⟩
theorem FMc_vec_minus : compF Go.Proofs.Try.prog (eqsP Go.Proofs.Try.prog) (neutOf []) (neutOf []) 33 = some FM_vec_minus := by kernel_rfl
def G_vec_minus : Gam := mkG [] []
theorem sg_vec_minus : SoundG Go.Proofs.Try.prog 33 (WF G_vec_minus 0 FM_vec_minus) := WF_sound (allD_ok (n := G_vec_minus.n) (l := []) trivial) mixP (mkG_ok (n := []) (g := []) trivial trivial) eqsP_ok FMc_vec_minus
def S_vec_minus : NSpec := fun args _ K => match args with
  | [(.agg [(.i .i64 a), (.i .i64 b)])] => K (.agg [(.i .i64 (i64.wrap (0 - a))), (.i .i64 b)])
  | _ => False
theorem det_vec_minus : DetN S_vec_minus := by
  intro args H K h
  unfold S_vec_minus at h
  split at h
  · exact ⟨_, h, fun H' K' _ k => k⟩
  · exact h.elim

def NF_vec_minus (a b : Int) (K : AV → Prop) : Prop :=
 K (.agg [(.i .i64 (i64.wrap (0 - a))), (.i .i64 b)])
theorem nf_vec_minus (a b : Int) (K : AV → Prop) : WF G_vec_minus 0 FM_vec_minus [(.agg [(.i .i64 a), (.i .i64 b)])] [] (fun a _ => K a) = NF_vec_minus a b K := by kernel_rfl
theorem key_vec_minus (a b : Int) {K : AV → Prop} (hk : K (.agg [(.i .i64 (i64.wrap (0 - a))), (.i .i64 b)])) : NF_vec_minus a b K := by
  unfold NF_vec_minus
  exact hk
theorem ok_vec_minus : SoundN Go.Proofs.Try.prog 33 S_vec_minus := by
  refine soundN_of sg_vec_minus fun args H K hS => ?_
  unfold S_vec_minus at hS
  split at hS
  · rename_i a b
    have hS1 := key_vec_minus a b (K := fun a => plainA a = true ∧ K a) ⟨by simp [plainA, plainL], hS⟩
    refine ⟨by simp [plainA, plainL], ?_⟩
    rw [nf_vec_minus a b fun a => plainA a = true ∧ K a]
    exact hS1
  · exact hS.elim

def FM_vec_products : FM := ⟨42, [(RV.cells 2 2), (RV.tmp 3)], (MC.seq (MC.ops [⟨(some 2), none, (MI.alloc 23 [(AV.i .i64 0), (AV.i .i64 0)])⟩, ⟨(some 3), none, (MI.mv (MO.c (AV.i .i64 0)))⟩]) (MC.seq (MC.ops [⟨(some 8), none, (MI.build [(AV.i .i64 0), (AV.i .i64 0)] [(1, 1, (MO.c (AV.i .i64 1)))])⟩, ⟨(some 4), none, (MI.alloc 23 [(AV.i .i64 0), (AV.i .i64 0)])⟩, ⟨none, none, (MI.store 2 (MO.t 4) (MO.t 8))⟩]) (MC.seq (MC.seq (MC.ops [⟨(some 5), none, (MI.mv (MO.c (AV.i .i64 0)))⟩]) (MC.block 0 (MC.loop (MC.seq (MC.seq (MC.ops [⟨(some 9), none, (MI.mv (MO.t 5))⟩, ⟨(some 10), none, (MI.bin .add (MO.t 9) (MO.c (AV.i .i64 1)))⟩, ⟨(some 11), none, (MI.mv (MO.t 0))⟩, ⟨(some 12), none, (MI.len (MO.t 11))⟩, ⟨(some 13), none, (MI.bin .lss (MO.t 10) (MO.t 12))⟩]) (MC.cond (MO.t 13) MC.skip (MC.exit 0))) (MC.seq (MC.block 1 (MC.seq (MC.dr (SchM.op ⟨(some 17), none, (MI.mv (MO.t 0))⟩ (SchM.op ⟨(some 18), none, (MI.mv (MO.t 5))⟩ (SchM.op ⟨(some 19), none, (MI.iaddrS 2 (MO.t 17) (MO.t 18))⟩ (SchM.op ⟨(some 20), none, (MI.loadn 2 (MO.t 19))⟩ (SchM.op ⟨(some 21), none, (MI.mv (MO.t 0))⟩ (SchM.op ⟨(some 22), none, (MI.mv (MO.t 5))⟩ (SchM.op ⟨(some 23), none, (MI.bin .add (MO.t 22) (MO.c (AV.i .i64 1)))⟩ (SchM.op ⟨(some 24), none, (MI.iaddrS 2 (MO.t 21) (MO.t 23))⟩ (SchM.op ⟨(some 25), none, (MI.loadn 2 (MO.t 24))⟩ (SchM.op ⟨(some 26), none, (MI.callN 19 [(MO.t 20), (MO.t 25)])⟩ (SchM.op ⟨(some 16), none, (MI.mv (MO.t 26))⟩ (SchM.op ⟨(some 27), none, (MI.ext (MO.t 16) 0)⟩ (SchM.op ⟨(some 28), none, (MI.ext (MO.t 16) 1)⟩ (SchM.op ⟨(some 6), none, (MI.alloc 23 [(AV.i .i64 0), (AV.i .i64 0)])⟩ (SchM.op ⟨none, none, (MI.store 2 (MO.t 6) (MO.t 27))⟩ (SchM.op ⟨(some 7), none, (MI.mv (MO.t 28))⟩ SchM.done))))))))))))))))) (MC.seq (MC.seq (MC.ops [⟨(some 29), none, (MI.mv (MO.t 7))⟩, ⟨(some 30), none, (MI.bin .eql (MO.t 29) (MO.c (AV.i .i64 0)))⟩]) (MC.cond (MO.t 30) (MC.ops [⟨(some 32), none, (MI.loadn 2 (MO.t 4))⟩, ⟨(some 33), none, (MI.loadn 2 (MO.t 6))⟩, ⟨(some 34), none, (MI.callN 21 [(MO.t 32), (MO.t 33)])⟩, ⟨(some 31), none, (MI.mv (MO.t 34))⟩, ⟨(some 35), none, (MI.ext (MO.t 31) 0)⟩, ⟨(some 36), none, (MI.ext (MO.t 31) 1)⟩, ⟨none, none, (MI.store 2 (MO.t 4) (MO.t 35))⟩, ⟨(some 7), none, (MI.mv (MO.t 36))⟩]) MC.skip)) (MC.seq (MC.ops [⟨(some 37), none, (MI.mv (MO.t 7))⟩, ⟨(some 38), none, (MI.bin .neq (MO.t 37) (MO.c (AV.i .i64 0)))⟩]) (MC.cond (MO.t 38) (MC.seq (MC.ops [⟨(some 39), none, (MI.build [(AV.i .i64 0), (AV.i .i64 0)] [])⟩, ⟨(some 40), none, (MI.mv (MO.t 7))⟩, ⟨none, none, (MI.store 2 (MO.t 2) (MO.t 39))⟩, ⟨(some 3), none, (MI.mv (MO.t 40))⟩]) MC.ret) MC.skip))))) (MC.ops [⟨(some 14), none, (MI.mv (MO.t 5))⟩, ⟨(some 15), none, (MI.bin .add (MO.t 14) (MO.c (AV.i .i64 2)))⟩, ⟨(some 5), none, (MI.mv (MO.t 15))⟩])))))) (MC.seq (MC.ops [⟨(some 41), none, (MI.loadn 2 (MO.t 4))⟩, ⟨none, none, (MI.store 2 (MO.t 2) (MO.t 41))⟩, ⟨(some 3), none, (MI.mv (MO.c (AV.i .i64 0)))⟩]) MC.ret))))⟩
theorem FMc_vec_products : compF Go.Proofs.Try.prog (eqsP Go.Proofs.Try.prog) (neutOf [19, 21]) (neutOf [19, 21]) 32 = some FM_vec_products := by kernel_rfl
def G_vec_products : Gam := mkG [(19, S_frac_Mul), (21, S_frac_Add)] []
theorem sg_vec_products : SoundG Go.Proofs.Try.prog 32 (WF G_vec_products 5 FM_vec_products) := WF_sound (allD_ok (n := G_vec_products.n) (l := [19, 21]) ⟨det_frac_Mul, det_frac_Add, trivial⟩) mixP (mkG_ok (n := [(19, S_frac_Mul), (21, S_frac_Add)]) (g := []) ⟨ok_frac_Mul, ok_frac_Add, trivial⟩ trivial) eqsP_ok FMc_vec_products
def Q_vec_products_4 : RowQ1 := fun cs K => match cs with
  | [(.i .i64 a), (.i .i64 b), (.i .i64 p), (.i .i64 q), (.i .i64 c), (.i .i64 d), (.i .i64 r), (.i .i64 s)] => (((I64 a ∧ I64 b) ∧ (I64 c ∧ I64 d)) ∧ (I64 p ∧ I64 q) ∧ (I64 r ∧ I64 s)) ∧ K (.tup [(.agg [(.i .i64 (twoF a b p q c d r s).n), (.i .i64 (twoF a b p q c d r s).d)]), (.i .i64 (twoF a b p q c d r s).e)])
  | _ => False
theorem detq_vec_products_4 : detQ Q_vec_products_4 := by
  intro cs K h
  unfold Q_vec_products_4 at h
  split at h
  · exact ⟨_, h.2, fun K' k => ⟨h.1, k⟩⟩
  · exact h.elim
def Q_vec_products_6 : RowQ1 := fun cs K => match cs with
  | [(.i .i64 a), (.i .i64 b), (.i .i64 p), (.i .i64 q), (.i .i64 c), (.i .i64 d), (.i .i64 r), (.i .i64 s), (.i .i64 e), (.i .i64 f), (.i .i64 t), (.i .i64 u)] => (((I64 a ∧ I64 b) ∧ (I64 c ∧ I64 d) ∧ I64 e ∧ I64 f) ∧ (I64 p ∧ I64 q) ∧ (I64 r ∧ I64 s) ∧ I64 t ∧ I64 u) ∧ K (.tup [(.agg [(.i .i64 (dotF a b c d e f p q r s t u).n), (.i .i64 (dotF a b c d e f p q r s t u).d)]), (.i .i64 (dotF a b c d e f p q r s t u).e)])
  | _ => False
theorem detq_vec_products_6 : detQ Q_vec_products_6 := by
  intro cs K h
  unfold Q_vec_products_6 at h
  split at h
  · exact ⟨_, h.2, fun K' k => ⟨h.1, k⟩⟩
  · exact h.elim
def S_vec_products : NSpec := rowS 2 [(4, Q_vec_products_4), (6, Q_vec_products_6)]
theorem det_vec_products : DetN S_vec_products := rowS_det ⟨detq_vec_products_4, detq_vec_products_6, trivial⟩
def NF_vec_products_4 (a b p q c d r s : Int) (K : AV → Prop) : Prop :=
 (((I64 a ∧ I64 b) ∧ I64 p ∧ I64 q) ∧
 (bif ((mulF a b p q).e == 0) then (((I64 (0 : Int) ∧ I64 (1 : Int)) ∧ I64 (mulF a b p q).n ∧ I64 (mulF a b p q).d) ∧
 (bif ((addF (0 : Int) (1 : Int) (mulF a b p q).n (mulF a b p q).d).e != 0) then K (.tup [(.agg [(.i .i64 0), (.i .i64 0)]), (.i .i64 (addF (0 : Int) (1 : Int) (mulF a b p q).n (mulF a b p q).d).e)])
 else (((I64 c ∧ I64 d) ∧ I64 r ∧ I64 s) ∧
 (bif ((mulF c d r s).e == 0) then (((I64 (addF (0 : Int) (1 : Int) (mulF a b p q).n (mulF a b p q).d).n ∧ I64 (addF (0 : Int) (1 : Int) (mulF a b p q).n (mulF a b p q).d).d) ∧ I64 (mulF c d r s).n ∧ I64 (mulF c d r s).d) ∧
 (bif ((addF (addF (0 : Int) (1 : Int) (mulF a b p q).n (mulF a b p q).d).n (addF (0 : Int) (1 : Int) (mulF a b p q).n (mulF a b p q).d).d (mulF c d r s).n (mulF c d r s).d).e != 0) then K (.tup [(.agg [(.i .i64 0), (.i .i64 0)]), (.i .i64 (addF (addF (0 : Int) (1 : Int) (mulF a b p q).n (mulF a b p q).d).n (addF (0 : Int) (1 : Int) (mulF a b p q).n (mulF a b p q).d).d (mulF c d r s).n (mulF c d r s).d).e)])
 else K (.tup [(.agg [(.i .i64 (addF (addF (0 : Int) (1 : Int) (mulF a b p q).n (mulF a b p q).d).n (addF (0 : Int) (1 : Int) (mulF a b p q).n (mulF a b p q).d).d (mulF c d r s).n (mulF c d r s).d).n), (.i .i64 (addF (addF (0 : Int) (1 : Int) (mulF a b p q).n (mulF a b p q).d).n (addF (0 : Int) (1 : Int) (mulF a b p q).n (mulF a b p q).d).d (mulF c d r s).n (mulF c d r s).d).d)]), (.i .i64 0)])))
 else (bif ((mulF c d r s).e != 0) then K (.tup [(.agg [(.i .i64 0), (.i .i64 0)]), (.i .i64 (mulF c d r s).e)])
 else K (.tup [(.agg [(.i .i64 (addF (0 : Int) (1 : Int) (mulF a b p q).n (mulF a b p q).d).n), (.i .i64 (addF (0 : Int) (1 : Int) (mulF a b p q).n (mulF a b p q).d).d)]), (.i .i64 0)]))))))
 else (bif ((mulF a b p q).e != 0) then K (.tup [(.agg [(.i .i64 0), (.i .i64 0)]), (.i .i64 (mulF a b p q).e)])
 else (((I64 c ∧ I64 d) ∧ I64 r ∧ I64 s) ∧
 (bif ((mulF c d r s).e == 0) then (((I64 (0 : Int) ∧ I64 (1 : Int)) ∧ I64 (mulF c d r s).n ∧ I64 (mulF c d r s).d) ∧
 (bif ((addF (0 : Int) (1 : Int) (mulF c d r s).n (mulF c d r s).d).e != 0) then K (.tup [(.agg [(.i .i64 0), (.i .i64 0)]), (.i .i64 (addF (0 : Int) (1 : Int) (mulF c d r s).n (mulF c d r s).d).e)])
 else K (.tup [(.agg [(.i .i64 (addF (0 : Int) (1 : Int) (mulF c d r s).n (mulF c d r s).d).n), (.i .i64 (addF (0 : Int) (1 : Int) (mulF c d r s).n (mulF c d r s).d).d)]), (.i .i64 0)])))
 else (bif ((mulF c d r s).e != 0) then K (.tup [(.agg [(.i .i64 0), (.i .i64 0)]), (.i .i64 (mulF c d r s).e)])
 else K (.tup [(.agg [(.i .i64 0), (.i .i64 1)]), (.i .i64 0)])))))))
theorem nf_vec_products_4 (a b p q c d r s : Int) (ty esz : Nat) (K : AV → Prop) : WF G_vec_products 5 FM_vec_products [.slc 0 0 0 4 4] [some ⟨false, ty, esz, 1, false, fun _ => [(.i .i64 a), (.i .i64 b), (.i .i64 p), (.i .i64 q), (.i .i64 c), (.i .i64 d), (.i .i64 r), (.i .i64 s)], 0⟩] (fun a _ => K a) = NF_vec_products_4 a b p q c d r s K := by kernel_rfl
theorem key_vec_products_4 (a b p q c d r s : Int) {K : AV → Prop} (hp : ((I64 a ∧ I64 b) ∧ (I64 c ∧ I64 d)) ∧ (I64 p ∧ I64 q) ∧ (I64 r ∧ I64 s)) (hk : K (.tup [(.agg [(.i .i64 (twoF a b p q c d r s).n), (.i .i64 (twoF a b p q c d r s).d)]), (.i .i64 (twoF a b p q c d r s).e)])) : NF_vec_products_4 a b p q c d r s K := by
  unfold NF_vec_products_4
  obtain ⟨⟨i1, i2⟩, j1, j2⟩ := hp
  unfold twoF at hk
  have rm := mulF_range
  have ra := addF_range
  have z0 : I64 0 := by unfold I64; omega
  have z1 : I64 1 := by unfold I64; omega
  simp only [i1.1, i1.2, i2.1, i2.2, j1.1, j1.2, j2.1, j2.2, z0, z1, (rm a b p q).1, (rm a b p q).2, (rm c d r s).1, (rm c d r s).2, fun a b c d => (ra a b c d).1, fun a b c d => (ra a b c d).2, and_self, true_and]
  generalize mulF a b p q = x at *
  generalize mulF c d r s = y at *
  by_cases hx : x.e = 0 <;> by_cases hy : y.e = 0 <;> by_cases h1 : (addF 0 1 x.n x.d).e = 0 <;> by_cases h2 : (addF (addF 0 1 x.n x.d).n (addF 0 1 x.n x.d).d y.n y.d).e = 0 <;> simp [stepF, hx, hy, h1, h2] at hk ⊢ <;> exact hk
theorem rowok_vec_products_4 : ∀ cs K ty esz, Q_vec_products_4 cs K → plainL cs = true ∧ WF G_vec_products 5 FM_vec_products [.slc 0 0 0 4 4] [some ⟨false, ty, esz, 1, false, fun _ => cs, 0⟩] fun a _ => plainA a = true ∧ K a := by
  intro cs K ty esz h
  unfold Q_vec_products_4 at h
  split at h
  · rename_i a b p q c d r s
    refine ⟨by simp [plainL, plainA], ?_⟩
    rw [nf_vec_products_4 a b p q c d r s ty esz fun a => plainA a = true ∧ K a]
    exact key_vec_products_4 a b p q c d r s (K := fun a => plainA a = true ∧ K a) h.1 ⟨by simp [plainA, plainL], h.2⟩
  · exact h.elim
def NF_vec_products_6 (a b p q c d r s e f t u : Int) (K : AV → Prop) : Prop :=
 (((I64 a ∧ I64 b) ∧ I64 p ∧ I64 q) ∧
 (bif ((mulF a b p q).e == 0) then (((I64 (0 : Int) ∧ I64 (1 : Int)) ∧ I64 (mulF a b p q).n ∧ I64 (mulF a b p q).d) ∧
 (bif ((addF (0 : Int) (1 : Int) (mulF a b p q).n (mulF a b p q).d).e != 0) then K (.tup [(.agg [(.i .i64 0), (.i .i64 0)]), (.i .i64 (addF (0 : Int) (1 : Int) (mulF a b p q).n (mulF a b p q).d).e)])
 else (((I64 c ∧ I64 d) ∧ I64 r ∧ I64 s) ∧
 (bif ((mulF c d r s).e == 0) then (((I64 (addF (0 : Int) (1 : Int) (mulF a b p q).n (mulF a b p q).d).n ∧ I64 (addF (0 : Int) (1 : Int) (mulF a b p q).n (mulF a b p q).d).d) ∧ I64 (mulF c d r s).n ∧ I64 (mulF c d r s).d) ∧
 (bif ((addF (addF (0 : Int) (1 : Int) (mulF a b p q).n (mulF a b p q).d).n (addF (0 : Int) (1 : Int) (mulF a b p q).n (mulF a b p q).d).d (mulF c d r s).n (mulF c d r s).d).e != 0) then K (.tup [(.agg [(.i .i64 0), (.i .i64 0)]), (.i .i64 (addF (addF (0 : Int) (1 : Int) (mulF a b p q).n (mulF a b p q).d).n (addF (0 : Int) (1 : Int) (mulF a b p q).n (mulF a b p q).d).d (mulF c d r s).n (mulF c d r s).d).e)])
 else (((I64 e ∧ I64 f) ∧ I64 t ∧ I64 u) ∧
 (bif ((mulF e f t u).e == 0) then (((I64 (addF (addF (0 : Int) (1 : Int) (mulF a b p q).n (mulF a b p q).d).n (addF (0 : Int) (1 : Int) (mulF a b p q).n (mulF a b p q).d).d (mulF c d r s).n (mulF c d r s).d).n ∧ I64 (addF (addF (0 : Int) (1 : Int) (mulF a b p q).n (mulF a b p q).d).n (addF (0 : Int) (1 : Int) (mulF a b p q).n (mulF a b p q).d).d (mulF c d r s).n (mulF c d r s).d).d) ∧ I64 (mulF e f t u).n ∧ I64 (mulF e f t u).d) ∧
 (bif ((addF (addF (addF (0 : Int) (1 : Int) (mulF a b p q).n (mulF a b p q).d).n (addF (0 : Int) (1 : Int) (mulF a b p q).n (mulF a b p q).d).d (mulF c d r s).n (mulF c d r s).d).n (addF (addF (0 : Int) (1 : Int) (mulF a b p q).n (mulF a b p q).d).n (addF (0 : Int) (1 : Int) (mulF a b p q).n (mulF a b p q).d).d (mulF c d r s).n (mulF c d r s).d).d (mulF e f t u).n (mulF e f t u).d).e != 0) then K (.tup [(.agg [(.i .i64 0), (.i .i64 0)]), (.i .i64 (addF (addF (addF (0 : Int) (1 : Int) (mulF a b p q).n (mulF a b p q).d).n (addF (0 : Int) (1 : Int) (mulF a b p q).n (mulF a b p q).d).d (mulF c d r s).n (mulF c d r s).d).n (addF (addF (0 : Int) (1 : Int) (mulF a b p q).n (mulF a b p q).d).n (addF (0 : Int) (1 : Int) (mulF a b p q).n (mulF a b p q).d).d (mulF c d r s).n (mulF c d r s).d).d (mulF e f t u).n (mulF e f t u).d).e)])
 else K (.tup [(.agg [(.i .i64 (addF (addF (addF (0 : Int) (1 : Int) (mulF a b p q).n (mulF a b p q).d).n (addF (0 : Int) (1 : Int) (mulF a b p q).n (mulF a b p q).d).d (mulF c d r s).n (mulF c d r s).d).n (addF (addF (0 : Int) (1 : Int) (mulF a b p q).n (mulF a b p q).d).n (addF (0 : Int) (1 : Int) (mulF a b p q).n (mulF a b p q).d).d (mulF c d r s).n (mulF c d r s).d).d (mulF e f t u).n (mulF e f t u).d).n), (.i .i64 (addF (addF (addF (0 : Int) (1 : Int) (mulF a b p q).n (mulF a b p q).d).n (addF (0 : Int) (1 : Int) (mulF a b p q).n (mulF a b p q).d).d (mulF c d r s).n (mulF c d r s).d).n (addF (addF (0 : Int) (1 : Int) (mulF a b p q).n (mulF a b p q).d).n (addF (0 : Int) (1 : Int) (mulF a b p q).n (mulF a b p q).d).d (mulF c d r s).n (mulF c d r s).d).d (mulF e f t u).n (mulF e f t u).d).d)]), (.i .i64 0)])))
 else (bif ((mulF e f t u).e != 0) then K (.tup [(.agg [(.i .i64 0), (.i .i64 0)]), (.i .i64 (mulF e f t u).e)])
 else K (.tup [(.agg [(.i .i64 (addF (addF (0 : Int) (1 : Int) (mulF a b p q).n (mulF a b p q).d).n (addF (0 : Int) (1 : Int) (mulF a b p q).n (mulF a b p q).d).d (mulF c d r s).n (mulF c d r s).d).n), (.i .i64 (addF (addF (0 : Int) (1 : Int) (mulF a b p q).n (mulF a b p q).d).n (addF (0 : Int) (1 : Int) (mulF a b p q).n (mulF a b p q).d).d (mulF c d r s).n (mulF c d r s).d).d)]), (.i .i64 0)]))))))
 else (bif ((mulF c d r s).e != 0) then K (.tup [(.agg [(.i .i64 0), (.i .i64 0)]), (.i .i64 (mulF c d r s).e)])
 else (((I64 e ∧ I64 f) ∧ I64 t ∧ I64 u) ∧
 (bif ((mulF e f t u).e == 0) then (((I64 (addF (0 : Int) (1 : Int) (mulF a b p q).n (mulF a b p q).d).n ∧ I64 (addF (0 : Int) (1 : Int) (mulF a b p q).n (mulF a b p q).d).d) ∧ I64 (mulF e f t u).n ∧ I64 (mulF e f t u).d) ∧
 (bif ((addF (addF (0 : Int) (1 : Int) (mulF a b p q).n (mulF a b p q).d).n (addF (0 : Int) (1 : Int) (mulF a b p q).n (mulF a b p q).d).d (mulF e f t u).n (mulF e f t u).d).e != 0) then K (.tup [(.agg [(.i .i64 0), (.i .i64 0)]), (.i .i64 (addF (addF (0 : Int) (1 : Int) (mulF a b p q).n (mulF a b p q).d).n (addF (0 : Int) (1 : Int) (mulF a b p q).n (mulF a b p q).d).d (mulF e f t u).n (mulF e f t u).d).e)])
 else K (.tup [(.agg [(.i .i64 (addF (addF (0 : Int) (1 : Int) (mulF a b p q).n (mulF a b p q).d).n (addF (0 : Int) (1 : Int) (mulF a b p q).n (mulF a b p q).d).d (mulF e f t u).n (mulF e f t u).d).n), (.i .i64 (addF (addF (0 : Int) (1 : Int) (mulF a b p q).n (mulF a b p q).d).n (addF (0 : Int) (1 : Int) (mulF a b p q).n (mulF a b p q).d).d (mulF e f t u).n (mulF e f t u).d).d)]), (.i .i64 0)])))
 else (bif ((mulF e f t u).e != 0) then K (.tup [(.agg [(.i .i64 0), (.i .i64 0)]), (.i .i64 (mulF e f t u).e)])
 else K (.tup [(.agg [(.i .i64 (addF (0 : Int) (1 : Int) (mulF a b p q).n (mulF a b p q).d).n), (.i .i64 (addF (0 : Int) (1 : Int) (mulF a b p q).n (mulF a b p q).d).d)]), (.i .i64 0)])))))))))
 else (bif ((mulF a b p q).e != 0) then K (.tup [(.agg [(.i .i64 0), (.i .i64 0)]), (.i .i64 (mulF a b p q).e)])
 else (((I64 c ∧ I64 d) ∧ I64 r ∧ I64 s) ∧
 (bif ((mulF c d r s).e == 0) then (((I64 (0 : Int) ∧ I64 (1 : Int)) ∧ I64 (mulF c d r s).n ∧ I64 (mulF c d r s).d) ∧
 (bif ((addF (0 : Int) (1 : Int) (mulF c d r s).n (mulF c d r s).d).e != 0) then K (.tup [(.agg [(.i .i64 0), (.i .i64 0)]), (.i .i64 (addF (0 : Int) (1 : Int) (mulF c d r s).n (mulF c d r s).d).e)])
 else (((I64 e ∧ I64 f) ∧ I64 t ∧ I64 u) ∧
 (bif ((mulF e f t u).e == 0) then (((I64 (addF (0 : Int) (1 : Int) (mulF c d r s).n (mulF c d r s).d).n ∧ I64 (addF (0 : Int) (1 : Int) (mulF c d r s).n (mulF c d r s).d).d) ∧ I64 (mulF e f t u).n ∧ I64 (mulF e f t u).d) ∧
 (bif ((addF (addF (0 : Int) (1 : Int) (mulF c d r s).n (mulF c d r s).d).n (addF (0 : Int) (1 : Int) (mulF c d r s).n (mulF c d r s).d).d (mulF e f t u).n (mulF e f t u).d).e != 0) then K (.tup [(.agg [(.i .i64 0), (.i .i64 0)]), (.i .i64 (addF (addF (0 : Int) (1 : Int) (mulF c d r s).n (mulF c d r s).d).n (addF (0 : Int) (1 : Int) (mulF c d r s).n (mulF c d r s).d).d (mulF e f t u).n (mulF e f t u).d).e)])
 else K (.tup [(.agg [(.i .i64 (addF (addF (0 : Int) (1 : Int) (mulF c d r s).n (mulF c d r s).d).n (addF (0 : Int) (1 : Int) (mulF c d r s).n (mulF c d r s).d).d (mulF e f t u).n (mulF e f t u).d).n), (.i .i64 (addF (addF (0 : Int) (1 : Int) (mulF c d r s).n (mulF c d r s).d).n (addF (0 : Int) (1 : Int) (mulF c d r s).n (mulF c d r s).d).d (mulF e f t u).n (mulF e f t u).d).d)]), (.i .i64 0)])))
 else (bif ((mulF e f t u).e != 0) then K (.tup [(.agg [(.i .i64 0), (.i .i64 0)]), (.i .i64 (mulF e f t u).e)])
 else K (.tup [(.agg [(.i .i64 (addF (0 : Int) (1 : Int) (mulF c d r s).n (mulF c d r s).d).n), (.i .i64 (addF (0 : Int) (1 : Int) (mulF c d r s).n (mulF c d r s).d).d)]), (.i .i64 0)]))))))
 else (bif ((mulF c d r s).e != 0) then K (.tup [(.agg [(.i .i64 0), (.i .i64 0)]), (.i .i64 (mulF c d r s).e)])
 else (((I64 e ∧ I64 f) ∧ I64 t ∧ I64 u) ∧
 (bif ((mulF e f t u).e == 0) then (((I64 (0 : Int) ∧ I64 (1 : Int)) ∧ I64 (mulF e f t u).n ∧ I64 (mulF e f t u).d) ∧
 (bif ((addF (0 : Int) (1 : Int) (mulF e f t u).n (mulF e f t u).d).e != 0) then K (.tup [(.agg [(.i .i64 0), (.i .i64 0)]), (.i .i64 (addF (0 : Int) (1 : Int) (mulF e f t u).n (mulF e f t u).d).e)])
 else K (.tup [(.agg [(.i .i64 (addF (0 : Int) (1 : Int) (mulF e f t u).n (mulF e f t u).d).n), (.i .i64 (addF (0 : Int) (1 : Int) (mulF e f t u).n (mulF e f t u).d).d)]), (.i .i64 0)])))
 else (bif ((mulF e f t u).e != 0) then K (.tup [(.agg [(.i .i64 0), (.i .i64 0)]), (.i .i64 (mulF e f t u).e)])
 else K (.tup [(.agg [(.i .i64 0), (.i .i64 1)]), (.i .i64 0)]))))))))))
theorem nf_vec_products_6 (a b p q c d r s e f t u : Int) (ty esz : Nat) (K : AV → Prop) : WF G_vec_products 5 FM_vec_products [.slc 0 0 0 6 6] [some ⟨false, ty, esz, 1, false, fun _ => [(.i .i64 a), (.i .i64 b), (.i .i64 p), (.i .i64 q), (.i .i64 c), (.i .i64 d), (.i .i64 r), (.i .i64 s), (.i .i64 e), (.i .i64 f), (.i .i64 t), (.i .i64 u)], 0⟩] (fun a _ => K a) = NF_vec_products_6 a b p q c d r s e f t u K := by kernel_rfl
theorem key_vec_products_6 (a b p q c d r s e f t u : Int) {K : AV → Prop} (hp : ((I64 a ∧ I64 b) ∧ (I64 c ∧ I64 d) ∧ I64 e ∧ I64 f) ∧ (I64 p ∧ I64 q) ∧ (I64 r ∧ I64 s) ∧ I64 t ∧ I64 u) (hk : K (.tup [(.agg [(.i .i64 (dotF a b c d e f p q r s t u).n), (.i .i64 (dotF a b c d e f p q r s t u).d)]), (.i .i64 (dotF a b c d e f p q r s t u).e)])) : NF_vec_products_6 a b p q c d r s e f t u K := by
  unfold NF_vec_products_6
  obtain ⟨⟨i1, i2, i3⟩, j1, j2, j3⟩ := hp
  unfold dotF at hk
  have rm := mulF_range
  have ra := addF_range
  have z0 : I64 0 := by unfold I64; omega
  have z1 : I64 1 := by unfold I64; omega
  simp only [i1.1, i1.2, i2.1, i2.2, i3.1, i3.2, j1.1, j1.2, j2.1, j2.2, j3.1, j3.2, z0, z1, (rm a b p q).1, (rm a b p q).2, (rm c d r s).1, (rm c d r s).2, (rm e f t u).1, (rm e f t u).2, fun a b c d => (ra a b c d).1, fun a b c d => (ra a b c d).2, and_self, true_and]
  generalize mulF a b p q = x at *
  generalize mulF c d r s = y at *
  generalize mulF e f t u = z at *
  by_cases hx : x.e = 0 <;> by_cases hy : y.e = 0 <;> by_cases hz : z.e = 0 <;> by_cases h1 : (addF 0 1 x.n x.d).e = 0 <;> by_cases h2 : (addF (addF 0 1 x.n x.d).n (addF 0 1 x.n x.d).d y.n y.d).e = 0 <;> by_cases h3 : (addF (addF (addF 0 1 x.n x.d).n (addF 0 1 x.n x.d).d y.n y.d).n (addF (addF 0 1 x.n x.d).n (addF 0 1 x.n x.d).d y.n y.d).d z.n z.d).e = 0 <;> simp [stepF, hx, hy, hz, h1, h2, h3] at hk ⊢ <;> exact hk
theorem rowok_vec_products_6 : ∀ cs K ty esz, Q_vec_products_6 cs K → plainL cs = true ∧ WF G_vec_products 5 FM_vec_products [.slc 0 0 0 6 6] [some ⟨false, ty, esz, 1, false, fun _ => cs, 0⟩] fun a _ => plainA a = true ∧ K a := by
  intro cs K ty esz h
  unfold Q_vec_products_6 at h
  split at h
  · rename_i a b p q c d r s e f t u
    refine ⟨by simp [plainL, plainA], ?_⟩
    rw [nf_vec_products_6 a b p q c d r s e f t u ty esz fun a => plainA a = true ∧ K a]
    exact key_vec_products_6 a b p q c d r s e f t u (K := fun a => plainA a = true ∧ K a) h.1 ⟨by simp [plainA, plainL], h.2⟩
  · exact h.elim
theorem ok_vec_products : SoundN Go.Proofs.Try.prog 32 S_vec_products := rowS_ok sg_vec_products ⟨rowok_vec_products_4, rowok_vec_products_6, trivial⟩

def FM_vec_dot : FM := ⟨22, [(RV.cells 4 2), (RV.tmp 5)], (MC.seq (MC.ops [⟨(some 2), none, (MI.box 35 (MO.t 0))⟩, ⟨(some 3), none, (MI.box 35 (MO.t 1))⟩, ⟨(some 4), none, (MI.alloc 23 [(AV.i .i64 0), (AV.i .i64 0)])⟩, ⟨(some 5), none, (MI.mv (MO.c (AV.i .i64 0)))⟩]) (MC.seq (MC.ops [⟨(some 6), none, (MI.iaddrA 3 2 (MO.t 2) (MO.c (AV.i .i64 0)))⟩, ⟨(some 7), none, (MI.loadn 2 (MO.t 6))⟩, ⟨(some 8), none, (MI.iaddrA 3 2 (MO.t 3) (MO.c (AV.i .i64 0)))⟩, ⟨(some 9), none, (MI.loadn 2 (MO.t 8))⟩, ⟨(some 10), none, (MI.iaddrA 3 2 (MO.t 2) (MO.c (AV.i .i64 1)))⟩, ⟨(some 11), none, (MI.loadn 2 (MO.t 10))⟩, ⟨(some 12), none, (MI.iaddrA 3 2 (MO.t 3) (MO.c (AV.i .i64 1)))⟩, ⟨(some 13), none, (MI.loadn 2 (MO.t 12))⟩, ⟨(some 14), none, (MI.iaddrA 3 2 (MO.t 2) (MO.c (AV.i .i64 2)))⟩, ⟨(some 15), none, (MI.loadn 2 (MO.t 14))⟩, ⟨(some 16), none, (MI.iaddrA 3 2 (MO.t 3) (MO.c (AV.i .i64 2)))⟩, ⟨(some 17), none, (MI.loadn 2 (MO.t 16))⟩, ⟨(some 18), none, (MI.bslice 23 6 [(AV.i .i64 0), (AV.i .i64 0), (AV.i .i64 0), (AV.i .i64 0), (AV.i .i64 0), (AV.i .i64 0), (AV.i .i64 0), (AV.i .i64 0), (AV.i .i64 0), (AV.i .i64 0), (AV.i .i64 0), (AV.i .i64 0)] [(0, 2, (MO.t 7)), (2, 2, (MO.t 9)), (4, 2, (MO.t 11)), (6, 2, (MO.t 13)), (8, 2, (MO.t 15)), (10, 2, (MO.t 17))])⟩, ⟨(some 19), none, (MI.callN 32 [(MO.t 18)])⟩, ⟨(some 20), none, (MI.ext (MO.t 19) 0)⟩, ⟨(some 21), none, (MI.ext (MO.t 19) 1)⟩, ⟨none, none, (MI.store 2 (MO.t 4) (MO.t 20))⟩, ⟨(some 5), none, (MI.mv (MO.t 21))⟩]) MC.ret))⟩
theorem FMc_vec_dot : compF Go.Proofs.Try.prog (eqsP Go.Proofs.Try.prog) (neutOf [32]) (neutOf [32]) 35 = some FM_vec_dot := by kernel_rfl
def G_vec_dot : Gam := mkG [(32, S_vec_products)] []
theorem sg_vec_dot : SoundG Go.Proofs.Try.prog 35 (WF G_vec_dot 0 FM_vec_dot) := WF_sound (allD_ok (n := G_vec_dot.n) (l := [32]) ⟨det_vec_products, trivial⟩) mixP (mkG_ok (n := [(32, S_vec_products)]) (g := []) ⟨ok_vec_products, trivial⟩ trivial) eqsP_ok FMc_vec_dot
def S_vec_dot : NSpec := fun args _ K => match args with
  | [(.agg [(.i .i64 a), (.i .i64 b), (.i .i64 c), (.i .i64 d), (.i .i64 e), (.i .i64 f)]), (.agg [(.i .i64 p), (.i .i64 q), (.i .i64 r), (.i .i64 s), (.i .i64 t), (.i .i64 u)])] => (((I64 a ∧ I64 b) ∧ (I64 c ∧ I64 d) ∧ I64 e ∧ I64 f) ∧ (I64 p ∧ I64 q) ∧ (I64 r ∧ I64 s) ∧ I64 t ∧ I64 u) ∧ K (.tup [(.agg [(.i .i64 (dotF a b c d e f p q r s t u).n), (.i .i64 (dotF a b c d e f p q r s t u).d)]), (.i .i64 (dotF a b c d e f p q r s t u).e)])
  | _ => False
theorem det_vec_dot : DetN S_vec_dot := by
  intro args H K h
  unfold S_vec_dot at h
  split at h
  · exact ⟨_, h.2, fun H' K' _ k => ⟨h.1, k⟩⟩
  · exact h.elim

def NF_vec_dot (a b c d e f p q r s t u : Int) (K : AV → Prop) : Prop :=
 ((((I64 a ∧ I64 b) ∧ (I64 c ∧ I64 d) ∧ I64 e ∧ I64 f) ∧ (I64 p ∧ I64 q) ∧ (I64 r ∧ I64 s) ∧ I64 t ∧ I64 u) ∧
 K (.tup [(.agg [(.i .i64 (dotF a b c d e f p q r s t u).n), (.i .i64 (dotF a b c d e f p q r s t u).d)]), (.i .i64 (dotF a b c d e f p q r s t u).e)]))
theorem nf_vec_dot (a b c d e f p q r s t u : Int) (K : AV → Prop) : WF G_vec_dot 0 FM_vec_dot [(.agg [(.i .i64 a), (.i .i64 b), (.i .i64 c), (.i .i64 d), (.i .i64 e), (.i .i64 f)]), (.agg [(.i .i64 p), (.i .i64 q), (.i .i64 r), (.i .i64 s), (.i .i64 t), (.i .i64 u)])] [] (fun a _ => K a) = NF_vec_dot a b c d e f p q r s t u K := by kernel_rfl
theorem key_vec_dot (a b c d e f p q r s t u : Int) {K : AV → Prop} (hp : ((I64 a ∧ I64 b) ∧ (I64 c ∧ I64 d) ∧ I64 e ∧ I64 f) ∧ (I64 p ∧ I64 q) ∧ (I64 r ∧ I64 s) ∧ I64 t ∧ I64 u) (hk : K (.tup [(.agg [(.i .i64 (dotF a b c d e f p q r s t u).n), (.i .i64 (dotF a b c d e f p q r s t u).d)]), (.i .i64 (dotF a b c d e f p q r s t u).e)])) : NF_vec_dot a b c d e f p q r s t u K := by
  unfold NF_vec_dot
  exact ⟨hp, hk⟩
theorem ok_vec_dot : SoundN Go.Proofs.Try.prog 35 S_vec_dot := by
  refine soundN_of sg_vec_dot fun args H K hS => ?_
  unfold S_vec_dot at hS
  split at hS
  · rename_i a b c d e f p q r s t u
    have hS1 := key_vec_dot a b c d e f p q r s t u (K := fun a => plainA a = true ∧ K a) hS.1 ⟨by simp [plainA, plainL], hS.2⟩
    refine ⟨by simp [plainA, plainL], ?_⟩
    rw [nf_vec_dot a b c d e f p q r s t u fun a => plainA a = true ∧ K a]
    exact hS1
  · exact hS.elim

def FM_vec_Dot : FM := ⟨22, [(RV.cells 4 2), (RV.tmp 5)], (MC.seq (MC.ops [⟨(some 2), none, (MI.box 25 (MO.t 0))⟩, ⟨(some 3), none, (MI.box 25 (MO.t 1))⟩, ⟨(some 4), none, (MI.alloc 23 [(AV.i .i64 0), (AV.i .i64 0)])⟩, ⟨(some 5), none, (MI.mv (MO.c (AV.i .i64 0)))⟩]) (MC.seq (MC.seq (MC.ops [⟨(some 6), none, (MI.loadn 6 (MO.t 2))⟩, ⟨(some 7), none, (MI.callN 27 [(MO.t 6)])⟩, ⟨(some 8), none, (MI.bin .neq (MO.t 7) (MO.c (AV.i .i64 0)))⟩, ⟨(some 9), none, (MI.mv (MO.t 8))⟩, ⟨(some 10), (some (9, false)), (MI.loadn 6 (MO.t 3))⟩, ⟨(some 11), (some (9, false)), (MI.callN 27 [(MO.t 10)])⟩, ⟨(some 12), (some (9, false)), (MI.bin .neq (MO.t 11) (MO.c (AV.i .i64 0)))⟩, ⟨(some 13), none, (MI.pick (MO.t 9) (MO.c (AV.b true)) (MO.t 12))⟩]) (MC.cond (MO.t 13) (MC.seq (MC.ops [⟨(some 14), none, (MI.build [(AV.i .i64 0), (AV.i .i64 0)] [])⟩, ⟨none, none, (MI.store 2 (MO.t 4) (MO.t 14))⟩, ⟨(some 5), none, (MI.mv (MO.c (AV.i .i64 8)))⟩]) MC.ret) MC.skip)) (MC.seq (MC.dr (SchM.op ⟨(some 15), none, (MI.loadn 6 (MO.t 2))⟩ (SchM.op ⟨(some 16), none, (MI.callN 29 [(MO.t 15)])⟩ (SchM.op ⟨(some 17), none, (MI.loadn 6 (MO.t 3))⟩ (SchM.op ⟨(some 18), none, (MI.callN 29 [(MO.t 17)])⟩ (SchM.op ⟨(some 19), none, (MI.callN 35 [(MO.t 16), (MO.t 18)])⟩ (SchM.op ⟨(some 20), none, (MI.ext (MO.t 19) 0)⟩ (SchM.op ⟨(some 21), none, (MI.ext (MO.t 19) 1)⟩ (SchM.op ⟨none, none, (MI.store 2 (MO.t 4) (MO.t 20))⟩ (SchM.op ⟨(some 5), none, (MI.mv (MO.t 21))⟩ SchM.done)))))))))) MC.ret)))⟩
theorem FMc_vec_Dot : compF Go.Proofs.Try.prog (eqsP Go.Proofs.Try.prog) (neutOf [27, 29, 35]) (neutOf [27, 29, 35]) 12 = some FM_vec_Dot := by kernel_rfl
def G_vec_Dot : Gam := mkG [(27, S_vec_Check), (29, S_vec_list), (35, S_vec_dot)] []
theorem sg_vec_Dot : SoundG Go.Proofs.Try.prog 12 (WF G_vec_Dot 0 FM_vec_Dot) := WF_sound (allD_ok (n := G_vec_Dot.n) (l := [27, 29, 35]) ⟨det_vec_Check, det_vec_list, det_vec_dot, trivial⟩) mixP (mkG_ok (n := [(27, S_vec_Check), (29, S_vec_list), (35, S_vec_dot)]) (g := []) ⟨ok_vec_Check, ok_vec_list, ok_vec_dot, trivial⟩ trivial) eqsP_ok FMc_vec_Dot
def S_vec_Dot : NSpec := fun args _ K => match args with
  | [(.agg [(.i .i64 a), (.i .i64 b), (.i .i64 c), (.i .i64 d), (.i .i64 e), (.i .i64 f)]), (.agg [(.i .i64 p), (.i .i64 q), (.i .i64 r), (.i .i64 s), (.i .i64 t), (.i .i64 u)])] => (((I64 a ∧ I64 b) ∧ (I64 c ∧ I64 d) ∧ I64 e ∧ I64 f) ∧ (I64 p ∧ I64 q) ∧ (I64 r ∧ I64 s) ∧ I64 t ∧ I64 u) ∧ K (.tup [(.agg [(.i .i64 (dotV a b c d e f p q r s t u).n), (.i .i64 (dotV a b c d e f p q r s t u).d)]), (.i .i64 (dotV a b c d e f p q r s t u).e)])
  | _ => False
theorem det_vec_Dot : DetN S_vec_Dot := by
  intro args H K h
  unfold S_vec_Dot at h
  split at h
  · exact ⟨_, h.2, fun H' K' _ k => ⟨h.1, k⟩⟩
  · exact h.elim

def NF_vec_Dot (a b c d e f p q r s t u : Int) (K : AV → Prop) : Prop :=
 (((I64 a ∧ I64 b) ∧ (I64 c ∧ I64 d) ∧ I64 e ∧ I64 f) ∧
 (bif ((okVE a b c d e f) != 0) then K (.tup [(.agg [(.i .i64 0), (.i .i64 0)]), (.i .i64 8)])
 else (((I64 p ∧ I64 q) ∧ (I64 r ∧ I64 s) ∧ I64 t ∧ I64 u) ∧
 (bif ((okVE p q r s t u) != 0) then K (.tup [(.agg [(.i .i64 0), (.i .i64 0)]), (.i .i64 8)])
 else ((((I64 a ∧ I64 b) ∧ (I64 c ∧ I64 d) ∧ I64 e ∧ I64 f) ∧ (I64 p ∧ I64 q) ∧ (I64 r ∧ I64 s) ∧ I64 t ∧ I64 u) ∧
 K (.tup [(.agg [(.i .i64 (dotF a b c d e f p q r s t u).n), (.i .i64 (dotF a b c d e f p q r s t u).d)]), (.i .i64 (dotF a b c d e f p q r s t u).e)]))))))
theorem nf_vec_Dot (a b c d e f p q r s t u : Int) (K : AV → Prop) : WF G_vec_Dot 0 FM_vec_Dot [(.agg [(.i .i64 a), (.i .i64 b), (.i .i64 c), (.i .i64 d), (.i .i64 e), (.i .i64 f)]), (.agg [(.i .i64 p), (.i .i64 q), (.i .i64 r), (.i .i64 s), (.i .i64 t), (.i .i64 u)])] [] (fun a _ => K a) = NF_vec_Dot a b c d e f p q r s t u K := by kernel_rfl
theorem key_vec_Dot (a b c d e f p q r s t u : Int) {K : AV → Prop} (hp : ((I64 a ∧ I64 b) ∧ (I64 c ∧ I64 d) ∧ I64 e ∧ I64 f) ∧ (I64 p ∧ I64 q) ∧ (I64 r ∧ I64 s) ∧ I64 t ∧ I64 u) (hk : K (.tup [(.agg [(.i .i64 (dotV a b c d e f p q r s t u).n), (.i .i64 (dotV a b c d e f p q r s t u).d)]), (.i .i64 (dotV a b c d e f p q r s t u).e)])) : NF_vec_Dot a b c d e f p q r s t u K := by
  unfold NF_vec_Dot
  obtain ⟨i, j⟩ := hp
  refine ⟨i, ?_⟩
  by_cases x : okV a b c d e f
  rotate_left
  · exact bif_i (fun _ => K_of hk (by simp [dotV, x])) (fun h => by simp [okVE, x] at h)
  refine bif_i (fun h => by simp [okVE, x] at h) (fun _ => ⟨j, ?_⟩)
  by_cases y : okV p q r s t u
  rotate_left
  · exact bif_i (fun _ => K_of hk (by simp [dotV, y])) (fun h => by simp [okVE, y] at h)
  refine bif_i (fun h => by simp [okVE, y] at h) (fun _ => ⟨⟨i, j⟩, K_of hk ?_⟩)
  simp [dotV, x, y]
theorem ok_vec_Dot : SoundN Go.Proofs.Try.prog 12 S_vec_Dot := by
  refine soundN_of sg_vec_Dot fun args H K hS => ?_
  unfold S_vec_Dot at hS
  split at hS
  · rename_i a b c d e f p q r s t u
    have hS1 := key_vec_Dot a b c d e f p q r s t u (K := fun a => plainA a = true ∧ K a) hS.1 ⟨by simp [plainA, plainL], hS.2⟩
    refine ⟨by simp [plainA, plainL], ?_⟩
    rw [nf_vec_Dot a b c d e f p q r s t u fun a => plainA a = true ∧ K a]
    exact hS1
  · exact hS.elim

end Go.Proofs.Ytpfmnmcpffajeaa.V
