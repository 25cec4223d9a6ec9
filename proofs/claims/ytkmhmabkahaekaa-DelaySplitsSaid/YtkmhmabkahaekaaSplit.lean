/-
  Contracts, printed by a program of this session (wip/tool/gen.py) from the unit text split: what each function comes to, and its proof.
-/
import Derived.Test.YtkmhmabkahaekaaBase
import Derived.Test.YtkmhmabkahaekaaProg
set_option linter.unusedVariables false
set_option linter.unusedSimpArgs false
set_option maxRecDepth 100000
namespace Go.Proofs.Ytkmhmabkahaekaa.V
open Go Go.RowKit


def spanOk (lo hi : Int) : Prop := lo ≤ hi ∧ -3000000000 ≤ lo ∧ hi ≤ 3000000000
instance (lo hi : Int) : Decidable (spanOk lo hi) := by unfold spanOk; infer_instance
structure RD where
  w : Int
  lo : Int
  hi : Int
  e : Int
def dsplit (lo hi : Int) : RD :=
  if spanOk lo hi then
    if (hi + 500000) / 1000000 = (lo + 500000) / 1000000 then ⟨(lo + 500000) / 1000000, lo - (lo + 500000) / 1000000 * 1000000, hi - (lo + 500000) / 1000000 * 1000000, 0⟩ else ⟨0, 0, 0, 24⟩
  else ⟨0, 0, 0, 8⟩
structure RS where
  lo : Int
  hi : Int
  e : Int
def djoin (w lo hi : Int) : RS :=
  if lo ≤ hi ∧ -500000 ≤ lo ∧ hi < 500000 then
    if spanOk (lo + w * 1000000) (hi + w * 1000000) then ⟨lo + w * 1000000, hi + w * 1000000, 0⟩ else ⟨0, 0, 16⟩
  else ⟨0, 0, 8⟩
structure RI where
  v : Int
  e : Int
def ssign (lo hi : Int) : RI :=
  if spanOk lo hi then (if 0 < lo then ⟨1, 0⟩ else if hi < 0 then ⟨-1, 0⟩ else if lo = hi then ⟨0, 0⟩ else ⟨0, 24⟩) else ⟨0, 8⟩
theorem ssign_e8 (lo hi : Int) : (ssign lo hi).e = 8 ↔ ¬ spanOk lo hi := by
  unfold ssign
  split
  · split
    · simp [*]
    · split
      · simp [*]
      · rename_i h _ _; split <;> simp [h]
  · simp [*]

def FM_sine_valid : FM := ⟨17, [(RV.tmp 2)], (MC.seq (MC.ops [⟨(some 1), none, (MI.box 23 (MO.t 0))⟩, ⟨(some 2), none, (MI.mv (MO.c (AV.b false)))⟩]) (MC.seq (MC.ops [⟨(some 3), none, (MI.faddr 0 (MO.t 1))⟩, ⟨(some 4), none, (MI.load (MO.t 3))⟩, ⟨(some 5), none, (MI.faddr 1 (MO.t 1))⟩, ⟨(some 6), none, (MI.load (MO.t 5))⟩, ⟨(some 7), none, (MI.bin .leq (MO.t 4) (MO.t 6))⟩, ⟨(some 8), none, (MI.mv (MO.t 7))⟩, ⟨(some 9), (some (8, true)), (MI.faddr 0 (MO.t 1))⟩, ⟨(some 10), (some (8, true)), (MI.load (MO.t 9))⟩, ⟨(some 11), (some (8, true)), (MI.faddr 1 (MO.t 1))⟩, ⟨(some 12), (some (8, true)), (MI.load (MO.t 11))⟩, ⟨(some 13), (some (8, true)), (MI.un .neg (MO.t 12))⟩, ⟨(some 14), (some (8, true)), (MI.mnmx false (MO.t 10) [(MO.t 13)])⟩, ⟨(some 15), (some (8, true)), (MI.bin .geq (MO.t 14) (MO.c (AV.i .i64 (-3000000000))))⟩, ⟨(some 16), none, (MI.pick (MO.t 8) (MO.t 15) (MO.c (AV.b false)))⟩, ⟨(some 2), none, (MI.mv (MO.t 16))⟩]) MC.ret))⟩
theorem FMc_sine_valid : compF Go.Proofs.Try.prog (eqsP Go.Proofs.Try.prog) (neutOf []) 48 = some FM_sine_valid := by kernel_rfl
def G_sine_valid : Gam := mkG [] []
theorem sg_sine_valid : SoundG Go.Proofs.Try.prog 48 (WF G_sine_valid 0 FM_sine_valid) := WF_sound mixP (mkG_ok (n := []) (g := []) trivial trivial) eqsP_ok FMc_sine_valid
def S_sine_valid : NSpec := fun args _ K => match args with
  | [(.agg [(.i .i64 lo), (.i .i64 hi)])] => (I64 lo ∧ I64 hi) ∧ K (.b (decide (spanOk lo hi)))
  | _ => False

def NF_sine_valid (lo : Int) (hi : Int) (K : AV → Prop) : Prop :=
 (bif decide (lo ≤ hi) then K (.b (decide ((-3000000000) ≤ (imin lo (IntKind.i64.wrap (0 - hi))))))
 else K (.b false))
theorem nf_sine_valid (lo : Int) (hi : Int) (K : AV → Prop) : WF G_sine_valid 0 FM_sine_valid [(.agg [(.i .i64 lo), (.i .i64 hi)])] [] (fun a _ => K a) = NF_sine_valid lo hi K := by kernel_rfl
theorem key_sine_valid (lo : Int) (hi : Int) {K : AV → Prop} (hp : I64 lo ∧ I64 hi) (hk : K (.b (decide (spanOk lo hi)))) : NF_sine_valid lo hi K := by
  unfold NF_sine_valid
  have hw := wrap_neg hp.2
  obtain ⟨⟨a1, a2⟩, b1, b2⟩ := hp
  generalize IntKind.i64.wrap (0 - hi) = q at hw ⊢
  refine bif_i (fun h => K_of hk ?_) (fun h => K_of hk ?_) <;> simp at h
  · congr 1
    rw [Bool.eq_iff_iff]
    rw [decide_eq_true_eq, decide_eq_true_eq]
    unfold spanOk imin
    constructor
    · rintro ⟨_, _, _⟩; split <;> omega
    · intro h; split at h <;> refine ⟨?_, ?_, ?_⟩ <;> omega
  · have : ¬ spanOk lo hi := by unfold spanOk; omega
    simp [this]
theorem ok_sine_valid : SoundN Go.Proofs.Try.prog 48 S_sine_valid := by
  refine soundN_of sg_sine_valid fun args H K hS => ?_
  unfold S_sine_valid at hS
  split at hS
  · rename_i lo hi
    have hS1 := key_sine_valid lo hi (K := fun a => plainA a = true ∧ K a) hS.1 ⟨by simp [plainA, plainL], hS.2⟩
    refine ⟨by simp [plainA, plainL], ?_⟩
    rw [nf_sine_valid lo hi fun a => plainA a = true ∧ K a]
    exact hS1
  · exact hS.elim

def FM_sine_Sign : FM := ⟨22, [(RV.tmp 2), (RV.tmp 3)], (MC.seq (MC.ops [⟨(some 1), none, (MI.box 23 (MO.t 0))⟩, ⟨(some 2), none, (MI.mv (MO.c (AV.i .i64 0)))⟩, ⟨(some 3), none, (MI.mv (MO.c (AV.i .i64 0)))⟩]) (MC.seq (MC.block 0 (MC.seq (MC.ops [⟨(some 5), none, (MI.loadn 2 (MO.t 1))⟩, ⟨(some 6), none, (MI.callN 48 [(MO.t 5)])⟩, ⟨(some 7), none, (MI.un .not (MO.t 6))⟩, ⟨(some 4), none, (MI.mv (MO.t 7))⟩]) (MC.cond (MO.t 4) (MC.seq (MC.ops [⟨(some 2), none, (MI.mv (MO.c (AV.i .i64 0)))⟩, ⟨(some 3), none, (MI.mv (MO.c (AV.i .i64 8)))⟩]) MC.ret) (MC.seq (MC.ops [⟨(some 9), none, (MI.faddr 0 (MO.t 1))⟩, ⟨(some 10), none, (MI.load (MO.t 9))⟩, ⟨(some 11), none, (MI.bin .gtr (MO.t 10) (MO.c (AV.i .i64 0)))⟩, ⟨(some 8), none, (MI.mv (MO.t 11))⟩]) (MC.cond (MO.t 8) (MC.seq (MC.ops [⟨(some 2), none, (MI.mv (MO.c (AV.i .i64 1)))⟩, ⟨(some 3), none, (MI.mv (MO.c (AV.i .i64 0)))⟩]) MC.ret) (MC.seq (MC.ops [⟨(some 13), none, (MI.faddr 1 (MO.t 1))⟩, ⟨(some 14), none, (MI.load (MO.t 13))⟩, ⟨(some 15), none, (MI.bin .lss (MO.t 14) (MO.c (AV.i .i64 0)))⟩, ⟨(some 12), none, (MI.mv (MO.t 15))⟩]) (MC.cond (MO.t 12) (MC.seq (MC.ops [⟨(some 2), none, (MI.mv (MO.c (AV.i .i64 (-1))))⟩, ⟨(some 3), none, (MI.mv (MO.c (AV.i .i64 0)))⟩]) MC.ret) (MC.seq (MC.ops [⟨(some 17), none, (MI.faddr 0 (MO.t 1))⟩, ⟨(some 18), none, (MI.load (MO.t 17))⟩, ⟨(some 19), none, (MI.faddr 1 (MO.t 1))⟩, ⟨(some 20), none, (MI.load (MO.t 19))⟩, ⟨(some 21), none, (MI.bin .eql (MO.t 18) (MO.t 20))⟩, ⟨(some 16), none, (MI.mv (MO.t 21))⟩]) (MC.cond (MO.t 16) (MC.seq (MC.ops [⟨(some 2), none, (MI.mv (MO.c (AV.i .i64 0)))⟩, ⟨(some 3), none, (MI.mv (MO.c (AV.i .i64 0)))⟩]) MC.ret) MC.skip))))))))) (MC.seq (MC.ops [⟨(some 2), none, (MI.mv (MO.c (AV.i .i64 0)))⟩, ⟨(some 3), none, (MI.mv (MO.c (AV.i .i64 24)))⟩]) MC.ret)))⟩
theorem FMc_sine_Sign : compF Go.Proofs.Try.prog (eqsP Go.Proofs.Try.prog) (neutOf [48]) 31 = some FM_sine_Sign := by kernel_rfl
def G_sine_Sign : Gam := mkG [(48, S_sine_valid)] []
theorem sg_sine_Sign : SoundG Go.Proofs.Try.prog 31 (WF G_sine_Sign 0 FM_sine_Sign) := WF_sound mixP (mkG_ok (n := [(48, S_sine_valid)]) (g := []) ⟨ok_sine_valid, trivial⟩ trivial) eqsP_ok FMc_sine_Sign
def S_sine_Sign : NSpec := fun args _ K => match args with
  | [(.agg [(.i .i64 lo), (.i .i64 hi)])] => (I64 lo ∧ I64 hi) ∧ K (.tup [(.i .i64 (ssign lo hi).v), (.i .i64 (ssign lo hi).e)])
  | _ => False

def NF_sine_Sign (lo : Int) (hi : Int) (K : AV → Prop) : Prop :=
 ((I64 lo ∧ I64 hi) ∧
 (bif (!(decide (spanOk lo hi))) then K (.tup [(.i .i64 0), (.i .i64 8)])
 else (bif decide (0 < lo) then K (.tup [(.i .i64 1), (.i .i64 0)])
 else (bif decide (hi < 0) then K (.tup [(.i .i64 (-1)), (.i .i64 0)])
 else (bif (lo == hi) then K (.tup [(.i .i64 0), (.i .i64 0)])
 else K (.tup [(.i .i64 0), (.i .i64 24)]))))))
theorem nf_sine_Sign (lo : Int) (hi : Int) (K : AV → Prop) : WF G_sine_Sign 0 FM_sine_Sign [(.agg [(.i .i64 lo), (.i .i64 hi)])] [] (fun a _ => K a) = NF_sine_Sign lo hi K := by kernel_rfl
theorem key_sine_Sign (lo : Int) (hi : Int) {K : AV → Prop} (hp : I64 lo ∧ I64 hi) (hk : K (.tup [(.i .i64 (ssign lo hi).v), (.i .i64 (ssign lo hi).e)])) : NF_sine_Sign lo hi K := by
  unfold NF_sine_Sign
  refine ⟨hp, ?_⟩
  refine bif_i (fun h => K_of hk ?_) (fun h => ?_)
  · simp at h; simp [ssign, h]
  simp at h
  refine bif_i (fun h1 => K_of hk ?_) (fun h1 => ?_)
  · simp at h1; simp [ssign, h, h1]
  simp at h1
  refine bif_i (fun h2 => K_of hk ?_) (fun h2 => ?_)
  · simp at h2; simp [ssign, h, h2, show ¬ 0 < lo from by omega]
  simp at h2
  refine bif_i (fun h3 => K_of hk ?_) (fun h3 => K_of hk ?_)
  · simp at h3; subst h3; simp [ssign, h, show ¬ 0 < lo from by omega, show ¬ lo < 0 from by omega]
  · simp at h3; simp [ssign, h, show ¬ 0 < lo from by omega, show ¬ hi < 0 from by omega, h3]
theorem ok_sine_Sign : SoundN Go.Proofs.Try.prog 31 S_sine_Sign := by
  refine soundN_of sg_sine_Sign fun args H K hS => ?_
  unfold S_sine_Sign at hS
  split at hS
  · rename_i lo hi
    have hS1 := key_sine_Sign lo hi (K := fun a => plainA a = true ∧ K a) hS.1 ⟨by simp [plainA, plainL], hS.2⟩
    refine ⟨by simp [plainA, plainL], ?_⟩
    rw [nf_sine_Sign lo hi fun a => plainA a = true ∧ K a]
    exact hS1
  · exact hS.elim

def FM_delay_floor : FM := ⟨13, [(RV.tmp 2)], (MC.seq (MC.ops [⟨(some 2), none, (MI.mv (MO.c (AV.i .i64 0)))⟩]) (MC.seq (MC.ops [⟨(some 4), none, (MI.mv (MO.t 0))⟩, ⟨(some 5), none, (MI.bin .quo (MO.t 4) (MO.c (AV.i .i64 1000000)))⟩, ⟨(some 3), none, (MI.mv (MO.t 5))⟩]) (MC.seq (MC.seq (MC.ops [⟨(some 6), none, (MI.mv (MO.t 3))⟩, ⟨(some 7), none, (MI.bin .mul (MO.t 6) (MO.c (AV.i .i64 1000000)))⟩, ⟨(some 8), none, (MI.mv (MO.t 0))⟩, ⟨(some 9), none, (MI.bin .gtr (MO.t 7) (MO.t 8))⟩]) (MC.cond (MO.t 9) (MC.ops [⟨(some 10), none, (MI.mv (MO.t 3))⟩, ⟨(some 11), none, (MI.bin .sub (MO.t 10) (MO.c (AV.i .i64 1)))⟩, ⟨(some 3), none, (MI.mv (MO.t 11))⟩]) MC.skip)) (MC.seq (MC.ops [⟨(some 12), none, (MI.mv (MO.t 3))⟩, ⟨(some 2), none, (MI.mv (MO.t 12))⟩]) MC.ret))))⟩
theorem FMc_delay_floor : compF Go.Proofs.Try.prog (eqsP Go.Proofs.Try.prog) (neutOf []) 42 = some FM_delay_floor := by kernel_rfl
def G_delay_floor : Gam := mkG [] []
theorem sg_delay_floor : SoundG Go.Proofs.Try.prog 42 (WF G_delay_floor 0 FM_delay_floor) := WF_sound mixP (mkG_ok (n := []) (g := []) trivial trivial) eqsP_ok FMc_delay_floor
def S_delay_floor : NSpec := fun args _ K => match args with
  | [(.i .i64 x)] => (I64 x) ∧ K (.i .i64 (x / 1000000))
  | _ => False

def NF_delay_floor (x : Int) (K : AV → Prop) : Prop :=
 (bif decide (x < (IntKind.i64.wrap ((IntKind.i64.wrap (Int.tdiv x 1000000)) * 1000000))) then K (.i .i64 (IntKind.i64.wrap ((IntKind.i64.wrap (Int.tdiv x 1000000)) - 1)))
 else K (.i .i64 (IntKind.i64.wrap (Int.tdiv x 1000000))))
theorem nf_delay_floor (x : Int) (K : AV → Prop) : WF G_delay_floor 0 FM_delay_floor [(.i .i64 x)] [] (fun a _ => K a) = NF_delay_floor x K := by kernel_rfl
theorem key_delay_floor (x : Int) {K : AV → Prop} (hp : I64 x) (hk : K (.i .i64 (x / 1000000))) : NF_delay_floor x K := by
  unfold NF_delay_floor
  obtain ⟨a1, a2⟩ := hp
  have e : Int.tdiv x 1000000 = if 0 ≤ x then x / 1000000 else -((-x) / 1000000) := tdiv_ediv (by omega)
  have e2 : IntKind.i64.wrap (Int.tdiv x 1000000) = Int.tdiv x 1000000 := wrap_i64 (by rw [e]; split <;> omega) (by rw [e]; split <;> omega)
  have e3 : IntKind.i64.wrap (Int.tdiv x 1000000 * 1000000) = Int.tdiv x 1000000 * 1000000 := wrap_i64 (by rw [e]; split <;> omega) (by rw [e]; split <;> omega)
  have e4 : IntKind.i64.wrap (Int.tdiv x 1000000 - 1) = Int.tdiv x 1000000 - 1 := wrap_i64 (by rw [e]; split <;> omega) (by rw [e]; split <;> omega)
  rw [e2, e3, e4]
  refine bif_i (fun h => K_of hk ?_) (fun h => K_of hk ?_) <;> simp at h <;> congr 1 <;> rw [e] at h ⊢ <;> split at h <;> simp only [*, if_true, if_false] <;> omega
theorem ok_delay_floor : SoundN Go.Proofs.Try.prog 42 S_delay_floor := by
  refine soundN_of sg_delay_floor fun args H K hS => ?_
  unfold S_delay_floor at hS
  split at hS
  · rename_i x
    have hS1 := key_delay_floor x (K := fun a => plainA a = true ∧ K a) hS.1 ⟨by simp [plainA, plainL], hS.2⟩
    refine ⟨by simp [plainA, plainL], ?_⟩
    rw [nf_delay_floor x fun a => plainA a = true ∧ K a]
    exact hS1
  · exact hS.elim

def FM_delay_moved : FM := ⟨16, [(RV.cells 4 2)], (MC.seq (MC.ops [⟨(some 2), none, (MI.box 23 (MO.t 0))⟩, ⟨(some 4), none, (MI.alloc 23 [(AV.i .i64 0), (AV.i .i64 0)])⟩]) (MC.seq (MC.ops [⟨(some 5), none, (MI.faddr 0 (MO.t 2))⟩, ⟨(some 6), none, (MI.load (MO.t 5))⟩, ⟨(some 7), none, (MI.mv (MO.t 1))⟩, ⟨(some 8), none, (MI.bin .mul (MO.t 7) (MO.c (AV.i .i64 1000000)))⟩, ⟨(some 9), none, (MI.bin .add (MO.t 6) (MO.t 8))⟩, ⟨(some 10), none, (MI.faddr 1 (MO.t 2))⟩, ⟨(some 11), none, (MI.load (MO.t 10))⟩, ⟨(some 12), none, (MI.mv (MO.t 1))⟩, ⟨(some 13), none, (MI.bin .mul (MO.t 12) (MO.c (AV.i .i64 1000000)))⟩, ⟨(some 14), none, (MI.bin .add (MO.t 11) (MO.t 13))⟩, ⟨(some 15), none, (MI.build [(AV.i .i64 0), (AV.i .i64 0)] [(0, 1, (MO.t 9)), (1, 1, (MO.t 14))])⟩, ⟨none, none, (MI.store 2 (MO.t 4) (MO.t 15))⟩]) MC.ret))⟩
theorem FMc_delay_moved : compF Go.Proofs.Try.prog (eqsP Go.Proofs.Try.prog) (neutOf []) 43 = some FM_delay_moved := by kernel_rfl
def G_delay_moved : Gam := mkG [] []
theorem sg_delay_moved : SoundG Go.Proofs.Try.prog 43 (WF G_delay_moved 0 FM_delay_moved) := WF_sound mixP (mkG_ok (n := []) (g := []) trivial trivial) eqsP_ok FMc_delay_moved
def S_delay_moved : NSpec := fun args _ K => match args with
  | [(.agg [(.i .i64 lo), (.i .i64 hi)]), (.i .i64 n)] => ((-4000000000 ≤ lo ∧ lo ≤ 4000000000) ∧ (-4000000000 ≤ hi ∧ hi ≤ 4000000000) ∧ -100000000 ≤ n ∧ n ≤ 100000000) ∧ K (.agg [(.i .i64 (lo + n * 1000000)), (.i .i64 (hi + n * 1000000))])
  | _ => False

def NF_delay_moved (lo : Int) (hi : Int) (n : Int) (K : AV → Prop) : Prop :=
 K (.agg [(.i .i64 (IntKind.i64.wrap (lo + (IntKind.i64.wrap (n * 1000000))))), (.i .i64 (IntKind.i64.wrap (hi + (IntKind.i64.wrap (n * 1000000)))))])
theorem nf_delay_moved (lo : Int) (hi : Int) (n : Int) (K : AV → Prop) : WF G_delay_moved 0 FM_delay_moved [(.agg [(.i .i64 lo), (.i .i64 hi)]), (.i .i64 n)] [] (fun a _ => K a) = NF_delay_moved lo hi n K := by kernel_rfl
theorem key_delay_moved (lo : Int) (hi : Int) (n : Int) {K : AV → Prop} (hp : (-4000000000 ≤ lo ∧ lo ≤ 4000000000) ∧ (-4000000000 ≤ hi ∧ hi ≤ 4000000000) ∧ -100000000 ≤ n ∧ n ≤ 100000000) (hk : K (.agg [(.i .i64 (lo + n * 1000000)), (.i .i64 (hi + n * 1000000))])) : NF_delay_moved lo hi n K := by
  unfold NF_delay_moved
  rw [wrap_i64 (n := n * 1000000) (by omega) (by omega), wrap_i64 (n := lo + n * 1000000) (by omega) (by omega), wrap_i64 (n := hi + n * 1000000) (by omega) (by omega)]
  exact hk
theorem ok_delay_moved : SoundN Go.Proofs.Try.prog 43 S_delay_moved := by
  refine soundN_of sg_delay_moved fun args H K hS => ?_
  unfold S_delay_moved at hS
  split at hS
  · rename_i lo hi n
    have hS1 := key_delay_moved lo hi n (K := fun a => plainA a = true ∧ K a) hS.1 ⟨by simp [plainA, plainL], hS.2⟩
    refine ⟨by simp [plainA, plainL], ?_⟩
    rw [nf_delay_moved lo hi n fun a => plainA a = true ∧ K a]
    exact hS1
  · exact hS.elim

def FM_delay_Split : FM := ⟨34, [(RV.cells 2 3), (RV.tmp 3)], (MC.seq (MC.ops [⟨(some 1), none, (MI.box 23 (MO.t 0))⟩, ⟨(some 2), none, (MI.alloc 25 [(AV.i .i64 0), (AV.i .i64 0), (AV.i .i64 0)])⟩, ⟨(some 3), none, (MI.mv (MO.c (AV.i .i64 0)))⟩]) (MC.seq (MC.seq (MC.ops [⟨(some 8), none, (MI.loadn 2 (MO.t 1))⟩, ⟨(some 9), none, (MI.callN 31 [(MO.t 8)])⟩, ⟨(some 7), none, (MI.mv (MO.t 9))⟩, ⟨(some 10), none, (MI.ext (MO.t 7) 0)⟩, ⟨(some 11), none, (MI.ext (MO.t 7) 1)⟩, ⟨(some 4), none, (MI.mv (MO.t 10))⟩, ⟨(some 5), none, (MI.mv (MO.t 11))⟩]) (MC.seq (MC.ops [⟨(some 12), none, (MI.mv (MO.t 5))⟩, ⟨(some 13), none, (MI.bin .eql (MO.t 12) (MO.c (AV.i .i64 8)))⟩]) (MC.cond (MO.t 13) (MC.seq (MC.ops [⟨(some 14), none, (MI.build [(AV.i .i64 0), (AV.i .i64 0), (AV.i .i64 0)] [])⟩, ⟨(some 15), none, (MI.mv (MO.t 5))⟩, ⟨none, none, (MI.store 3 (MO.t 2) (MO.t 14))⟩, ⟨(some 3), none, (MI.mv (MO.t 15))⟩]) MC.ret) MC.skip))) (MC.seq (MC.ops [⟨(some 16), none, (MI.faddr 0 (MO.t 1))⟩, ⟨(some 17), none, (MI.load (MO.t 16))⟩, ⟨(some 18), none, (MI.bin .add (MO.t 17) (MO.c (AV.i .i64 500000)))⟩, ⟨(some 19), none, (MI.callN 42 [(MO.t 18)])⟩, ⟨(some 6), none, (MI.mv (MO.t 19))⟩]) (MC.seq (MC.seq (MC.ops [⟨(some 20), none, (MI.faddr 1 (MO.t 1))⟩, ⟨(some 21), none, (MI.load (MO.t 20))⟩, ⟨(some 22), none, (MI.bin .add (MO.t 21) (MO.c (AV.i .i64 500000)))⟩, ⟨(some 23), none, (MI.mv (MO.t 6))⟩, ⟨(some 24), none, (MI.bin .add (MO.t 23) (MO.c (AV.i .i64 1)))⟩, ⟨(some 25), none, (MI.bin .mul (MO.t 24) (MO.c (AV.i .i64 1000000)))⟩, ⟨(some 26), none, (MI.bin .geq (MO.t 22) (MO.t 25))⟩]) (MC.cond (MO.t 26) (MC.seq (MC.ops [⟨(some 27), none, (MI.build [(AV.i .i64 0), (AV.i .i64 0), (AV.i .i64 0)] [])⟩, ⟨none, none, (MI.store 3 (MO.t 2) (MO.t 27))⟩, ⟨(some 3), none, (MI.mv (MO.c (AV.i .i64 24)))⟩]) MC.ret) MC.skip)) (MC.seq (MC.ops [⟨(some 28), none, (MI.mv (MO.t 6))⟩, ⟨(some 29), none, (MI.loadn 2 (MO.t 1))⟩, ⟨(some 30), none, (MI.mv (MO.t 6))⟩, ⟨(some 31), none, (MI.un .neg (MO.t 30))⟩, ⟨(some 32), none, (MI.callN 43 [(MO.t 29), (MO.t 31)])⟩, ⟨(some 33), none, (MI.build [(AV.i .i64 0), (AV.i .i64 0), (AV.i .i64 0)] [(0, 1, (MO.t 28)), (1, 2, (MO.t 32))])⟩, ⟨none, none, (MI.store 3 (MO.t 2) (MO.t 33))⟩, ⟨(some 3), none, (MI.mv (MO.c (AV.i .i64 0)))⟩]) MC.ret)))))⟩
theorem FMc_delay_Split : compF Go.Proofs.Try.prog (eqsP Go.Proofs.Try.prog) (neutOf [31, 42, 43]) 10 = some FM_delay_Split := by kernel_rfl
def G_delay_Split : Gam := mkG [(31, S_sine_Sign), (42, S_delay_floor), (43, S_delay_moved)] []
theorem sg_delay_Split : SoundG Go.Proofs.Try.prog 10 (WF G_delay_Split 0 FM_delay_Split) := WF_sound mixP (mkG_ok (n := [(31, S_sine_Sign), (42, S_delay_floor), (43, S_delay_moved)]) (g := []) ⟨ok_sine_Sign, ok_delay_floor, ok_delay_moved, trivial⟩ trivial) eqsP_ok FMc_delay_Split
def S_delay_Split : NSpec := fun args _ K => match args with
  | [(.agg [(.i .i64 lo), (.i .i64 hi)])] => (I64 lo ∧ I64 hi) ∧ K (.tup [(.agg [(.i .i64 (dsplit lo hi).w), (.i .i64 (dsplit lo hi).lo), (.i .i64 (dsplit lo hi).hi)]), (.i .i64 (dsplit lo hi).e)])
  | _ => False

def NF_delay_Split (lo : Int) (hi : Int) (K : AV → Prop) : Prop :=
 ((I64 lo ∧ I64 hi) ∧
 (bif ((ssign lo hi).e == 8) then K (.tup [(.agg [(.i .i64 0), (.i .i64 0), (.i .i64 0)]), (.i .i64 (ssign lo hi).e)])
 else ((I64 (IntKind.i64.wrap (lo + 500000))) ∧
 (bif decide ((IntKind.i64.wrap ((IntKind.i64.wrap (((IntKind.i64.wrap (lo + 500000)) / 1000000) + 1)) * 1000000)) ≤ (IntKind.i64.wrap (hi + 500000))) then K (.tup [(.agg [(.i .i64 0), (.i .i64 0), (.i .i64 0)]), (.i .i64 24)])
 else (((-4000000000 ≤ lo ∧ lo ≤ 4000000000) ∧ (-4000000000 ≤ hi ∧ hi ≤ 4000000000) ∧ -100000000 ≤ (IntKind.i64.wrap (0 - ((IntKind.i64.wrap (lo + 500000)) / 1000000))) ∧ (IntKind.i64.wrap (0 - ((IntKind.i64.wrap (lo + 500000)) / 1000000))) ≤ 100000000) ∧
 K (.tup [(.agg [(.i .i64 ((IntKind.i64.wrap (lo + 500000)) / 1000000)), (.i .i64 (lo + (IntKind.i64.wrap (0 - ((IntKind.i64.wrap (lo + 500000)) / 1000000))) * 1000000)), (.i .i64 (hi + (IntKind.i64.wrap (0 - ((IntKind.i64.wrap (lo + 500000)) / 1000000))) * 1000000))]), (.i .i64 0)]))))))
theorem nf_delay_Split (lo : Int) (hi : Int) (K : AV → Prop) : WF G_delay_Split 0 FM_delay_Split [(.agg [(.i .i64 lo), (.i .i64 hi)])] [] (fun a _ => K a) = NF_delay_Split lo hi K := by kernel_rfl
theorem key_delay_Split (lo : Int) (hi : Int) {K : AV → Prop} (hp : I64 lo ∧ I64 hi) (hk : K (.tup [(.agg [(.i .i64 (dsplit lo hi).w), (.i .i64 (dsplit lo hi).lo), (.i .i64 (dsplit lo hi).hi)]), (.i .i64 (dsplit lo hi).e)])) : NF_delay_Split lo hi K := by
  unfold NF_delay_Split
  refine ⟨hp, ?_⟩
  refine bif_i (fun h => K_of hk ?_) (fun h => ?_)
  · simp [ssign_e8] at h; simp [dsplit, ssign, h]
  simp [ssign_e8] at h
  obtain ⟨h1, h2, h3⟩ := id h
  rw [wrap_i64 (n := lo + 500000) (by omega) (by omega)]
  refine ⟨⟨by omega, by omega⟩, ?_⟩
  rw [wrap_i64 (n := hi + 500000) (by omega) (by omega), wrap_i64 (n := (lo + 500000) / 1000000 + 1) (by omega) (by omega), wrap_i64 (n := ((lo + 500000) / 1000000 + 1) * 1000000) (by omega) (by omega),
    wrap_i64 (n := 0 - (lo + 500000) / 1000000) (by omega) (by omega)]
  refine bif_i (fun h4 => K_of hk ?_) (fun h4 => ⟨by omega, K_of hk ?_⟩) <;> simp at h4
  · have : ¬ (hi + 500000) / 1000000 = (lo + 500000) / 1000000 := by omega
    simp [dsplit, h, this]
  · have : (hi + 500000) / 1000000 = (lo + 500000) / 1000000 := by omega
    simp [dsplit, h, this]
    omega
theorem ok_delay_Split : SoundN Go.Proofs.Try.prog 10 S_delay_Split := by
  refine soundN_of sg_delay_Split fun args H K hS => ?_
  unfold S_delay_Split at hS
  split at hS
  · rename_i lo hi
    have hS1 := key_delay_Split lo hi (K := fun a => plainA a = true ∧ K a) hS.1 ⟨by simp [plainA, plainL], hS.2⟩
    refine ⟨by simp [plainA, plainL], ?_⟩
    rw [nf_delay_Split lo hi fun a => plainA a = true ∧ K a]
    exact hS1
  · exact hS.elim

def FM_delay_Join : FM := ⟨52, [(RV.cells 2 2), (RV.tmp 3)], (MC.seq (MC.ops [⟨(some 1), none, (MI.box 25 (MO.t 0))⟩, ⟨(some 2), none, (MI.alloc 23 [(AV.i .i64 0), (AV.i .i64 0)])⟩, ⟨(some 3), none, (MI.mv (MO.c (AV.i .i64 0)))⟩]) (MC.seq (MC.seq (MC.ops [⟨(some 5), none, (MI.faddr 1 (MO.t 1))⟩, ⟨(some 6), none, (MI.faddr 0 (MO.t 5))⟩, ⟨(some 7), none, (MI.load (MO.t 6))⟩, ⟨(some 8), none, (MI.faddr 1 (MO.t 1))⟩, ⟨(some 9), none, (MI.faddr 1 (MO.t 8))⟩, ⟨(some 10), none, (MI.load (MO.t 9))⟩, ⟨(some 11), none, (MI.bin .gtr (MO.t 7) (MO.t 10))⟩, ⟨(some 12), none, (MI.mv (MO.t 11))⟩, ⟨(some 13), (some (12, false)), (MI.faddr 1 (MO.t 1))⟩, ⟨(some 14), (some (12, false)), (MI.faddr 0 (MO.t 13))⟩, ⟨(some 15), (some (12, false)), (MI.load (MO.t 14))⟩, ⟨(some 16), (some (12, false)), (MI.bin .lss (MO.t 15) (MO.c (AV.i .i64 (-500000))))⟩, ⟨(some 17), none, (MI.pick (MO.t 12) (MO.c (AV.b true)) (MO.t 16))⟩, ⟨(some 18), none, (MI.mv (MO.t 17))⟩, ⟨(some 19), (some (18, false)), (MI.faddr 1 (MO.t 1))⟩, ⟨(some 20), (some (18, false)), (MI.faddr 1 (MO.t 19))⟩, ⟨(some 21), (some (18, false)), (MI.load (MO.t 20))⟩, ⟨(some 22), (some (18, false)), (MI.bin .geq (MO.t 21) (MO.c (AV.i .i64 500000)))⟩, ⟨(some 23), none, (MI.pick (MO.t 18) (MO.c (AV.b true)) (MO.t 22))⟩]) (MC.cond (MO.t 23) (MC.seq (MC.ops [⟨(some 24), none, (MI.build [(AV.i .i64 0), (AV.i .i64 0)] [])⟩, ⟨none, none, (MI.store 2 (MO.t 2) (MO.t 24))⟩, ⟨(some 3), none, (MI.mv (MO.c (AV.i .i64 8)))⟩]) MC.ret) MC.skip)) (MC.seq (MC.seq (MC.ops [⟨(some 25), none, (MI.faddr 0 (MO.t 1))⟩, ⟨(some 26), none, (MI.load (MO.t 25))⟩, ⟨(some 27), none, (MI.faddr 0 (MO.t 1))⟩, ⟨(some 28), none, (MI.load (MO.t 27))⟩, ⟨(some 29), none, (MI.un .neg (MO.t 28))⟩, ⟨(some 30), none, (MI.mnmx true (MO.t 26) [(MO.t 29)])⟩, ⟨(some 31), none, (MI.bin .gtr (MO.t 30) (MO.c (AV.i .i64 3001)))⟩, ⟨(some 32), none, (MI.mv (MO.t 31))⟩, ⟨(some 33), (some (32, false)), (MI.faddr 0 (MO.t 1))⟩, ⟨(some 34), (some (32, false)), (MI.load (MO.t 33))⟩, ⟨(some 35), (some (32, false)), (MI.bin .lss (MO.t 34) (MO.c (AV.i .i64 (-1000000))))⟩, ⟨(some 36), none, (MI.pick (MO.t 32) (MO.c (AV.b true)) (MO.t 35))⟩]) (MC.cond (MO.t 36) (MC.seq (MC.ops [⟨(some 37), none, (MI.build [(AV.i .i64 0), (AV.i .i64 0)] [])⟩, ⟨none, none, (MI.store 2 (MO.t 2) (MO.t 37))⟩, ⟨(some 3), none, (MI.mv (MO.c (AV.i .i64 16)))⟩]) MC.ret) MC.skip)) (MC.seq (MC.ops [⟨(some 38), none, (MI.faddr 1 (MO.t 1))⟩, ⟨(some 39), none, (MI.loadn 2 (MO.t 38))⟩, ⟨(some 40), none, (MI.faddr 0 (MO.t 1))⟩, ⟨(some 41), none, (MI.load (MO.t 40))⟩, ⟨(some 42), none, (MI.callN 43 [(MO.t 39), (MO.t 41)])⟩, ⟨(some 4), none, (MI.alloc 23 [(AV.i .i64 0), (AV.i .i64 0)])⟩, ⟨none, none, (MI.store 2 (MO.t 4) (MO.t 42))⟩]) (MC.seq (MC.seq (MC.ops [⟨(some 43), none, (MI.faddr 1 (MO.t 4))⟩, ⟨(some 44), none, (MI.load (MO.t 43))⟩, ⟨(some 45), none, (MI.faddr 0 (MO.t 4))⟩, ⟨(some 46), none, (MI.load (MO.t 45))⟩, ⟨(some 47), none, (MI.un .neg (MO.t 46))⟩, ⟨(some 48), none, (MI.mnmx true (MO.t 44) [(MO.t 47)])⟩, ⟨(some 49), none, (MI.bin .gtr (MO.t 48) (MO.c (AV.i .i64 3000000000)))⟩]) (MC.cond (MO.t 49) (MC.seq (MC.ops [⟨(some 50), none, (MI.build [(AV.i .i64 0), (AV.i .i64 0)] [])⟩, ⟨none, none, (MI.store 2 (MO.t 2) (MO.t 50))⟩, ⟨(some 3), none, (MI.mv (MO.c (AV.i .i64 16)))⟩]) MC.ret) MC.skip)) (MC.seq (MC.ops [⟨(some 51), none, (MI.loadn 2 (MO.t 4))⟩, ⟨none, none, (MI.store 2 (MO.t 2) (MO.t 51))⟩, ⟨(some 3), none, (MI.mv (MO.c (AV.i .i64 0)))⟩]) MC.ret))))))⟩
theorem FMc_delay_Join : compF Go.Proofs.Try.prog (eqsP Go.Proofs.Try.prog) (neutOf [43]) 12 = some FM_delay_Join := by kernel_rfl
def G_delay_Join : Gam := mkG [(43, S_delay_moved)] []
theorem sg_delay_Join : SoundG Go.Proofs.Try.prog 12 (WF G_delay_Join 0 FM_delay_Join) := WF_sound mixP (mkG_ok (n := [(43, S_delay_moved)]) (g := []) ⟨ok_delay_moved, trivial⟩ trivial) eqsP_ok FMc_delay_Join
def S_delay_Join : NSpec := fun args _ K => match args with
  | [(.agg [(.i .i64 w), (.i .i64 lo), (.i .i64 hi)])] => (I64 w ∧ I64 lo ∧ I64 hi) ∧ K (.tup [(.agg [(.i .i64 (djoin w lo hi).lo), (.i .i64 (djoin w lo hi).hi)]), (.i .i64 (djoin w lo hi).e)])
  | _ => False

def NF_delay_Join (w : Int) (lo : Int) (hi : Int) (K : AV → Prop) : Prop :=
 (bif decide (hi < lo) then K (.tup [(.agg [(.i .i64 0), (.i .i64 0)]), (.i .i64 8)])
 else (bif decide (lo < (-500000)) then K (.tup [(.agg [(.i .i64 0), (.i .i64 0)]), (.i .i64 8)])
 else (bif decide (500000 ≤ hi) then K (.tup [(.agg [(.i .i64 0), (.i .i64 0)]), (.i .i64 8)])
 else (bif decide (3001 < (imax w (IntKind.i64.wrap (0 - w)))) then K (.tup [(.agg [(.i .i64 0), (.i .i64 0)]), (.i .i64 16)])
 else (bif decide (w < (-1000000)) then K (.tup [(.agg [(.i .i64 0), (.i .i64 0)]), (.i .i64 16)])
 else (((-4000000000 ≤ lo ∧ lo ≤ 4000000000) ∧ (-4000000000 ≤ hi ∧ hi ≤ 4000000000) ∧ -100000000 ≤ w ∧ w ≤ 100000000) ∧
 (bif decide (3000000000 < (imax (hi + w * 1000000) (IntKind.i64.wrap (0 - (lo + w * 1000000))))) then K (.tup [(.agg [(.i .i64 0), (.i .i64 0)]), (.i .i64 16)])
 else K (.tup [(.agg [(.i .i64 (lo + w * 1000000)), (.i .i64 (hi + w * 1000000))]), (.i .i64 0)]))))))))
theorem nf_delay_Join (w : Int) (lo : Int) (hi : Int) (K : AV → Prop) : WF G_delay_Join 0 FM_delay_Join [(.agg [(.i .i64 w), (.i .i64 lo), (.i .i64 hi)])] [] (fun a _ => K a) = NF_delay_Join w lo hi K := by kernel_rfl
theorem key_delay_Join (w : Int) (lo : Int) (hi : Int) {K : AV → Prop} (hp : I64 w ∧ I64 lo ∧ I64 hi) (hk : K (.tup [(.agg [(.i .i64 (djoin w lo hi).lo), (.i .i64 (djoin w lo hi).hi)]), (.i .i64 (djoin w lo hi).e)])) : NF_delay_Join w lo hi K := by
  unfold NF_delay_Join
  have hw0 := wrap_neg hp.1
  generalize IntKind.i64.wrap (0 - w) = q at hw0 ⊢
  obtain ⟨⟨a1, a2⟩, ⟨b1, b2⟩, c1, c2⟩ := hp
  refine bif_i (fun h => K_of hk ?_) (fun h => ?_)
  · simp at h; simp [djoin, show ¬ lo ≤ hi from by omega]
  simp at h
  refine bif_i (fun h1 => K_of hk ?_) (fun h1 => ?_)
  · simp at h1; simp [djoin, show ¬ -500000 ≤ lo from by omega]
  simp at h1
  refine bif_i (fun h2 => K_of hk ?_) (fun h2 => ?_)
  · simp at h2; simp [djoin, show ¬ hi < 500000 from by omega]
  simp at h2
  have hb : lo ≤ hi ∧ -500000 ≤ lo ∧ hi < 500000 := ⟨h, h1, h2⟩
  refine bif_i (fun h3 => K_of hk ?_) (fun h3 => ?_)
  · rw [decide_eq_true_eq] at h3; unfold imax at h3
    have : ¬ spanOk (lo + w * 1000000) (hi + w * 1000000) := by unfold spanOk; split at h3 <;> omega
    simp [djoin, hb, this]
  rw [decide_eq_false_iff_not] at h3; unfold imax at h3
  refine bif_i (fun h4 => K_of hk ?_) (fun h4 => ?_)
  · simp at h4
    have : ¬ spanOk (lo + w * 1000000) (hi + w * 1000000) := by unfold spanOk; omega
    simp [djoin, hb, this]
  simp at h4
  have hw : -3001 ≤ w ∧ w ≤ 3001 := by split at h3 <;> omega
  refine ⟨by omega, ?_⟩
  rw [wrap_i64 (n := 0 - (lo + w * 1000000)) (by omega) (by omega)]
  refine bif_i (fun h5 => K_of hk ?_) (fun h5 => K_of hk ?_)
  · rw [decide_eq_true_eq] at h5; unfold imax at h5
    have : ¬ spanOk (lo + w * 1000000) (hi + w * 1000000) := by unfold spanOk; split at h5 <;> omega
    simp [djoin, hb, this]
  · rw [decide_eq_false_iff_not] at h5; unfold imax at h5
    have : spanOk (lo + w * 1000000) (hi + w * 1000000) := by unfold spanOk; split at h5 <;> omega
    simp [djoin, hb, this]
theorem ok_delay_Join : SoundN Go.Proofs.Try.prog 12 S_delay_Join := by
  refine soundN_of sg_delay_Join fun args H K hS => ?_
  unfold S_delay_Join at hS
  split at hS
  · rename_i w lo hi
    have hS1 := key_delay_Join w lo hi (K := fun a => plainA a = true ∧ K a) hS.1 ⟨by simp [plainA, plainL], hS.2⟩
    refine ⟨by simp [plainA, plainL], ?_⟩
    rw [nf_delay_Join w lo hi fun a => plainA a = true ∧ K a]
    exact hS1
  · exact hS.elim

def FM_ref05_Valid : FM := ⟨18, [(RV.tmp 2)], (MC.seq (MC.ops [⟨(some 1), none, (MI.box 23 (MO.t 0))⟩, ⟨(some 2), none, (MI.mv (MO.c (AV.b false)))⟩]) (MC.seq (MC.ops [⟨(some 3), none, (MI.faddr 0 (MO.t 1))⟩, ⟨(some 4), none, (MI.load (MO.t 3))⟩, ⟨(some 5), none, (MI.faddr 1 (MO.t 1))⟩, ⟨(some 6), none, (MI.load (MO.t 5))⟩, ⟨(some 7), none, (MI.bin .leq (MO.t 4) (MO.t 6))⟩, ⟨(some 8), none, (MI.mv (MO.t 7))⟩, ⟨(some 9), (some (8, true)), (MI.faddr 0 (MO.t 1))⟩, ⟨(some 10), (some (8, true)), (MI.load (MO.t 9))⟩, ⟨(some 11), (some (8, true)), (MI.bin .geq (MO.t 10) (MO.c (AV.i .i64 (-3000000000))))⟩, ⟨(some 12), none, (MI.pick (MO.t 8) (MO.t 11) (MO.c (AV.b false)))⟩, ⟨(some 13), none, (MI.mv (MO.t 12))⟩, ⟨(some 14), (some (13, true)), (MI.faddr 1 (MO.t 1))⟩, ⟨(some 15), (some (13, true)), (MI.load (MO.t 14))⟩, ⟨(some 16), (some (13, true)), (MI.bin .leq (MO.t 15) (MO.c (AV.i .i64 3000000000)))⟩, ⟨(some 17), none, (MI.pick (MO.t 13) (MO.t 16) (MO.c (AV.b false)))⟩, ⟨(some 2), none, (MI.mv (MO.t 17))⟩]) MC.ret))⟩
theorem FMc_ref05_Valid : compF Go.Proofs.Try.prog (eqsP Go.Proofs.Try.prog) (neutOf []) 36 = some FM_ref05_Valid := by kernel_rfl
def G_ref05_Valid : Gam := mkG [] []
theorem sg_ref05_Valid : SoundG Go.Proofs.Try.prog 36 (WF G_ref05_Valid 0 FM_ref05_Valid) := WF_sound mixP (mkG_ok (n := []) (g := []) trivial trivial) eqsP_ok FMc_ref05_Valid
def S_ref05_Valid : NSpec := fun args _ K => match args with
  | [(.agg [(.i .i64 lo), (.i .i64 hi)])] => (I64 lo ∧ I64 hi) ∧ K (.b (decide (spanOk lo hi)))
  | _ => False

def NF_ref05_Valid (lo : Int) (hi : Int) (K : AV → Prop) : Prop :=
 (bif decide (lo ≤ hi) then (bif decide ((-3000000000) ≤ lo) then K (.b (decide (hi ≤ 3000000000)))
 else K (.b false))
 else K (.b false))
theorem nf_ref05_Valid (lo : Int) (hi : Int) (K : AV → Prop) : WF G_ref05_Valid 0 FM_ref05_Valid [(.agg [(.i .i64 lo), (.i .i64 hi)])] [] (fun a _ => K a) = NF_ref05_Valid lo hi K := by kernel_rfl
theorem key_ref05_Valid (lo : Int) (hi : Int) {K : AV → Prop} (hp : I64 lo ∧ I64 hi) (hk : K (.b (decide (spanOk lo hi)))) : NF_ref05_Valid lo hi K := by
  unfold NF_ref05_Valid
  refine bif_i (fun h => bif_i (fun h1 => K_of hk ?_) (fun h1 => K_of hk ?_)) (fun h => K_of hk ?_) <;> simp at * <;> simp [spanOk, *] <;> omega
theorem ok_ref05_Valid : SoundN Go.Proofs.Try.prog 36 S_ref05_Valid := by
  refine soundN_of sg_ref05_Valid fun args H K hS => ?_
  unfold S_ref05_Valid at hS
  split at hS
  · rename_i lo hi
    have hS1 := key_ref05_Valid lo hi (K := fun a => plainA a = true ∧ K a) hS.1 ⟨by simp [plainA, plainL], hS.2⟩
    refine ⟨by simp [plainA, plainL], ?_⟩
    rw [nf_ref05_Valid lo hi fun a => plainA a = true ∧ K a]
    exact hS1
  · exact hS.elim

def FM_ref09_nearest : FM := ⟨14, [(RV.tmp 2)], (MC.seq (MC.ops [⟨(some 2), none, (MI.mv (MO.c (AV.i .i64 0)))⟩]) (MC.seq (MC.ops [⟨(some 4), none, (MI.mv (MO.t 0))⟩, ⟨(some 5), none, (MI.bin .add (MO.t 4) (MO.c (AV.i .i64 500000)))⟩, ⟨(some 6), none, (MI.bin .quo (MO.t 5) (MO.c (AV.i .i64 1000000)))⟩, ⟨(some 3), none, (MI.mv (MO.t 6))⟩]) (MC.seq (MC.seq (MC.ops [⟨(some 7), none, (MI.mv (MO.t 0))⟩, ⟨(some 8), none, (MI.bin .add (MO.t 7) (MO.c (AV.i .i64 500000)))⟩, ⟨(some 9), none, (MI.bin .rem (MO.t 8) (MO.c (AV.i .i64 1000000)))⟩, ⟨(some 10), none, (MI.bin .lss (MO.t 9) (MO.c (AV.i .i64 0)))⟩]) (MC.cond (MO.t 10) (MC.ops [⟨(some 11), none, (MI.mv (MO.t 3))⟩, ⟨(some 12), none, (MI.bin .sub (MO.t 11) (MO.c (AV.i .i64 1)))⟩, ⟨(some 3), none, (MI.mv (MO.t 12))⟩]) MC.skip)) (MC.seq (MC.ops [⟨(some 13), none, (MI.mv (MO.t 3))⟩, ⟨(some 2), none, (MI.mv (MO.t 13))⟩]) MC.ret))))⟩
theorem FMc_ref09_nearest : compF Go.Proofs.Try.prog (eqsP Go.Proofs.Try.prog) (neutOf []) 44 = some FM_ref09_nearest := by kernel_rfl
def G_ref09_nearest : Gam := mkG [] []
theorem sg_ref09_nearest : SoundG Go.Proofs.Try.prog 44 (WF G_ref09_nearest 0 FM_ref09_nearest) := WF_sound mixP (mkG_ok (n := []) (g := []) trivial trivial) eqsP_ok FMc_ref09_nearest
def S_ref09_nearest : NSpec := fun args _ K => match args with
  | [(.i .i64 x)] => (-4000000000 ≤ x ∧ x ≤ 4000000000) ∧ K (.i .i64 ((x + 500000) / 1000000))
  | _ => False

def NF_ref09_nearest (x : Int) (K : AV → Prop) : Prop :=
 (bif decide ((Int.tmod (IntKind.i64.wrap (x + 500000)) 1000000) < 0) then K (.i .i64 (IntKind.i64.wrap ((IntKind.i64.wrap (Int.tdiv (IntKind.i64.wrap (x + 500000)) 1000000)) - 1)))
 else K (.i .i64 (IntKind.i64.wrap (Int.tdiv (IntKind.i64.wrap (x + 500000)) 1000000))))
theorem nf_ref09_nearest (x : Int) (K : AV → Prop) : WF G_ref09_nearest 0 FM_ref09_nearest [(.i .i64 x)] [] (fun a _ => K a) = NF_ref09_nearest x K := by kernel_rfl
theorem key_ref09_nearest (x : Int) {K : AV → Prop} (hp : -4000000000 ≤ x ∧ x ≤ 4000000000) (hk : K (.i .i64 ((x + 500000) / 1000000))) : NF_ref09_nearest x K := by
  unfold NF_ref09_nearest
  rw [wrap_i64 (n := x + 500000) (by omega) (by omega)]
  have e : Int.tdiv (x + 500000) 1000000 = if 0 ≤ x + 500000 then (x + 500000) / 1000000 else -((-(x + 500000)) / 1000000) := tdiv_ediv (by omega)
  have e5 : Int.tmod (x + 500000) 1000000 = if 0 ≤ x + 500000 then (x + 500000) % 1000000 else -((-(x + 500000)) % 1000000) := tmod_emod (by omega)
  rw [wrap_i64 (n := Int.tdiv (x + 500000) 1000000) (by rw [e]; split <;> omega) (by rw [e]; split <;> omega), wrap_i64 (n := Int.tdiv (x + 500000) 1000000 - 1) (by rw [e]; split <;> omega) (by rw [e]; split <;> omega)]
  refine bif_i (fun h => K_of hk ?_) (fun h => K_of hk ?_) <;> simp at h <;> congr 1 <;> rw [e5] at h <;> rw [e] <;> split at h <;> simp only [*, if_true, if_false] <;> omega
theorem ok_ref09_nearest : SoundN Go.Proofs.Try.prog 44 S_ref09_nearest := by
  refine soundN_of sg_ref09_nearest fun args H K hS => ?_
  unfold S_ref09_nearest at hS
  split at hS
  · rename_i x
    have hS1 := key_ref09_nearest x (K := fun a => plainA a = true ∧ K a) hS.1 ⟨by simp [plainA, plainL], hS.2⟩
    refine ⟨by simp [plainA, plainL], ?_⟩
    rw [nf_ref09_nearest x fun a => plainA a = true ∧ K a]
    exact hS1
  · exact hS.elim

def FM_ref09_Split : FM := ⟨31, [(RV.cells 2 3), (RV.tmp 3)], (MC.seq (MC.ops [⟨(some 1), none, (MI.box 23 (MO.t 0))⟩, ⟨(some 2), none, (MI.alloc 25 [(AV.i .i64 0), (AV.i .i64 0), (AV.i .i64 0)])⟩, ⟨(some 3), none, (MI.mv (MO.c (AV.i .i64 0)))⟩]) (MC.seq (MC.seq (MC.ops [⟨(some 5), none, (MI.loadn 2 (MO.t 1))⟩, ⟨(some 6), none, (MI.callN 36 [(MO.t 5)])⟩, ⟨(some 7), none, (MI.un .not (MO.t 6))⟩]) (MC.cond (MO.t 7) (MC.seq (MC.ops [⟨(some 8), none, (MI.build [(AV.i .i64 0), (AV.i .i64 0), (AV.i .i64 0)] [])⟩, ⟨none, none, (MI.store 3 (MO.t 2) (MO.t 8))⟩, ⟨(some 3), none, (MI.mv (MO.c (AV.i .i64 8)))⟩]) MC.ret) MC.skip)) (MC.seq (MC.ops [⟨(some 9), none, (MI.faddr 0 (MO.t 1))⟩, ⟨(some 10), none, (MI.load (MO.t 9))⟩, ⟨(some 11), none, (MI.callN 44 [(MO.t 10)])⟩, ⟨(some 4), none, (MI.mv (MO.t 11))⟩]) (MC.seq (MC.seq (MC.ops [⟨(some 12), none, (MI.faddr 1 (MO.t 1))⟩, ⟨(some 13), none, (MI.load (MO.t 12))⟩, ⟨(some 14), none, (MI.callN 44 [(MO.t 13)])⟩, ⟨(some 15), none, (MI.mv (MO.t 4))⟩, ⟨(some 16), none, (MI.bin .neq (MO.t 14) (MO.t 15))⟩]) (MC.cond (MO.t 16) (MC.seq (MC.ops [⟨(some 17), none, (MI.build [(AV.i .i64 0), (AV.i .i64 0), (AV.i .i64 0)] [])⟩, ⟨none, none, (MI.store 3 (MO.t 2) (MO.t 17))⟩, ⟨(some 3), none, (MI.mv (MO.c (AV.i .i64 24)))⟩]) MC.ret) MC.skip)) (MC.seq (MC.ops [⟨(some 18), none, (MI.mv (MO.t 4))⟩, ⟨(some 19), none, (MI.faddr 0 (MO.t 1))⟩, ⟨(some 20), none, (MI.load (MO.t 19))⟩, ⟨(some 21), none, (MI.mv (MO.t 4))⟩, ⟨(some 22), none, (MI.bin .mul (MO.t 21) (MO.c (AV.i .i64 1000000)))⟩, ⟨(some 23), none, (MI.bin .sub (MO.t 20) (MO.t 22))⟩, ⟨(some 24), none, (MI.faddr 1 (MO.t 1))⟩, ⟨(some 25), none, (MI.load (MO.t 24))⟩, ⟨(some 26), none, (MI.mv (MO.t 4))⟩, ⟨(some 27), none, (MI.bin .mul (MO.t 26) (MO.c (AV.i .i64 1000000)))⟩, ⟨(some 28), none, (MI.bin .sub (MO.t 25) (MO.t 27))⟩, ⟨(some 29), none, (MI.build [(AV.i .i64 0), (AV.i .i64 0)] [(0, 1, (MO.t 23)), (1, 1, (MO.t 28))])⟩, ⟨(some 30), none, (MI.build [(AV.i .i64 0), (AV.i .i64 0), (AV.i .i64 0)] [(0, 1, (MO.t 18)), (1, 2, (MO.t 29))])⟩, ⟨none, none, (MI.store 3 (MO.t 2) (MO.t 30))⟩, ⟨(some 3), none, (MI.mv (MO.c (AV.i .i64 0)))⟩]) MC.ret)))))⟩
theorem FMc_ref09_Split : compF Go.Proofs.Try.prog (eqsP Go.Proofs.Try.prog) (neutOf [36, 44]) 11 = some FM_ref09_Split := by kernel_rfl
def G_ref09_Split : Gam := mkG [(36, S_ref05_Valid), (44, S_ref09_nearest)] []
theorem sg_ref09_Split : SoundG Go.Proofs.Try.prog 11 (WF G_ref09_Split 0 FM_ref09_Split) := WF_sound mixP (mkG_ok (n := [(36, S_ref05_Valid), (44, S_ref09_nearest)]) (g := []) ⟨ok_ref05_Valid, ok_ref09_nearest, trivial⟩ trivial) eqsP_ok FMc_ref09_Split
def S_ref09_Split : NSpec := fun args _ K => match args with
  | [(.agg [(.i .i64 lo), (.i .i64 hi)])] => (I64 lo ∧ I64 hi) ∧ K (.tup [(.agg [(.i .i64 (dsplit lo hi).w), (.i .i64 (dsplit lo hi).lo), (.i .i64 (dsplit lo hi).hi)]), (.i .i64 (dsplit lo hi).e)])
  | _ => False

def NF_ref09_Split (lo : Int) (hi : Int) (K : AV → Prop) : Prop :=
 ((I64 lo ∧ I64 hi) ∧
 (bif (!(decide (spanOk lo hi))) then K (.tup [(.agg [(.i .i64 0), (.i .i64 0), (.i .i64 0)]), (.i .i64 8)])
 else ((-4000000000 ≤ lo ∧ lo ≤ 4000000000) ∧
 ((-4000000000 ≤ hi ∧ hi ≤ 4000000000) ∧
 (bif (((hi + 500000) / 1000000) != ((lo + 500000) / 1000000)) then K (.tup [(.agg [(.i .i64 0), (.i .i64 0), (.i .i64 0)]), (.i .i64 24)])
 else K (.tup [(.agg [(.i .i64 ((lo + 500000) / 1000000)), (.i .i64 (IntKind.i64.wrap (lo - (IntKind.i64.wrap (((lo + 500000) / 1000000) * 1000000))))), (.i .i64 (IntKind.i64.wrap (hi - (IntKind.i64.wrap (((lo + 500000) / 1000000) * 1000000)))))]), (.i .i64 0)]))))))
theorem nf_ref09_Split (lo : Int) (hi : Int) (K : AV → Prop) : WF G_ref09_Split 0 FM_ref09_Split [(.agg [(.i .i64 lo), (.i .i64 hi)])] [] (fun a _ => K a) = NF_ref09_Split lo hi K := by kernel_rfl
theorem key_ref09_Split (lo : Int) (hi : Int) {K : AV → Prop} (hp : I64 lo ∧ I64 hi) (hk : K (.tup [(.agg [(.i .i64 (dsplit lo hi).w), (.i .i64 (dsplit lo hi).lo), (.i .i64 (dsplit lo hi).hi)]), (.i .i64 (dsplit lo hi).e)])) : NF_ref09_Split lo hi K := by
  unfold NF_ref09_Split
  refine ⟨hp, ?_⟩
  refine bif_i (fun h => K_of hk ?_) (fun h => ?_)
  · simp at h; simp [dsplit, h]
  simp at h
  obtain ⟨h1, h2, h3⟩ := id h
  refine ⟨by omega, by omega, ?_⟩
  refine bif_i (fun h4 => K_of hk ?_) (fun h4 => K_of hk ?_) <;> simp at h4
  · simp [dsplit, h, h4]
  · rw [wrap_i64 (n := (lo + 500000) / 1000000 * 1000000) (by omega) (by omega), wrap_i64 (n := lo - _) (by omega) (by omega), wrap_i64 (n := hi - _) (by omega) (by omega)]
    simp [dsplit, h, h4]
theorem ok_ref09_Split : SoundN Go.Proofs.Try.prog 11 S_ref09_Split := by
  refine soundN_of sg_ref09_Split fun args H K hS => ?_
  unfold S_ref09_Split at hS
  split at hS
  · rename_i lo hi
    have hS1 := key_ref09_Split lo hi (K := fun a => plainA a = true ∧ K a) hS.1 ⟨by simp [plainA, plainL], hS.2⟩
    refine ⟨by simp [plainA, plainL], ?_⟩
    rw [nf_ref09_Split lo hi fun a => plainA a = true ∧ K a]
    exact hS1
  · exact hS.elim

def FM_ref09_Part : FM := ⟨18, [(RV.tmp 2)], (MC.seq (MC.ops [⟨(some 1), none, (MI.box 23 (MO.t 0))⟩, ⟨(some 2), none, (MI.mv (MO.c (AV.b false)))⟩]) (MC.seq (MC.ops [⟨(some 3), none, (MI.faddr 0 (MO.t 1))⟩, ⟨(some 4), none, (MI.load (MO.t 3))⟩, ⟨(some 5), none, (MI.faddr 1 (MO.t 1))⟩, ⟨(some 6), none, (MI.load (MO.t 5))⟩, ⟨(some 7), none, (MI.bin .leq (MO.t 4) (MO.t 6))⟩, ⟨(some 8), none, (MI.mv (MO.t 7))⟩, ⟨(some 9), (some (8, true)), (MI.faddr 0 (MO.t 1))⟩, ⟨(some 10), (some (8, true)), (MI.load (MO.t 9))⟩, ⟨(some 11), (some (8, true)), (MI.bin .geq (MO.t 10) (MO.c (AV.i .i64 (-500000))))⟩, ⟨(some 12), none, (MI.pick (MO.t 8) (MO.t 11) (MO.c (AV.b false)))⟩, ⟨(some 13), none, (MI.mv (MO.t 12))⟩, ⟨(some 14), (some (13, true)), (MI.faddr 1 (MO.t 1))⟩, ⟨(some 15), (some (13, true)), (MI.load (MO.t 14))⟩, ⟨(some 16), (some (13, true)), (MI.bin .lss (MO.t 15) (MO.c (AV.i .i64 500000)))⟩, ⟨(some 17), none, (MI.pick (MO.t 13) (MO.t 16) (MO.c (AV.b false)))⟩, ⟨(some 2), none, (MI.mv (MO.t 17))⟩]) MC.ret))⟩
theorem FMc_ref09_Part : compF Go.Proofs.Try.prog (eqsP Go.Proofs.Try.prog) (neutOf []) 45 = some FM_ref09_Part := by kernel_rfl
def G_ref09_Part : Gam := mkG [] []
theorem sg_ref09_Part : SoundG Go.Proofs.Try.prog 45 (WF G_ref09_Part 0 FM_ref09_Part) := WF_sound mixP (mkG_ok (n := []) (g := []) trivial trivial) eqsP_ok FMc_ref09_Part
def S_ref09_Part : NSpec := fun args _ K => match args with
  | [(.agg [(.i .i64 lo), (.i .i64 hi)])] => (I64 lo ∧ I64 hi) ∧ K (.b (decide (lo ≤ hi ∧ -500000 ≤ lo ∧ hi < 500000)))
  | _ => False

def NF_ref09_Part (lo : Int) (hi : Int) (K : AV → Prop) : Prop :=
 (bif decide (lo ≤ hi) then (bif decide ((-500000) ≤ lo) then K (.b (decide (hi < 500000)))
 else K (.b false))
 else K (.b false))
theorem nf_ref09_Part (lo : Int) (hi : Int) (K : AV → Prop) : WF G_ref09_Part 0 FM_ref09_Part [(.agg [(.i .i64 lo), (.i .i64 hi)])] [] (fun a _ => K a) = NF_ref09_Part lo hi K := by kernel_rfl
theorem key_ref09_Part (lo : Int) (hi : Int) {K : AV → Prop} (hp : I64 lo ∧ I64 hi) (hk : K (.b (decide (lo ≤ hi ∧ -500000 ≤ lo ∧ hi < 500000)))) : NF_ref09_Part lo hi K := by
  unfold NF_ref09_Part
  refine bif_i (fun h => bif_i (fun h1 => K_of hk ?_) (fun h1 => K_of hk ?_)) (fun h => K_of hk ?_) <;> simp at h <;> congr 1 <;> rw [Bool.eq_iff_iff] <;> simp <;> first | (simp at h1; omega) | omega
theorem ok_ref09_Part : SoundN Go.Proofs.Try.prog 45 S_ref09_Part := by
  refine soundN_of sg_ref09_Part fun args H K hS => ?_
  unfold S_ref09_Part at hS
  split at hS
  · rename_i lo hi
    have hS1 := key_ref09_Part lo hi (K := fun a => plainA a = true ∧ K a) hS.1 ⟨by simp [plainA, plainL], hS.2⟩
    refine ⟨by simp [plainA, plainL], ?_⟩
    rw [nf_ref09_Part lo hi fun a => plainA a = true ∧ K a]
    exact hS1
  · exact hS.elim

def FM_ref09_Join : FM := ⟨33, [(RV.cells 2 2), (RV.tmp 3)], (MC.seq (MC.ops [⟨(some 1), none, (MI.box 25 (MO.t 0))⟩, ⟨(some 2), none, (MI.alloc 23 [(AV.i .i64 0), (AV.i .i64 0)])⟩, ⟨(some 3), none, (MI.mv (MO.c (AV.i .i64 0)))⟩]) (MC.seq (MC.seq (MC.ops [⟨(some 6), none, (MI.faddr 1 (MO.t 1))⟩, ⟨(some 7), none, (MI.loadn 2 (MO.t 6))⟩, ⟨(some 8), none, (MI.callN 45 [(MO.t 7)])⟩, ⟨(some 9), none, (MI.un .not (MO.t 8))⟩]) (MC.cond (MO.t 9) (MC.seq (MC.ops [⟨(some 10), none, (MI.build [(AV.i .i64 0), (AV.i .i64 0)] [])⟩, ⟨none, none, (MI.store 2 (MO.t 2) (MO.t 10))⟩, ⟨(some 3), none, (MI.mv (MO.c (AV.i .i64 8)))⟩]) MC.ret) MC.skip)) (MC.seq (MC.ops [⟨(some 11), none, (MI.faddr 0 (MO.t 1))⟩, ⟨(some 12), none, (MI.load (MO.t 11))⟩, ⟨(some 13), none, (MI.mnmx false (MO.c (AV.i .i64 4000)) [(MO.t 12)])⟩, ⟨(some 14), none, (MI.mnmx true (MO.c (AV.i .i64 (-4000))) [(MO.t 13)])⟩, ⟨(some 4), none, (MI.mv (MO.t 14))⟩]) (MC.seq (MC.ops [⟨(some 15), none, (MI.faddr 1 (MO.t 1))⟩, ⟨(some 16), none, (MI.faddr 0 (MO.t 15))⟩, ⟨(some 17), none, (MI.load (MO.t 16))⟩, ⟨(some 18), none, (MI.mv (MO.t 4))⟩, ⟨(some 19), none, (MI.bin .mul (MO.t 18) (MO.c (AV.i .i64 1000000)))⟩, ⟨(some 20), none, (MI.bin .add (MO.t 17) (MO.t 19))⟩, ⟨(some 21), none, (MI.faddr 1 (MO.t 1))⟩, ⟨(some 22), none, (MI.faddr 1 (MO.t 21))⟩, ⟨(some 23), none, (MI.load (MO.t 22))⟩, ⟨(some 24), none, (MI.mv (MO.t 4))⟩, ⟨(some 25), none, (MI.bin .mul (MO.t 24) (MO.c (AV.i .i64 1000000)))⟩, ⟨(some 26), none, (MI.bin .add (MO.t 23) (MO.t 25))⟩, ⟨(some 27), none, (MI.build [(AV.i .i64 0), (AV.i .i64 0)] [(0, 1, (MO.t 20)), (1, 1, (MO.t 26))])⟩, ⟨(some 5), none, (MI.alloc 23 [(AV.i .i64 0), (AV.i .i64 0)])⟩, ⟨none, none, (MI.store 2 (MO.t 5) (MO.t 27))⟩]) (MC.seq (MC.seq (MC.ops [⟨(some 28), none, (MI.loadn 2 (MO.t 5))⟩, ⟨(some 29), none, (MI.callN 36 [(MO.t 28)])⟩, ⟨(some 30), none, (MI.un .not (MO.t 29))⟩]) (MC.cond (MO.t 30) (MC.seq (MC.ops [⟨(some 31), none, (MI.build [(AV.i .i64 0), (AV.i .i64 0)] [])⟩, ⟨none, none, (MI.store 2 (MO.t 2) (MO.t 31))⟩, ⟨(some 3), none, (MI.mv (MO.c (AV.i .i64 16)))⟩]) MC.ret) MC.skip)) (MC.seq (MC.ops [⟨(some 32), none, (MI.loadn 2 (MO.t 5))⟩, ⟨none, none, (MI.store 2 (MO.t 2) (MO.t 32))⟩, ⟨(some 3), none, (MI.mv (MO.c (AV.i .i64 0)))⟩]) MC.ret))))))⟩
theorem FMc_ref09_Join : compF Go.Proofs.Try.prog (eqsP Go.Proofs.Try.prog) (neutOf [36, 45]) 13 = some FM_ref09_Join := by kernel_rfl
def G_ref09_Join : Gam := mkG [(36, S_ref05_Valid), (45, S_ref09_Part)] []
theorem sg_ref09_Join : SoundG Go.Proofs.Try.prog 13 (WF G_ref09_Join 0 FM_ref09_Join) := WF_sound mixP (mkG_ok (n := [(36, S_ref05_Valid), (45, S_ref09_Part)]) (g := []) ⟨ok_ref05_Valid, ok_ref09_Part, trivial⟩ trivial) eqsP_ok FMc_ref09_Join
def S_ref09_Join : NSpec := fun args _ K => match args with
  | [(.agg [(.i .i64 w), (.i .i64 lo), (.i .i64 hi)])] => (I64 w ∧ I64 lo ∧ I64 hi) ∧ K (.tup [(.agg [(.i .i64 (djoin w lo hi).lo), (.i .i64 (djoin w lo hi).hi)]), (.i .i64 (djoin w lo hi).e)])
  | _ => False

def NF_ref09_Join (w : Int) (lo : Int) (hi : Int) (K : AV → Prop) : Prop :=
 ((I64 lo ∧ I64 hi) ∧
 (bif (!(decide (lo ≤ hi ∧ -500000 ≤ lo ∧ hi < 500000))) then K (.tup [(.agg [(.i .i64 0), (.i .i64 0)]), (.i .i64 8)])
 else ((I64 (IntKind.i64.wrap (lo + (IntKind.i64.wrap ((imax (-4000) (imin 4000 w)) * 1000000)))) ∧ I64 (IntKind.i64.wrap (hi + (IntKind.i64.wrap ((imax (-4000) (imin 4000 w)) * 1000000))))) ∧
 (bif (!(decide (spanOk (IntKind.i64.wrap (lo + (IntKind.i64.wrap ((imax (-4000) (imin 4000 w)) * 1000000)))) (IntKind.i64.wrap (hi + (IntKind.i64.wrap ((imax (-4000) (imin 4000 w)) * 1000000))))))) then K (.tup [(.agg [(.i .i64 0), (.i .i64 0)]), (.i .i64 16)])
 else K (.tup [(.agg [(.i .i64 (IntKind.i64.wrap (lo + (IntKind.i64.wrap ((imax (-4000) (imin 4000 w)) * 1000000))))), (.i .i64 (IntKind.i64.wrap (hi + (IntKind.i64.wrap ((imax (-4000) (imin 4000 w)) * 1000000)))))]), (.i .i64 0)])))))
theorem nf_ref09_Join (w : Int) (lo : Int) (hi : Int) (K : AV → Prop) : WF G_ref09_Join 0 FM_ref09_Join [(.agg [(.i .i64 w), (.i .i64 lo), (.i .i64 hi)])] [] (fun a _ => K a) = NF_ref09_Join w lo hi K := by kernel_rfl
theorem key_ref09_Join (w : Int) (lo : Int) (hi : Int) {K : AV → Prop} (hp : I64 w ∧ I64 lo ∧ I64 hi) (hk : K (.tup [(.agg [(.i .i64 (djoin w lo hi).lo), (.i .i64 (djoin w lo hi).hi)]), (.i .i64 (djoin w lo hi).e)])) : NF_ref09_Join w lo hi K := by
  unfold NF_ref09_Join
  refine ⟨hp.2, ?_⟩
  obtain ⟨⟨a1, a2⟩, ⟨b1, b2⟩, c1, c2⟩ := hp
  refine bif_i (fun h => K_of hk ?_) (fun h => ?_)
  · simp only [Bool.not_eq_true', decide_eq_false_iff_not] at h; simp only [djoin, if_neg h]
  simp only [Bool.not_eq_false', decide_eq_true_eq] at h
  generalize hn : imax (-4000) (imin 4000 w) = n
  have hn1 : (-4000 ≤ n ∧ n ≤ 4000) ∧ (n = w ∨ (n = 4000 ∧ 4000 < w) ∨ (n = -4000 ∧ w < -4000)) := by
    subst hn; unfold imax imin; split <;> split <;> omega
  rw [wrap_i64 (n := n * 1000000) (by omega) (by omega), wrap_i64 (n := lo + n * 1000000) (by omega) (by omega), wrap_i64 (n := hi + n * 1000000) (by omega) (by omega)]
  refine ⟨⟨⟨by omega, by omega⟩, by omega, by omega⟩, ?_⟩
  refine bif_i (fun h1 => K_of hk ?_) (fun h1 => K_of hk ?_)
  · rw [Bool.not_eq_true', decide_eq_false_iff_not] at h1
    have : ¬ spanOk (lo + w * 1000000) (hi + w * 1000000) := by
      intro hs
      unfold spanOk at h1 hs
      have : n = w := by omega
      subst this
      exact h1 hs
    simp only [djoin, if_pos h, if_neg this]
  · rw [Bool.not_eq_false', decide_eq_true_eq] at h1
    have hw : n = w := by unfold spanOk at h1; omega
    subst hw
    have : spanOk (lo + n * 1000000) (hi + n * 1000000) := h1
    simp only [djoin, if_pos h, if_pos this]
theorem ok_ref09_Join : SoundN Go.Proofs.Try.prog 13 S_ref09_Join := by
  refine soundN_of sg_ref09_Join fun args H K hS => ?_
  unfold S_ref09_Join at hS
  split at hS
  · rename_i w lo hi
    have hS1 := key_ref09_Join w lo hi (K := fun a => plainA a = true ∧ K a) hS.1 ⟨by simp [plainA, plainL], hS.2⟩
    refine ⟨by simp [plainA, plainL], ?_⟩
    rw [nf_ref09_Join w lo hi fun a => plainA a = true ∧ K a]
    exact hS1
  · exact hS.elim

def FM_law09_DelaySplits : FM := ⟨51, [(RV.tmp 4)], (MC.seq (MC.ops [⟨(some 2), none, (MI.box 23 (MO.t 0))⟩, ⟨(some 3), none, (MI.box 25 (MO.t 1))⟩, ⟨(some 4), none, (MI.mv (MO.c (AV.b false)))⟩]) (MC.seq (MC.ops [⟨(some 14), none, (MI.loadn 2 (MO.t 2))⟩, ⟨(some 15), none, (MI.callN 10 [(MO.t 14)])⟩, ⟨(some 13), none, (MI.mv (MO.t 15))⟩, ⟨(some 16), none, (MI.ext (MO.t 13) 0)⟩, ⟨(some 17), none, (MI.ext (MO.t 13) 1)⟩, ⟨(some 5), none, (MI.alloc 25 [(AV.i .i64 0), (AV.i .i64 0), (AV.i .i64 0)])⟩, ⟨none, none, (MI.store 3 (MO.t 5) (MO.t 16))⟩, ⟨(some 6), none, (MI.mv (MO.t 17))⟩]) (MC.seq (MC.ops [⟨(some 19), none, (MI.loadn 2 (MO.t 2))⟩, ⟨(some 20), none, (MI.callN 11 [(MO.t 19)])⟩, ⟨(some 18), none, (MI.mv (MO.t 20))⟩, ⟨(some 21), none, (MI.ext (MO.t 18) 0)⟩, ⟨(some 22), none, (MI.ext (MO.t 18) 1)⟩, ⟨(some 7), none, (MI.alloc 25 [(AV.i .i64 0), (AV.i .i64 0), (AV.i .i64 0)])⟩, ⟨none, none, (MI.store 3 (MO.t 7) (MO.t 21))⟩, ⟨(some 8), none, (MI.mv (MO.t 22))⟩]) (MC.seq (MC.ops [⟨(some 24), none, (MI.loadn 3 (MO.t 3))⟩, ⟨(some 25), none, (MI.callN 12 [(MO.t 24)])⟩, ⟨(some 23), none, (MI.mv (MO.t 25))⟩, ⟨(some 26), none, (MI.ext (MO.t 23) 0)⟩, ⟨(some 27), none, (MI.ext (MO.t 23) 1)⟩, ⟨(some 9), none, (MI.alloc 23 [(AV.i .i64 0), (AV.i .i64 0)])⟩, ⟨none, none, (MI.store 2 (MO.t 9) (MO.t 26))⟩, ⟨(some 10), none, (MI.mv (MO.t 27))⟩]) (MC.seq (MC.ops [⟨(some 29), none, (MI.loadn 3 (MO.t 3))⟩, ⟨(some 30), none, (MI.callN 13 [(MO.t 29)])⟩, ⟨(some 28), none, (MI.mv (MO.t 30))⟩, ⟨(some 31), none, (MI.ext (MO.t 28) 0)⟩, ⟨(some 32), none, (MI.ext (MO.t 28) 1)⟩, ⟨(some 11), none, (MI.alloc 23 [(AV.i .i64 0), (AV.i .i64 0)])⟩, ⟨none, none, (MI.store 2 (MO.t 11) (MO.t 31))⟩, ⟨(some 12), none, (MI.mv (MO.t 32))⟩]) (MC.seq (MC.ops [⟨(some 33), none, (MI.loadn 3 (MO.t 5))⟩, ⟨(some 34), none, (MI.loadn 3 (MO.t 7))⟩, ⟨(some 35), none, (MI.eqa false [(SK.i .i64), (SK.i .i64), (SK.i .i64)] (MO.t 33) (MO.t 34))⟩, ⟨(some 36), none, (MI.mv (MO.t 35))⟩, ⟨(some 37), (some (36, true)), (MI.mv (MO.t 6))⟩, ⟨(some 38), (some (36, true)), (MI.mv (MO.t 8))⟩, ⟨(some 39), (some (36, true)), (MI.bin .eql (MO.t 37) (MO.t 38))⟩, ⟨(some 40), none, (MI.pick (MO.t 36) (MO.t 39) (MO.c (AV.b false)))⟩, ⟨(some 41), none, (MI.mv (MO.t 40))⟩, ⟨(some 42), (some (41, true)), (MI.loadn 2 (MO.t 9))⟩, ⟨(some 43), (some (41, true)), (MI.loadn 2 (MO.t 11))⟩, ⟨(some 44), (some (41, true)), (MI.eqa false [(SK.i .i64), (SK.i .i64)] (MO.t 42) (MO.t 43))⟩, ⟨(some 45), none, (MI.pick (MO.t 41) (MO.t 44) (MO.c (AV.b false)))⟩, ⟨(some 46), none, (MI.mv (MO.t 45))⟩, ⟨(some 47), (some (46, true)), (MI.mv (MO.t 10))⟩, ⟨(some 48), (some (46, true)), (MI.mv (MO.t 12))⟩, ⟨(some 49), (some (46, true)), (MI.bin .eql (MO.t 47) (MO.t 48))⟩, ⟨(some 50), none, (MI.pick (MO.t 46) (MO.t 49) (MO.c (AV.b false)))⟩, ⟨(some 4), none, (MI.mv (MO.t 50))⟩]) MC.ret))))))⟩
theorem FMc_law09_DelaySplits : compF Go.Proofs.Try.prog (eqsP Go.Proofs.Try.prog) (neutOf [10, 11, 12, 13]) 3 = some FM_law09_DelaySplits := by kernel_rfl
def G_law09_DelaySplits : Gam := mkG [(10, S_delay_Split), (11, S_ref09_Split), (12, S_delay_Join), (13, S_ref09_Join)] []
theorem sg_law09_DelaySplits : SoundG Go.Proofs.Try.prog 3 (WF G_law09_DelaySplits 0 FM_law09_DelaySplits) := WF_sound mixP (mkG_ok (n := [(10, S_delay_Split), (11, S_ref09_Split), (12, S_delay_Join), (13, S_ref09_Join)]) (g := []) ⟨ok_delay_Split, ok_ref09_Split, ok_delay_Join, ok_ref09_Join, trivial⟩ trivial) eqsP_ok FMc_law09_DelaySplits
def S_law09_DelaySplits : NSpec := fun args _ K => match args with
  | [(.agg [(.i .i64 lo), (.i .i64 hi)]), (.agg [(.i .i64 w), (.i .i64 l), (.i .i64 h)])] => ((I64 lo ∧ I64 hi) ∧ I64 w ∧ I64 l ∧ I64 h) ∧ K (.b true)
  | _ => False

def NF_law09_DelaySplits (lo : Int) (hi : Int) (w : Int) (l : Int) (h : Int) (K : AV → Prop) : Prop :=
 ((I64 lo ∧ I64 hi) ∧
 ((I64 lo ∧ I64 hi) ∧
 ((I64 w ∧ I64 l ∧ I64 h) ∧
 ((I64 w ∧ I64 l ∧ I64 h) ∧
 (bif (((dsplit lo hi).w == (dsplit lo hi).w) && (((dsplit lo hi).lo == (dsplit lo hi).lo) && (((dsplit lo hi).hi == (dsplit lo hi).hi) && true))) then (bif ((dsplit lo hi).e == (dsplit lo hi).e) then (bif (((djoin w l h).lo == (djoin w l h).lo) && (((djoin w l h).hi == (djoin w l h).hi) && true)) then K (.b ((djoin w l h).e == (djoin w l h).e))
 else K (.b false))
 else K (.b false))
 else K (.b false))))))
theorem nf_law09_DelaySplits (lo : Int) (hi : Int) (w : Int) (l : Int) (h : Int) (K : AV → Prop) : WF G_law09_DelaySplits 0 FM_law09_DelaySplits [(.agg [(.i .i64 lo), (.i .i64 hi)]), (.agg [(.i .i64 w), (.i .i64 l), (.i .i64 h)])] [] (fun a _ => K a) = NF_law09_DelaySplits lo hi w l h K := by kernel_rfl
theorem key_law09_DelaySplits (lo : Int) (hi : Int) (w : Int) (l : Int) (h : Int) {K : AV → Prop} (hp : (I64 lo ∧ I64 hi) ∧ I64 w ∧ I64 l ∧ I64 h) (hk : K (.b true)) : NF_law09_DelaySplits lo hi w l h K := by
  unfold NF_law09_DelaySplits
  obtain ⟨h1, h2⟩ := hp
  simp [hk, h1, h2]
theorem ok_law09_DelaySplits : SoundN Go.Proofs.Try.prog 3 S_law09_DelaySplits := by
  refine soundN_of sg_law09_DelaySplits fun args H K hS => ?_
  unfold S_law09_DelaySplits at hS
  split at hS
  · rename_i lo hi w l h
    have hS1 := key_law09_DelaySplits lo hi w l h (K := fun a => plainA a = true ∧ K a) hS.1 ⟨by simp [plainA, plainL], hS.2⟩
    refine ⟨by simp [plainA, plainL], ?_⟩
    rw [nf_law09_DelaySplits lo hi w l h fun a => plainA a = true ∧ K a]
    exact hS1
  · exact hS.elim

end Go.Proofs.Ytkmhmabkahaekaa.V
