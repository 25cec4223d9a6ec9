/-
  Contracts, printed by a program of this session (wip/tool/sym.py) from the unit text fr2: what each function comes to, and its proof.
-/
import Derived.Test.YtpfmnmcpffajeaaFr1
import Derived.Test.YtpfmnmcpffajeaaProg
set_option linter.unusedVariables false
set_option linter.unusedSimpArgs false
set_option maxRecDepth 100000
namespace Go.Proofs.Ytpfmnmcpffajeaa.V
open Go Go.RowKit
open Go.IntKind (u64 i64 u8 i32 u32)


def lenTab : ByteArray := ⟨#[0, 1, 2, 2, 3, 3, 3, 3, 4, 4, 4, 4, 4, 4, 4, 4, 5, 5, 5, 5, 5, 5, 5, 5, 5, 5, 5, 5, 5, 5, 5, 5, 6, 6, 6, 6, 6, 6, 6, 6, 6, 6, 6, 6, 6, 6, 6, 6, 6, 6, 6, 6, 6, 6, 6, 6, 6, 6, 6, 6, 6, 6, 6, 6, 7, 7, 7, 7, 7, 7, 7, 7, 7, 7, 7, 7, 7, 7, 7, 7, 7, 7, 7, 7, 7, 7, 7, 7, 7, 7, 7, 7, 7, 7, 7, 7, 7, 7, 7, 7, 7, 7, 7, 7, 7, 7, 7, 7, 7, 7, 7, 7, 7, 7, 7, 7, 7, 7, 7, 7, 7, 7, 7, 7, 7, 7, 7, 7, 8, 8, 8, 8, 8, 8, 8, 8, 8, 8, 8, 8, 8, 8, 8, 8, 8, 8, 8, 8, 8, 8, 8, 8, 8, 8, 8, 8, 8, 8, 8, 8, 8, 8, 8, 8, 8, 8, 8, 8, 8, 8, 8, 8, 8, 8, 8, 8, 8, 8, 8, 8, 8, 8, 8, 8, 8, 8, 8, 8, 8, 8, 8, 8, 8, 8, 8, 8, 8, 8, 8, 8, 8, 8, 8, 8, 8, 8, 8, 8, 8, 8, 8, 8, 8, 8, 8, 8, 8, 8, 8, 8, 8, 8, 8, 8, 8, 8, 8, 8, 8, 8, 8, 8, 8, 8, 8, 8, 8, 8, 8, 8, 8, 8, 8, 8, 8, 8, 8, 8, 8, 8, 8, 8, 8, 8, 8, 8]⟩
def len8 (v : Int) : Int := byteAt lenTab v.toNat
/-- How many bits a number has. -/
def lenN (x : Int) : Int :=
  if 4294967296 ≤ x then (if 65536 ≤ x / 4294967296 then (if 256 ≤ x / 4294967296 / 65536 then 56 + len8 (x / 4294967296 / 65536 / 256) else 48 + len8 (x / 4294967296 / 65536)) else (if 256 ≤ x / 4294967296 then 40 + len8 (x / 4294967296 / 256) else 32 + len8 (x / 4294967296)))
  else (if 65536 ≤ x then (if 256 ≤ x / 65536 then 24 + len8 (x / 65536 / 256) else 16 + len8 (x / 65536)) else (if 256 ≤ x then 8 + len8 (x / 256) else len8 x))
theorem len8_all : ((List.range 256).all fun n => (n == 0 && (len8 (n : Int) == 0)) || (decide (0 < n) && ((List.range 9).any fun k => decide (0 < k) && (len8 (n : Int) == (k : Int)) && decide (2 ^ (k - 1) ≤ n) && decide (n < 2 ^ k)))) = true := by decide +kernel
theorem len8_of {v : Int} (h0 : 0 ≤ v) (h : v < 256) : (v = 0 ∧ len8 v = 0) ∨ (0 < v ∧ ∃ k : Nat, 0 < k ∧ k < 9 ∧ len8 v = k ∧ (2 : Int) ^ (k - 1) ≤ v ∧ v < 2 ^ k) := by
  obtain ⟨n, rfl⟩ := Int.eq_ofNat_of_zero_le h0
  have := List.all_eq_true.1 len8_all n (List.mem_range.2 (by omega))
  simp only [Bool.or_eq_true, Bool.and_eq_true, beq_iff_eq, List.any_eq_true, List.mem_range, decide_eq_true_eq] at this
  rcases this with ⟨rfl, h⟩ | ⟨h1, k, hk, ⟨⟨h2, h3⟩, h4⟩, h5⟩
  · exact .inl ⟨rfl, h⟩
  · exact .inr ⟨by omega, k, h2, hk, h3, by exact_mod_cast h4, by exact_mod_cast h5⟩
theorem len8_pos {v : Int} (h0 : 0 < v) (h : v < 256) : (len8 v = 1 ∧ 1 ≤ v ∧ v < 2) ∨ (len8 v = 2 ∧ 2 ≤ v ∧ v < 4) ∨ (len8 v = 3 ∧ 4 ≤ v ∧ v < 8) ∨ (len8 v = 4 ∧ 8 ≤ v ∧ v < 16) ∨ (len8 v = 5 ∧ 16 ≤ v ∧ v < 32) ∨ (len8 v = 6 ∧ 32 ≤ v ∧ v < 64) ∨ (len8 v = 7 ∧ 64 ≤ v ∧ v < 128) ∨ (len8 v = 8 ∧ 128 ≤ v ∧ v < 256) := by
  rcases len8_of (by omega) h with ⟨rfl, _⟩ | ⟨_, k, h1, h2, h3, h4, h5⟩
  · omega
  · have : k = 1 ∨ k = 2 ∨ k = 3 ∨ k = 4 ∨ k = 5 ∨ k = 6 ∨ k = 7 ∨ k = 8 := by omega
    rcases this with rfl | rfl | rfl | rfl | rfl | rfl | rfl | rfl <;> simp at h3 h4 h5 <;> omega
theorem lenTop_leaf {y v c : Int} (hc : (c = 0 ∧ v = y) ∨ (c = 8 ∧ v = y / 256) ∨ (c = 16 ∧ v = y / 65536) ∨ (c = 24 ∧ v = y / 65536 / 256) ∨ (c = 32 ∧ v = y / 4294967296) ∨ (c = 40 ∧ v = y / 4294967296 / 256) ∨ (c = 48 ∧ v = y / 4294967296 / 65536) ∨ (c = 56 ∧ v = y / 4294967296 / 65536 / 256)) (h0 : 0 < v) (h : v < 256) :
    1 ≤ c + len8 v ∧ c + len8 v ≤ 64 ∧ 9223372036854775808 ≤ y * 2 ^ (64 - (c + len8 v)).toNat ∧ y * 2 ^ (64 - (c + len8 v)).toNat < 18446744073709551616 := by
  rcases len8_pos h0 h with h | h | h | h | h | h | h | h <;> obtain ⟨e, h1, h2⟩ := h <;> rw [e] <;>
    rcases hc with ⟨rfl, q⟩ | ⟨rfl, q⟩ | ⟨rfl, q⟩ | ⟨rfl, q⟩ | ⟨rfl, q⟩ | ⟨rfl, q⟩ | ⟨rfl, q⟩ | ⟨rfl, q⟩ <;>
    (refine ⟨by omega, by omega, ?_, ?_⟩ <;> simp only [Int.reduceAdd, Int.reduceSub, Int.reduceToNat, Int.reducePow] <;> omega)
/-- The number of leading zeros brings the highest bit to the top. -/
theorem lenN_top {y : Int} (h0 : 0 < y) (h : y < 18446744073709551616) : 1 ≤ lenN y ∧ lenN y ≤ 64 ∧ 9223372036854775808 ≤ y * 2 ^ (64 - lenN y).toNat ∧ y * 2 ^ (64 - lenN y).toNat < 18446744073709551616 := by
  unfold lenN
  repeat' split
  · exact lenTop_leaf (by omega) (by omega) (by omega)
  · exact lenTop_leaf (by omega) (by omega) (by omega)
  · exact lenTop_leaf (by omega) (by omega) (by omega)
  · exact lenTop_leaf (by omega) (by omega) (by omega)
  · exact lenTop_leaf (by omega) (by omega) (by omega)
  · exact lenTop_leaf (by omega) (by omega) (by omega)
  · exact lenTop_leaf (by omega) (by omega) (by omega)
  · have := lenTop_leaf (y := y) (v := y) (c := 0) (by omega) (by omega) (by omega)
    rwa [Int.zero_add] at this
theorem u8_wrap {n : Int} (h0 : 0 ≤ n) (h : n < 256) : u8.wrap n = n := by
  simp [IntKind.wrap, IntKind.signed, IntKind.bits]; omega
theorem len8_i64 (v : Int) (h0 : 0 ≤ v) (h : v < 256) : i64.wrap (byteAt lenTab (Int.toNat (u8.wrap v))) = len8 v ∧ 0 ≤ len8 v ∧ len8 v ≤ 8 := by
  rw [u8_wrap h0 h]
  show i64.wrap (len8 v) = len8 v ∧ _
  rcases len8_of h0 h with ⟨_, e⟩ | ⟨_, k, _, h2, e, _, _⟩
  · rw [e]; exact ⟨wrap_i64 (by omega) (by omega), by omega, by omega⟩
  · rw [e]; exact ⟨wrap_i64 (by omega) (by omega), by omega, by omega⟩

def FM_math_bits_Len64 : FM := ⟨25, [(RV.tmp 2)], (MC.seq (MC.ops [⟨(some 2), none, (MI.mv (MO.c (AV.i .i64 0)))⟩]) (MC.seq (MC.seq (MC.ops [⟨(some 3), none, (MI.mv (MO.t 0))⟩, ⟨(some 4), none, (MI.bin .geq (MO.t 3) (MO.c (AV.i .u64 4294967296)))⟩]) (MC.cond (MO.t 4) (MC.seq (MC.ops [⟨(some 5), none, (MI.mv (MO.t 0))⟩, ⟨(some 6), none, (MI.bin .shr (MO.t 5) (MO.c (AV.i .u64 32)))⟩, ⟨(some 0), none, (MI.mv (MO.t 6))⟩]) (MC.ops [⟨(some 2), none, (MI.mv (MO.c (AV.i .i64 32)))⟩])) MC.skip)) (MC.seq (MC.seq (MC.ops [⟨(some 7), none, (MI.mv (MO.t 0))⟩, ⟨(some 8), none, (MI.bin .geq (MO.t 7) (MO.c (AV.i .u64 65536)))⟩]) (MC.cond (MO.t 8) (MC.seq (MC.ops [⟨(some 9), none, (MI.mv (MO.t 0))⟩, ⟨(some 10), none, (MI.bin .shr (MO.t 9) (MO.c (AV.i .u64 16)))⟩, ⟨(some 0), none, (MI.mv (MO.t 10))⟩]) (MC.ops [⟨(some 11), none, (MI.mv (MO.t 2))⟩, ⟨(some 12), none, (MI.bin .add (MO.t 11) (MO.c (AV.i .i64 16)))⟩, ⟨(some 2), none, (MI.mv (MO.t 12))⟩])) MC.skip)) (MC.seq (MC.seq (MC.ops [⟨(some 13), none, (MI.mv (MO.t 0))⟩, ⟨(some 14), none, (MI.bin .geq (MO.t 13) (MO.c (AV.i .u64 256)))⟩]) (MC.cond (MO.t 14) (MC.seq (MC.ops [⟨(some 15), none, (MI.mv (MO.t 0))⟩, ⟨(some 16), none, (MI.bin .shr (MO.t 15) (MO.c (AV.i .u64 8)))⟩, ⟨(some 0), none, (MI.mv (MO.t 16))⟩]) (MC.ops [⟨(some 17), none, (MI.mv (MO.t 2))⟩, ⟨(some 18), none, (MI.bin .add (MO.t 17) (MO.c (AV.i .i64 8)))⟩, ⟨(some 2), none, (MI.mv (MO.t 18))⟩])) MC.skip)) (MC.seq (MC.ops [⟨(some 19), none, (MI.mv (MO.t 2))⟩, ⟨(some 20), none, (MI.mv (MO.t 0))⟩, ⟨(some 21), none, (MI.conv .u8 (MO.t 20))⟩, ⟨(some 22), none, (MI.sidx (MO.c (AV.s ⟨#[0, 1, 2, 2, 3, 3, 3, 3, 4, 4, 4, 4, 4, 4, 4, 4, 5, 5, 5, 5, 5, 5, 5, 5, 5, 5, 5, 5, 5, 5, 5, 5, 6, 6, 6, 6, 6, 6, 6, 6, 6, 6, 6, 6, 6, 6, 6, 6, 6, 6, 6, 6, 6, 6, 6, 6, 6, 6, 6, 6, 6, 6, 6, 6, 7, 7, 7, 7, 7, 7, 7, 7, 7, 7, 7, 7, 7, 7, 7, 7, 7, 7, 7, 7, 7, 7, 7, 7, 7, 7, 7, 7, 7, 7, 7, 7, 7, 7, 7, 7, 7, 7, 7, 7, 7, 7, 7, 7, 7, 7, 7, 7, 7, 7, 7, 7, 7, 7, 7, 7, 7, 7, 7, 7, 7, 7, 7, 7, 8, 8, 8, 8, 8, 8, 8, 8, 8, 8, 8, 8, 8, 8, 8, 8, 8, 8, 8, 8, 8, 8, 8, 8, 8, 8, 8, 8, 8, 8, 8, 8, 8, 8, 8, 8, 8, 8, 8, 8, 8, 8, 8, 8, 8, 8, 8, 8, 8, 8, 8, 8, 8, 8, 8, 8, 8, 8, 8, 8, 8, 8, 8, 8, 8, 8, 8, 8, 8, 8, 8, 8, 8, 8, 8, 8, 8, 8, 8, 8, 8, 8, 8, 8, 8, 8, 8, 8, 8, 8, 8, 8, 8, 8, 8, 8, 8, 8, 8, 8, 8, 8, 8, 8, 8, 8, 8, 8, 8, 8, 8, 8, 8, 8, 8, 8, 8, 8, 8, 8, 8, 8, 8, 8, 8, 8, 8, 8]⟩)) (MO.t 21))⟩, ⟨(some 23), none, (MI.conv .i64 (MO.t 22))⟩, ⟨(some 24), none, (MI.bin .add (MO.t 19) (MO.t 23))⟩, ⟨(some 2), none, (MI.mv (MO.t 24))⟩]) MC.ret)))))⟩
theorem FMc_math_bits_Len64 : compF Go.Proofs.Try.prog (eqsP Go.Proofs.Try.prog) (neutOf []) (neutOf []) 69 = some FM_math_bits_Len64 := by kernel_rfl
def G_math_bits_Len64 : Gam := mkG [] []
theorem sg_math_bits_Len64 : SoundG Go.Proofs.Try.prog 69 (WF G_math_bits_Len64 0 FM_math_bits_Len64) := WF_sound (allD_ok (n := G_math_bits_Len64.n) (l := []) trivial) mixP (mkG_ok (n := []) (g := []) trivial trivial) eqsP_ok FMc_math_bits_Len64
def S_math_bits_Len64 : NSpec := fun args _ K => match args with
  | [(.i .u64 x)] => (U64 x) ∧ K (.i .i64 (lenN x))
  | _ => False
theorem det_math_bits_Len64 : DetN S_math_bits_Len64 := by
  intro args H K h
  unfold S_math_bits_Len64 at h
  split at h
  · exact ⟨_, h.2, fun H' K' _ k => ⟨h.1, k⟩⟩
  · exact h.elim

def NF_math_bits_Len64 (x : Int) (K : AV → Prop) : Prop :=
 (bif decide (4294967296 ≤ x) then (bif decide (65536 ≤ (Int.fdiv x 4294967296)) then (bif decide (256 ≤ (Int.fdiv (Int.fdiv x 4294967296) 65536)) then (bif (decide (0 ≤ (u8.wrap (Int.fdiv (Int.fdiv (Int.fdiv x 4294967296) 65536) 256))) && decide ((u8.wrap (Int.fdiv (Int.fdiv (Int.fdiv x 4294967296) 65536) 256)) < ((256 : Nat) : Int))) then K (.i .i64 (i64.wrap (56 + (i64.wrap (byteAt ⟨#[0, 1, 2, 2, 3, 3, 3, 3, 4, 4, 4, 4, 4, 4, 4, 4, 5, 5, 5, 5, 5, 5, 5, 5, 5, 5, 5, 5, 5, 5, 5, 5, 6, 6, 6, 6, 6, 6, 6, 6, 6, 6, 6, 6, 6, 6, 6, 6, 6, 6, 6, 6, 6, 6, 6, 6, 6, 6, 6, 6, 6, 6, 6, 6, 7, 7, 7, 7, 7, 7, 7, 7, 7, 7, 7, 7, 7, 7, 7, 7, 7, 7, 7, 7, 7, 7, 7, 7, 7, 7, 7, 7, 7, 7, 7, 7, 7, 7, 7, 7, 7, 7, 7, 7, 7, 7, 7, 7, 7, 7, 7, 7, 7, 7, 7, 7, 7, 7, 7, 7, 7, 7, 7, 7, 7, 7, 7, 7, 8, 8, 8, 8, 8, 8, 8, 8, 8, 8, 8, 8, 8, 8, 8, 8, 8, 8, 8, 8, 8, 8, 8, 8, 8, 8, 8, 8, 8, 8, 8, 8, 8, 8, 8, 8, 8, 8, 8, 8, 8, 8, 8, 8, 8, 8, 8, 8, 8, 8, 8, 8, 8, 8, 8, 8, 8, 8, 8, 8, 8, 8, 8, 8, 8, 8, 8, 8, 8, 8, 8, 8, 8, 8, 8, 8, 8, 8, 8, 8, 8, 8, 8, 8, 8, 8, 8, 8, 8, 8, 8, 8, 8, 8, 8, 8, 8, 8, 8, 8, 8, 8, 8, 8, 8, 8, 8, 8, 8, 8, 8, 8, 8, 8, 8, 8, 8, 8, 8, 8, 8, 8, 8, 8, 8, 8, 8, 8]⟩ (Int.toNat (u8.wrap (Int.fdiv (Int.fdiv (Int.fdiv x 4294967296) 65536) 256)))))))) else False)
 else (bif (decide (0 ≤ (u8.wrap (Int.fdiv (Int.fdiv x 4294967296) 65536))) && decide ((u8.wrap (Int.fdiv (Int.fdiv x 4294967296) 65536)) < ((256 : Nat) : Int))) then K (.i .i64 (i64.wrap (48 + (i64.wrap (byteAt ⟨#[0, 1, 2, 2, 3, 3, 3, 3, 4, 4, 4, 4, 4, 4, 4, 4, 5, 5, 5, 5, 5, 5, 5, 5, 5, 5, 5, 5, 5, 5, 5, 5, 6, 6, 6, 6, 6, 6, 6, 6, 6, 6, 6, 6, 6, 6, 6, 6, 6, 6, 6, 6, 6, 6, 6, 6, 6, 6, 6, 6, 6, 6, 6, 6, 7, 7, 7, 7, 7, 7, 7, 7, 7, 7, 7, 7, 7, 7, 7, 7, 7, 7, 7, 7, 7, 7, 7, 7, 7, 7, 7, 7, 7, 7, 7, 7, 7, 7, 7, 7, 7, 7, 7, 7, 7, 7, 7, 7, 7, 7, 7, 7, 7, 7, 7, 7, 7, 7, 7, 7, 7, 7, 7, 7, 7, 7, 7, 7, 8, 8, 8, 8, 8, 8, 8, 8, 8, 8, 8, 8, 8, 8, 8, 8, 8, 8, 8, 8, 8, 8, 8, 8, 8, 8, 8, 8, 8, 8, 8, 8, 8, 8, 8, 8, 8, 8, 8, 8, 8, 8, 8, 8, 8, 8, 8, 8, 8, 8, 8, 8, 8, 8, 8, 8, 8, 8, 8, 8, 8, 8, 8, 8, 8, 8, 8, 8, 8, 8, 8, 8, 8, 8, 8, 8, 8, 8, 8, 8, 8, 8, 8, 8, 8, 8, 8, 8, 8, 8, 8, 8, 8, 8, 8, 8, 8, 8, 8, 8, 8, 8, 8, 8, 8, 8, 8, 8, 8, 8, 8, 8, 8, 8, 8, 8, 8, 8, 8, 8, 8, 8, 8, 8, 8, 8, 8, 8]⟩ (Int.toNat (u8.wrap (Int.fdiv (Int.fdiv x 4294967296) 65536)))))))) else False))
 else (bif decide (256 ≤ (Int.fdiv x 4294967296)) then (bif (decide (0 ≤ (u8.wrap (Int.fdiv (Int.fdiv x 4294967296) 256))) && decide ((u8.wrap (Int.fdiv (Int.fdiv x 4294967296) 256)) < ((256 : Nat) : Int))) then K (.i .i64 (i64.wrap (40 + (i64.wrap (byteAt ⟨#[0, 1, 2, 2, 3, 3, 3, 3, 4, 4, 4, 4, 4, 4, 4, 4, 5, 5, 5, 5, 5, 5, 5, 5, 5, 5, 5, 5, 5, 5, 5, 5, 6, 6, 6, 6, 6, 6, 6, 6, 6, 6, 6, 6, 6, 6, 6, 6, 6, 6, 6, 6, 6, 6, 6, 6, 6, 6, 6, 6, 6, 6, 6, 6, 7, 7, 7, 7, 7, 7, 7, 7, 7, 7, 7, 7, 7, 7, 7, 7, 7, 7, 7, 7, 7, 7, 7, 7, 7, 7, 7, 7, 7, 7, 7, 7, 7, 7, 7, 7, 7, 7, 7, 7, 7, 7, 7, 7, 7, 7, 7, 7, 7, 7, 7, 7, 7, 7, 7, 7, 7, 7, 7, 7, 7, 7, 7, 7, 8, 8, 8, 8, 8, 8, 8, 8, 8, 8, 8, 8, 8, 8, 8, 8, 8, 8, 8, 8, 8, 8, 8, 8, 8, 8, 8, 8, 8, 8, 8, 8, 8, 8, 8, 8, 8, 8, 8, 8, 8, 8, 8, 8, 8, 8, 8, 8, 8, 8, 8, 8, 8, 8, 8, 8, 8, 8, 8, 8, 8, 8, 8, 8, 8, 8, 8, 8, 8, 8, 8, 8, 8, 8, 8, 8, 8, 8, 8, 8, 8, 8, 8, 8, 8, 8, 8, 8, 8, 8, 8, 8, 8, 8, 8, 8, 8, 8, 8, 8, 8, 8, 8, 8, 8, 8, 8, 8, 8, 8, 8, 8, 8, 8, 8, 8, 8, 8, 8, 8, 8, 8, 8, 8, 8, 8, 8, 8]⟩ (Int.toNat (u8.wrap (Int.fdiv (Int.fdiv x 4294967296) 256)))))))) else False)
 else (bif (decide (0 ≤ (u8.wrap (Int.fdiv x 4294967296))) && decide ((u8.wrap (Int.fdiv x 4294967296)) < ((256 : Nat) : Int))) then K (.i .i64 (i64.wrap (32 + (i64.wrap (byteAt ⟨#[0, 1, 2, 2, 3, 3, 3, 3, 4, 4, 4, 4, 4, 4, 4, 4, 5, 5, 5, 5, 5, 5, 5, 5, 5, 5, 5, 5, 5, 5, 5, 5, 6, 6, 6, 6, 6, 6, 6, 6, 6, 6, 6, 6, 6, 6, 6, 6, 6, 6, 6, 6, 6, 6, 6, 6, 6, 6, 6, 6, 6, 6, 6, 6, 7, 7, 7, 7, 7, 7, 7, 7, 7, 7, 7, 7, 7, 7, 7, 7, 7, 7, 7, 7, 7, 7, 7, 7, 7, 7, 7, 7, 7, 7, 7, 7, 7, 7, 7, 7, 7, 7, 7, 7, 7, 7, 7, 7, 7, 7, 7, 7, 7, 7, 7, 7, 7, 7, 7, 7, 7, 7, 7, 7, 7, 7, 7, 7, 8, 8, 8, 8, 8, 8, 8, 8, 8, 8, 8, 8, 8, 8, 8, 8, 8, 8, 8, 8, 8, 8, 8, 8, 8, 8, 8, 8, 8, 8, 8, 8, 8, 8, 8, 8, 8, 8, 8, 8, 8, 8, 8, 8, 8, 8, 8, 8, 8, 8, 8, 8, 8, 8, 8, 8, 8, 8, 8, 8, 8, 8, 8, 8, 8, 8, 8, 8, 8, 8, 8, 8, 8, 8, 8, 8, 8, 8, 8, 8, 8, 8, 8, 8, 8, 8, 8, 8, 8, 8, 8, 8, 8, 8, 8, 8, 8, 8, 8, 8, 8, 8, 8, 8, 8, 8, 8, 8, 8, 8, 8, 8, 8, 8, 8, 8, 8, 8, 8, 8, 8, 8, 8, 8, 8, 8, 8, 8]⟩ (Int.toNat (u8.wrap (Int.fdiv x 4294967296)))))))) else False)))
 else (bif decide (65536 ≤ x) then (bif decide (256 ≤ (Int.fdiv x 65536)) then (bif (decide (0 ≤ (u8.wrap (Int.fdiv (Int.fdiv x 65536) 256))) && decide ((u8.wrap (Int.fdiv (Int.fdiv x 65536) 256)) < ((256 : Nat) : Int))) then K (.i .i64 (i64.wrap (24 + (i64.wrap (byteAt ⟨#[0, 1, 2, 2, 3, 3, 3, 3, 4, 4, 4, 4, 4, 4, 4, 4, 5, 5, 5, 5, 5, 5, 5, 5, 5, 5, 5, 5, 5, 5, 5, 5, 6, 6, 6, 6, 6, 6, 6, 6, 6, 6, 6, 6, 6, 6, 6, 6, 6, 6, 6, 6, 6, 6, 6, 6, 6, 6, 6, 6, 6, 6, 6, 6, 7, 7, 7, 7, 7, 7, 7, 7, 7, 7, 7, 7, 7, 7, 7, 7, 7, 7, 7, 7, 7, 7, 7, 7, 7, 7, 7, 7, 7, 7, 7, 7, 7, 7, 7, 7, 7, 7, 7, 7, 7, 7, 7, 7, 7, 7, 7, 7, 7, 7, 7, 7, 7, 7, 7, 7, 7, 7, 7, 7, 7, 7, 7, 7, 8, 8, 8, 8, 8, 8, 8, 8, 8, 8, 8, 8, 8, 8, 8, 8, 8, 8, 8, 8, 8, 8, 8, 8, 8, 8, 8, 8, 8, 8, 8, 8, 8, 8, 8, 8, 8, 8, 8, 8, 8, 8, 8, 8, 8, 8, 8, 8, 8, 8, 8, 8, 8, 8, 8, 8, 8, 8, 8, 8, 8, 8, 8, 8, 8, 8, 8, 8, 8, 8, 8, 8, 8, 8, 8, 8, 8, 8, 8, 8, 8, 8, 8, 8, 8, 8, 8, 8, 8, 8, 8, 8, 8, 8, 8, 8, 8, 8, 8, 8, 8, 8, 8, 8, 8, 8, 8, 8, 8, 8, 8, 8, 8, 8, 8, 8, 8, 8, 8, 8, 8, 8, 8, 8, 8, 8, 8, 8]⟩ (Int.toNat (u8.wrap (Int.fdiv (Int.fdiv x 65536) 256)))))))) else False)
 else (bif (decide (0 ≤ (u8.wrap (Int.fdiv x 65536))) && decide ((u8.wrap (Int.fdiv x 65536)) < ((256 : Nat) : Int))) then K (.i .i64 (i64.wrap (16 + (i64.wrap (byteAt ⟨#[0, 1, 2, 2, 3, 3, 3, 3, 4, 4, 4, 4, 4, 4, 4, 4, 5, 5, 5, 5, 5, 5, 5, 5, 5, 5, 5, 5, 5, 5, 5, 5, 6, 6, 6, 6, 6, 6, 6, 6, 6, 6, 6, 6, 6, 6, 6, 6, 6, 6, 6, 6, 6, 6, 6, 6, 6, 6, 6, 6, 6, 6, 6, 6, 7, 7, 7, 7, 7, 7, 7, 7, 7, 7, 7, 7, 7, 7, 7, 7, 7, 7, 7, 7, 7, 7, 7, 7, 7, 7, 7, 7, 7, 7, 7, 7, 7, 7, 7, 7, 7, 7, 7, 7, 7, 7, 7, 7, 7, 7, 7, 7, 7, 7, 7, 7, 7, 7, 7, 7, 7, 7, 7, 7, 7, 7, 7, 7, 8, 8, 8, 8, 8, 8, 8, 8, 8, 8, 8, 8, 8, 8, 8, 8, 8, 8, 8, 8, 8, 8, 8, 8, 8, 8, 8, 8, 8, 8, 8, 8, 8, 8, 8, 8, 8, 8, 8, 8, 8, 8, 8, 8, 8, 8, 8, 8, 8, 8, 8, 8, 8, 8, 8, 8, 8, 8, 8, 8, 8, 8, 8, 8, 8, 8, 8, 8, 8, 8, 8, 8, 8, 8, 8, 8, 8, 8, 8, 8, 8, 8, 8, 8, 8, 8, 8, 8, 8, 8, 8, 8, 8, 8, 8, 8, 8, 8, 8, 8, 8, 8, 8, 8, 8, 8, 8, 8, 8, 8, 8, 8, 8, 8, 8, 8, 8, 8, 8, 8, 8, 8, 8, 8, 8, 8, 8, 8]⟩ (Int.toNat (u8.wrap (Int.fdiv x 65536)))))))) else False))
 else (bif decide (256 ≤ x) then (bif (decide (0 ≤ (u8.wrap (Int.fdiv x 256))) && decide ((u8.wrap (Int.fdiv x 256)) < ((256 : Nat) : Int))) then K (.i .i64 (i64.wrap (8 + (i64.wrap (byteAt ⟨#[0, 1, 2, 2, 3, 3, 3, 3, 4, 4, 4, 4, 4, 4, 4, 4, 5, 5, 5, 5, 5, 5, 5, 5, 5, 5, 5, 5, 5, 5, 5, 5, 6, 6, 6, 6, 6, 6, 6, 6, 6, 6, 6, 6, 6, 6, 6, 6, 6, 6, 6, 6, 6, 6, 6, 6, 6, 6, 6, 6, 6, 6, 6, 6, 7, 7, 7, 7, 7, 7, 7, 7, 7, 7, 7, 7, 7, 7, 7, 7, 7, 7, 7, 7, 7, 7, 7, 7, 7, 7, 7, 7, 7, 7, 7, 7, 7, 7, 7, 7, 7, 7, 7, 7, 7, 7, 7, 7, 7, 7, 7, 7, 7, 7, 7, 7, 7, 7, 7, 7, 7, 7, 7, 7, 7, 7, 7, 7, 8, 8, 8, 8, 8, 8, 8, 8, 8, 8, 8, 8, 8, 8, 8, 8, 8, 8, 8, 8, 8, 8, 8, 8, 8, 8, 8, 8, 8, 8, 8, 8, 8, 8, 8, 8, 8, 8, 8, 8, 8, 8, 8, 8, 8, 8, 8, 8, 8, 8, 8, 8, 8, 8, 8, 8, 8, 8, 8, 8, 8, 8, 8, 8, 8, 8, 8, 8, 8, 8, 8, 8, 8, 8, 8, 8, 8, 8, 8, 8, 8, 8, 8, 8, 8, 8, 8, 8, 8, 8, 8, 8, 8, 8, 8, 8, 8, 8, 8, 8, 8, 8, 8, 8, 8, 8, 8, 8, 8, 8, 8, 8, 8, 8, 8, 8, 8, 8, 8, 8, 8, 8, 8, 8, 8, 8, 8, 8]⟩ (Int.toNat (u8.wrap (Int.fdiv x 256)))))))) else False)
 else (bif (decide (0 ≤ (u8.wrap x)) && decide ((u8.wrap x) < ((256 : Nat) : Int))) then K (.i .i64 (i64.wrap (0 + (i64.wrap (byteAt ⟨#[0, 1, 2, 2, 3, 3, 3, 3, 4, 4, 4, 4, 4, 4, 4, 4, 5, 5, 5, 5, 5, 5, 5, 5, 5, 5, 5, 5, 5, 5, 5, 5, 6, 6, 6, 6, 6, 6, 6, 6, 6, 6, 6, 6, 6, 6, 6, 6, 6, 6, 6, 6, 6, 6, 6, 6, 6, 6, 6, 6, 6, 6, 6, 6, 7, 7, 7, 7, 7, 7, 7, 7, 7, 7, 7, 7, 7, 7, 7, 7, 7, 7, 7, 7, 7, 7, 7, 7, 7, 7, 7, 7, 7, 7, 7, 7, 7, 7, 7, 7, 7, 7, 7, 7, 7, 7, 7, 7, 7, 7, 7, 7, 7, 7, 7, 7, 7, 7, 7, 7, 7, 7, 7, 7, 7, 7, 7, 7, 8, 8, 8, 8, 8, 8, 8, 8, 8, 8, 8, 8, 8, 8, 8, 8, 8, 8, 8, 8, 8, 8, 8, 8, 8, 8, 8, 8, 8, 8, 8, 8, 8, 8, 8, 8, 8, 8, 8, 8, 8, 8, 8, 8, 8, 8, 8, 8, 8, 8, 8, 8, 8, 8, 8, 8, 8, 8, 8, 8, 8, 8, 8, 8, 8, 8, 8, 8, 8, 8, 8, 8, 8, 8, 8, 8, 8, 8, 8, 8, 8, 8, 8, 8, 8, 8, 8, 8, 8, 8, 8, 8, 8, 8, 8, 8, 8, 8, 8, 8, 8, 8, 8, 8, 8, 8, 8, 8, 8, 8, 8, 8, 8, 8, 8, 8, 8, 8, 8, 8, 8, 8, 8, 8, 8, 8, 8, 8]⟩ (Int.toNat (u8.wrap x))))))) else False))))
theorem nf_math_bits_Len64 (x : Int) (K : AV → Prop) : WF G_math_bits_Len64 0 FM_math_bits_Len64 [(.i .u64 x)] [] (fun a _ => K a) = NF_math_bits_Len64 x K := by kernel_rfl
theorem key_math_bits_Len64 (x : Int) {K : AV → Prop} (hp : U64 x) (hk : K (.i .i64 (lenN x))) : NF_math_bits_Len64 x K := by
  unfold NF_math_bits_Len64
  obtain ⟨h1, h2⟩ := hp
  have leaf : ∀ (c v : Int), 0 ≤ v → v < 256 → 0 ≤ c → c ≤ 56 → c + len8 v = lenN x → (bif (decide (0 ≤ u8.wrap v) && decide (u8.wrap v < ((256 : Nat) : Int))) then K (.i .i64 (i64.wrap (c + i64.wrap (byteAt lenTab (Int.toNat (u8.wrap v)))))) else False) := by
    intro c v a b c0 c1 e
    obtain ⟨e1, e2, e3⟩ := len8_i64 v a b
    rw [e1, u8_wrap a b]
    refine bif_i (fun _ => K_of hk ?_) (fun h => by simp at h; omega)
    rw [wrap_i64 (by omega) (by omega), e]
  simp only [fdiv_pos (x := x) (d := 4294967296) (by omega), fdiv_pos (d := 65536) (by omega), fdiv_pos (d := 256) (by omega)]
  refine bif_i (fun a => bif_i (fun b => bif_i (fun c => ?_) (fun c => ?_)) (fun b => bif_i (fun c => ?_) (fun c => ?_))) (fun a => bif_i (fun b => bif_i (fun c => ?_) (fun c => ?_)) (fun b => bif_i (fun c => ?_) (fun c => ?_)))
  all_goals
    simp only [decide_eq_true_eq, decide_eq_false_iff_not] at a b c
    refine leaf _ _ (by omega) (by omega) (by omega) (by omega) ?_
    simp only [lenN, a, b, c, if_true, if_false]
  omega
theorem ok_math_bits_Len64 : SoundN Go.Proofs.Try.prog 69 S_math_bits_Len64 := by
  refine soundN_of sg_math_bits_Len64 fun args H K hS => ?_
  unfold S_math_bits_Len64 at hS
  split at hS
  · rename_i x
    have hS1 := key_math_bits_Len64 x (K := fun a => plainA a = true ∧ K a) hS.1 ⟨by simp [plainA, plainL], hS.2⟩
    refine ⟨by simp [plainA, plainL], ?_⟩
    rw [nf_math_bits_Len64 x fun a => plainA a = true ∧ K a]
    exact hS1
  · exact hS.elim

def FM_math_bits_LeadingZeros64 : FM := ⟨6, [(RV.tmp 2)], (MC.seq (MC.ops [⟨(some 2), none, (MI.mv (MO.c (AV.i .i64 0)))⟩]) (MC.seq (MC.ops [⟨(some 3), none, (MI.mv (MO.t 0))⟩, ⟨(some 4), none, (MI.callN 69 [(MO.t 3)])⟩, ⟨(some 5), none, (MI.bin .sub (MO.c (AV.i .i64 64)) (MO.t 4))⟩, ⟨(some 2), none, (MI.mv (MO.t 5))⟩]) MC.ret))⟩
theorem FMc_math_bits_LeadingZeros64 : compF Go.Proofs.Try.prog (eqsP Go.Proofs.Try.prog) (neutOf [69]) (neutOf [69]) 66 = some FM_math_bits_LeadingZeros64 := by kernel_rfl
def G_math_bits_LeadingZeros64 : Gam := mkG [(69, S_math_bits_Len64)] []
theorem sg_math_bits_LeadingZeros64 : SoundG Go.Proofs.Try.prog 66 (WF G_math_bits_LeadingZeros64 0 FM_math_bits_LeadingZeros64) := WF_sound (allD_ok (n := G_math_bits_LeadingZeros64.n) (l := [69]) ⟨det_math_bits_Len64, trivial⟩) mixP (mkG_ok (n := [(69, S_math_bits_Len64)]) (g := []) ⟨ok_math_bits_Len64, trivial⟩ trivial) eqsP_ok FMc_math_bits_LeadingZeros64
def S_math_bits_LeadingZeros64 : NSpec := fun args _ K => match args with
  | [(.i .u64 x)] => (U64 x ∧ 0 < x) ∧ K (.i .i64 (64 - lenN x))
  | _ => False
theorem det_math_bits_LeadingZeros64 : DetN S_math_bits_LeadingZeros64 := by
  intro args H K h
  unfold S_math_bits_LeadingZeros64 at h
  split at h
  · exact ⟨_, h.2, fun H' K' _ k => ⟨h.1, k⟩⟩
  · exact h.elim

def NF_math_bits_LeadingZeros64 (x : Int) (K : AV → Prop) : Prop :=
 ((U64 x) ∧
 K (.i .i64 (i64.wrap (64 - (lenN x)))))
theorem nf_math_bits_LeadingZeros64 (x : Int) (K : AV → Prop) : WF G_math_bits_LeadingZeros64 0 FM_math_bits_LeadingZeros64 [(.i .u64 x)] [] (fun a _ => K a) = NF_math_bits_LeadingZeros64 x K := by kernel_rfl
theorem key_math_bits_LeadingZeros64 (x : Int) {K : AV → Prop} (hp : U64 x ∧ 0 < x) (hk : K (.i .i64 (64 - lenN x))) : NF_math_bits_LeadingZeros64 x K := by
  refine ⟨hp.1, ?_⟩
  have := lenN_top hp.2 hp.1.2
  rw [wrap_i64 (by omega) (by omega)]
  exact hk
theorem ok_math_bits_LeadingZeros64 : SoundN Go.Proofs.Try.prog 66 S_math_bits_LeadingZeros64 := by
  refine soundN_of sg_math_bits_LeadingZeros64 fun args H K hS => ?_
  unfold S_math_bits_LeadingZeros64 at hS
  split at hS
  · rename_i x
    have hS1 := key_math_bits_LeadingZeros64 x (K := fun a => plainA a = true ∧ K a) hS.1 ⟨by simp [plainA, plainL], hS.2⟩
    refine ⟨by simp [plainA, plainL], ?_⟩
    rw [nf_math_bits_LeadingZeros64 x fun a => plainA a = true ∧ K a]
    exact hS1
  · exact hS.elim

end Go.Proofs.Ytpfmnmcpffajeaa.V
