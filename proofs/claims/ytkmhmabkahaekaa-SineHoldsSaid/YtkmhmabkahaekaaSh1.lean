/-
  Contracts, printed by a program of this session (wip/tool/sym.py) from the unit text sh1: what each function comes to, and its proof.
-/
import Derived.Test.YtkmhmabkahaekaaSri
import Derived.Test.YtkmhmabkahaekaaProg
import Derived.Test.YtkmhmabkahaekaaZa
import Derived.Test.YtkmhmabkahaekaaVo
set_option linter.unusedVariables false
set_option linter.unusedSimpArgs false
set_option maxRecDepth 100000
namespace Go.Proofs.Ytkmhmabkahaekaa.V
open Go Go.RowKit
open Go.IntKind (u64 i64 u8 i32 u32)


/-! ### What is enclosed -/
def inS (lo hi n d : Int) : Prop := lo * d ≤ n * 1000000 ∧ n * 1000000 ≤ hi * d
instance (lo hi n d : Int) : Decidable (inS lo hi n d) := by unfold inS; infer_instance
theorem le_of_mulR {a b D : Rat} (hD : 0 < D) (h : a * D ≤ b * D) : a ≤ b := by
  apply Classical.byContradiction
  intro hn
  have : 0 < (a - b) * D := Rat.mul_pos (by grind) hD
  grind
theorem rat_mul_den {n d : Int} (hd : 0 < d) : rat n d * (d : Rat) = (n : Rat) := by
  unfold rat
  have : (d : Rat) ≠ 0 := by exact_mod_cast (show d ≠ 0 by omega)
  grind
theorem inS_rat {lo hi n d : Int} (hd : 0 < d) : inS lo hi n d ↔ ((lo : Rat) ≤ 1000000 * rat n d ∧ 1000000 * rat n d ≤ (hi : Rat)) := by
  have e := rat_mul_den (n := n) hd
  have hD : (0 : Rat) < (d : Rat) := by exact_mod_cast hd
  unfold inS
  constructor
  · rintro ⟨h1, h2⟩
    have h1 : ((lo * d : Int) : Rat) ≤ ((n * 1000000 : Int) : Rat) := Rat.intCast_le_intCast.2 h1
    have h2 : ((n * 1000000 : Int) : Rat) ≤ ((hi * d : Int) : Rat) := Rat.intCast_le_intCast.2 h2
    push_cast at h1 h2
    rw [← e] at h1 h2
    exact ⟨le_of_mulR hD (by grind), le_of_mulR hD (by grind)⟩
  · rintro ⟨h1, h2⟩
    have k1 : 0 ≤ (1000000 * rat n d - (lo : Rat)) * (d : Rat) := Rat.mul_nonneg (by grind) (by grind)
    have k2 : 0 ≤ ((hi : Rat) - 1000000 * rat n d) * (d : Rat) := Rat.mul_nonneg (by grind) (by grind)
    have g1 : ((lo * d : Int) : Rat) ≤ ((n * 1000000 : Int) : Rat) := by push_cast; rw [← e]; grind
    have g2 : ((n * 1000000 : Int) : Rat) ≤ ((hi * d : Int) : Rat) := by push_cast; rw [← e]; grind
    exact ⟨Rat.intCast_le_intCast.1 g1, Rat.intCast_le_intCast.1 g2⟩
theorem ofRat_ok {q : Rat} (h : (ofRat q).e = 0) : rat (ofRat q).n (ofRat q).d = q ∧ okF (ofRat q).n (ofRat q).d := by
  by_cases hr : inR q.num q.den
  · have e : ofRat q = ⟨q.num, q.den, 0⟩ := by unfold ofRat; rw [if_pos hr]
    rw [e]
    refine ⟨rat_num_den q, ⟨?_, ?_⟩⟩
    · obtain ⟨h1, h2, h3⟩ := hr
      have := q.den_nz
      simp only
      omega
    · simpa [Int.gcd] using q.reduced
  · have e : ofRat q = ⟨0, 0, 16⟩ := by unfold ofRat; rw [if_neg hr]
    rw [e] at h; simp at h
theorem mkS_ok {lo hi : Int} (h : (mkS lo hi).e = 0) : mkS lo hi = ⟨lo, hi, 0⟩ ∧ spanOk lo hi := by
  unfold mkS at h ⊢
  by_cases k : spanOk lo hi
  · rw [if_pos k]; exact ⟨rfl, k⟩
  · rw [if_neg k] at h; simp at h
theorem holds_add {a b c d n m p q : Int} (h1 : spanOk a b) (h2 : spanOk c d) (f1 : okF n m) (f2 : okF p q) (i1 : inS a b n m) (i2 : inS c d p q) (hs : (sAdd a b c d).e = 0) (hx : (addF n m p q).e = 0) :
    spanOk (sAdd a b c d).lo (sAdd a b c d).hi ∧ okF (addF n m p q).n (addF n m p q).d ∧ inS (sAdd a b c d).lo (sAdd a b c d).hi (addF n m p q).n (addF n m p q).d := by
  have e1 : sAdd a b c d = mkS (a + c) (b + d) := by unfold sAdd; rw [if_pos ⟨h1, h2⟩]
  have e2 : addF n m p q = ofRat (rat n m + rat p q) := by unfold addF; rw [if_pos ⟨f1, f2⟩]
  rw [e1] at hs ⊢
  rw [e2] at hx ⊢
  obtain ⟨k1, k2⟩ := mkS_ok hs
  obtain ⟨r1, r2⟩ := ofRat_ok hx
  rw [k1]
  refine ⟨k2, r2, ?_⟩
  obtain ⟨⟨m1, _⟩, _⟩ := id f1
  obtain ⟨⟨q1, _⟩, _⟩ := id f2
  obtain ⟨⟨x1, _⟩, _⟩ := id r2
  rw [inS_rat (by omega)] at i1 i2 ⊢
  rw [r1]
  push_cast
  grind
theorem holds_sub {a b c d n m p q : Int} (h1 : spanOk a b) (h2 : spanOk c d) (f1 : okF n m) (f2 : okF p q) (i1 : inS a b n m) (i2 : inS c d p q) (hs : (sSub a b c d).e = 0) (hx : (subF n m p q).e = 0) :
    spanOk (sSub a b c d).lo (sSub a b c d).hi ∧ okF (subF n m p q).n (subF n m p q).d ∧ inS (sSub a b c d).lo (sSub a b c d).hi (subF n m p q).n (subF n m p q).d := by
  have e1 : sSub a b c d = mkS (a - d) (b - c) := by unfold sSub; rw [if_pos ⟨h1, h2⟩]
  have e2 : subF n m p q = ofRat (rat n m - rat p q) := by unfold subF; rw [if_pos ⟨f1, f2⟩]
  rw [e1] at hs ⊢
  rw [e2] at hx ⊢
  obtain ⟨k1, k2⟩ := mkS_ok hs
  obtain ⟨r1, r2⟩ := ofRat_ok hx
  rw [k1]
  refine ⟨k2, r2, ?_⟩
  obtain ⟨⟨m1, _⟩, _⟩ := id f1
  obtain ⟨⟨q1, _⟩, _⟩ := id f2
  obtain ⟨⟨x1, _⟩, _⟩ := id r2
  rw [inS_rat (by omega)] at i1 i2 ⊢
  rw [r1]
  push_cast
  grind
theorem holds_mul {a b c d n m p q : Int} (h1 : spanOk a b) (h2 : spanOk c d) (f1 : okF n m) (f2 : okF p q) (i1 : inS a b n m) (i2 : inS c d p q) (hs : (sMul a b c d).e = 0) (hx : (mulF n m p q).e = 0) :
    spanOk (sMul a b c d).lo (sMul a b c d).hi ∧ okF (mulF n m p q).n (mulF n m p q).d ∧ inS (sMul a b c d).lo (sMul a b c d).hi (mulF n m p q).n (mulF n m p q).d := by
  have e1 : sMul a b c d = mkS (mn4 (a * c) (a * d) (b * c) (b * d) / 1000000) (-((-mx4 (a * c) (a * d) (b * c) (b * d)) / 1000000)) := by unfold sMul; rw [if_pos ⟨h1, h2⟩]
  have e2 : mulF n m p q = ofRat (rat n m * rat p q) := by unfold mulF; rw [if_pos ⟨f1, f2⟩]
  rw [e1] at hs ⊢
  rw [e2] at hx ⊢
  obtain ⟨k1, k2⟩ := mkS_ok hs
  obtain ⟨r1, r2⟩ := ofRat_ok hx
  rw [k1]
  refine ⟨k2, r2, ?_⟩
  obtain ⟨⟨m1, _⟩, _⟩ := id f1
  obtain ⟨⟨q1, _⟩, _⟩ := id f2
  obtain ⟨⟨x1, _⟩, _⟩ := id r2
  have hm := mn4_mem (a * c) (a * d) (b * c) (b * d)
  have hx := mx4_mem (a * c) (a * d) (b * c) (b * d)
  rw [inS_rat (by omega)] at i1 i2 ⊢
  rw [r1]
  simp only
  have l : ∀ {M P : Int}, M ≤ P → ((M / 1000000 : Int) : Rat) * 1000000 ≤ ((P : Int) : Rat) := by
    intro M P h
    have : M / 1000000 * 1000000 ≤ P := by omega
    have := Rat.intCast_le_intCast.2 this
    rw [Rat.intCast_mul] at this
    exact this
  have u : ∀ {M P : Int}, P ≤ M → ((P : Int) : Rat) ≤ ((-(-M / 1000000) : Int) : Rat) * 1000000 := by
    intro M P h
    have : P ≤ -(-M / 1000000) * 1000000 := by omega
    have := Rat.intCast_le_intCast.2 this
    rw [Rat.intCast_mul] at this
    exact this
  have l1 := l hm.2.1
  have l2 := l hm.2.2.1
  have l3 := l hm.2.2.2.1
  have l4 := l hm.2.2.2.2
  have u1 := u hx.2.1
  have u2 := u hx.2.2.1
  have u3 := u hx.2.2.2.1
  have u4 := u hx.2.2.2.2
  rw [Rat.intCast_mul] at l1 l2 l3 l4 u1 u2 u3 u4
  have b1 := Zz.box_lo i1 i2 l1 l2 l3 l4
  have b2 := Zz.box_hi i1 i2 u1 u2 u3 u4
  constructor <;> grind
/-- What the enclosure of a fraction is. -/
theorem sOf_ok {n d : Int} (f : okF n d) : ((sOf n d).e = 0 ∧ spanOk (sOf n d).lo (sOf n d).hi ∧ inS (sOf n d).lo (sOf n d).hi n d ∧ (sOf n d).hi - (sOf n d).lo ≤ 1 ∧ (sOf n d).lo ≤ (sOf n d).hi ∧ ((sOf n d).lo < (sOf n d).hi → ¬ inS (sOf n d).lo (sOf n d).lo n d ∧ ¬ inS (sOf n d).hi (sOf n d).hi n d)) ∨ (sOf n d).e = 16 := by
  obtain ⟨⟨h1, h2, h3, h4⟩, _⟩ := id f
  have e := Int.mul_ediv_add_emod (n * 1000000) d
  have r0 := Int.emod_nonneg (n * 1000000) (b := d) (by omega)
  have r1 := Int.emod_lt_of_pos (n * 1000000) (show 0 < d by omega)
  rw [Int.mul_comm d] at e
  unfold sOf
  rw [if_pos f]
  split
  · split
    · rename_i hz
      by_cases k : (mkS (n * 1000000 / d) (n * 1000000 / d)).e = 0
      · obtain ⟨k1, k2⟩ := mkS_ok k
        rw [k1]
        refine .inl ⟨rfl, k2, ⟨by simp only; omega, by simp only; omega⟩, by simp only; omega, by simp only; omega, fun h => by simp at h⟩
      · right
        unfold mkS at k ⊢
        split <;> simp_all
    · rename_i hz
      by_cases k : (mkS (n * 1000000 / d) (n * 1000000 / d + 1)).e = 0
      · obtain ⟨k1, k2⟩ := mkS_ok k
        rw [k1]
        refine .inl ⟨rfl, k2, ⟨by simp only; omega, by simp only; rw [Int.add_mul]; omega⟩, by simp only; omega, by simp only; omega, fun _ => ⟨fun h => ?_, fun h => ?_⟩⟩
        · obtain ⟨_, h⟩ := h; simp only at h; omega
        · obtain ⟨h, _⟩ := h; simp only at h; rw [Int.add_mul] at h; omega
      · right
        unfold mkS at k ⊢
        split <;> simp_all
  · right; rfl
theorem sHas_v {lo hi n d : Int} (h : spanOk lo hi) (f : okF n d) : sHas lo hi n d = ⟨decide (inS lo hi n d), 0⟩ := by
  unfold sHas inS; rw [if_pos ⟨h, f⟩]
theorem stepH_ok {e1 e2 : Int} {pre go bad : Prop} {v : Bool} (h : e1 = 0 → e2 = 0 → pre ∧ v = true) (g : go) : bif (e1 != 0) then go else (bif (e2 != 0) then go else (pre ∧ bif v then go else bad)) := by
  refine bif_i (fun _ => g) (fun x => bif_i (fun _ => g) (fun y => ?_))
  obtain ⟨p, q⟩ := h (by simpa using x) (by simpa using y)
  exact ⟨p, bif_t q g⟩

def FM_law05_SineHolds : FM := ⟨181, [(RV.tmp 8)], (MC.seq (MC.ops [⟨(some 4), none, (MI.box 23 (MO.t 0))⟩, ⟨(some 5), none, (MI.box 23 (MO.t 1))⟩, ⟨(some 6), none, (MI.box 45 (MO.t 2))⟩, ⟨(some 7), none, (MI.box 45 (MO.t 3))⟩, ⟨(some 8), none, (MI.mv (MO.c (AV.b false)))⟩]) (MC.seq (MC.seq (MC.ops [⟨(some 25), none, (MI.loadn 2 (MO.t 4))⟩, ⟨(some 26), none, (MI.callN 36 [(MO.t 25)])⟩, ⟨(some 27), none, (MI.un .not (MO.t 26))⟩, ⟨(some 28), none, (MI.mv (MO.t 27))⟩, ⟨(some 29), (some (28, false)), (MI.loadn 2 (MO.t 5))⟩, ⟨(some 30), (some (28, false)), (MI.callN 36 [(MO.t 29)])⟩, ⟨(some 31), (some (28, false)), (MI.un .not (MO.t 30))⟩, ⟨(some 32), none, (MI.pick (MO.t 28) (MO.c (AV.b true)) (MO.t 31))⟩, ⟨(some 33), none, (MI.mv (MO.t 32))⟩, ⟨(some 34), (some (33, false)), (MI.loadn 2 (MO.t 6))⟩, ⟨(some 35), (some (33, false)), (MI.loadn 2 (MO.t 7))⟩, ⟨(some 36), (some (33, false)), (MI.callN 37 [(MO.t 34), (MO.t 35)])⟩, ⟨(some 37), (some (33, false)), (MI.bin .neq (MO.t 36) (MO.c (AV.i .i64 0)))⟩, ⟨(some 38), none, (MI.pick (MO.t 33) (MO.c (AV.b true)) (MO.t 37))⟩]) (MC.cond (MO.t 38) (MC.seq (MC.ops [⟨(some 39), none, (MI.callN 18 [])⟩, ⟨(some 8), none, (MI.mv (MO.t 39))⟩]) MC.ret) MC.skip)) (MC.seq (MC.ops [⟨(some 41), none, (MI.loadn 2 (MO.t 6))⟩, ⟨(some 42), none, (MI.callN 27 [(MO.t 41)])⟩, ⟨(some 40), none, (MI.mv (MO.t 42))⟩, ⟨(some 43), none, (MI.ext (MO.t 40) 0)⟩, ⟨(some 44), none, (MI.ext (MO.t 40) 1)⟩, ⟨(some 9), none, (MI.alloc 23 [(AV.i .i64 0), (AV.i .i64 0)])⟩, ⟨none, none, (MI.store 2 (MO.t 9) (MO.t 43))⟩, ⟨(some 10), none, (MI.mv (MO.t 44))⟩]) (MC.seq (MC.seq (MC.ops [⟨(some 45), none, (MI.mv (MO.t 10))⟩, ⟨(some 46), none, (MI.bin .eql (MO.t 45) (MO.c (AV.i .i64 0)))⟩]) (MC.cond (MO.t 46) (MC.seq (MC.ops [⟨(some 48), none, (MI.loadn 2 (MO.t 9))⟩, ⟨(some 49), none, (MI.loadn 2 (MO.t 6))⟩, ⟨(some 50), none, (MI.callN 29 [(MO.t 48), (MO.t 49)])⟩, ⟨(some 47), none, (MI.mv (MO.t 50))⟩, ⟨(some 51), none, (MI.ext (MO.t 47) 0)⟩, ⟨(some 52), none, (MI.ext (MO.t 47) 1)⟩, ⟨(some 11), none, (MI.mv (MO.t 51))⟩, ⟨(some 12), none, (MI.mv (MO.t 52))⟩]) (MC.seq (MC.ops [⟨(some 53), none, (MI.mv (MO.t 12))⟩, ⟨(some 54), none, (MI.bin .neq (MO.t 53) (MO.c (AV.i .i64 0)))⟩, ⟨(some 55), none, (MI.mv (MO.t 54))⟩, ⟨(some 56), (some (55, false)), (MI.mv (MO.t 11))⟩, ⟨(some 57), (some (55, false)), (MI.un .not (MO.t 56))⟩, ⟨(some 58), none, (MI.pick (MO.t 55) (MO.c (AV.b true)) (MO.t 57))⟩, ⟨(some 59), none, (MI.mv (MO.t 58))⟩, ⟨(some 60), (some (59, false)), (MI.faddr 1 (MO.t 9))⟩, ⟨(some 61), (some (59, false)), (MI.load (MO.t 60))⟩, ⟨(some 62), (some (59, false)), (MI.faddr 0 (MO.t 9))⟩, ⟨(some 63), (some (59, false)), (MI.load (MO.t 62))⟩, ⟨(some 64), (some (59, false)), (MI.bin .sub (MO.t 61) (MO.t 63))⟩, ⟨(some 65), (some (59, false)), (MI.bin .gtr (MO.t 64) (MO.c (AV.i .i64 1)))⟩, ⟨(some 66), none, (MI.pick (MO.t 59) (MO.c (AV.b true)) (MO.t 65))⟩, ⟨(some 67), none, (MI.mv (MO.t 66))⟩, ⟨(some 68), (some (67, false)), (MI.faddr 1 (MO.t 9))⟩, ⟨(some 69), (some (67, false)), (MI.load (MO.t 68))⟩, ⟨(some 70), (some (67, false)), (MI.faddr 0 (MO.t 9))⟩, ⟨(some 71), (some (67, false)), (MI.load (MO.t 70))⟩, ⟨(some 72), (some (67, false)), (MI.bin .gtr (MO.t 69) (MO.t 71))⟩, ⟨(some 73), (some (67, false)), (MI.mv (MO.t 72))⟩, ⟨(some 74), (some (73, true)), (MI.faddr 0 (MO.t 9))⟩, ⟨(some 75), (some (73, true)), (MI.load (MO.t 74))⟩, ⟨(some 76), (some (73, true)), (MI.faddr 0 (MO.t 9))⟩, ⟨(some 77), (some (73, true)), (MI.load (MO.t 76))⟩, ⟨(some 78), (some (73, true)), (MI.build [(AV.i .i64 0), (AV.i .i64 0)] [(0, 1, (MO.t 75)), (1, 1, (MO.t 77))])⟩, ⟨(some 79), (some (73, true)), (MI.loadn 2 (MO.t 6))⟩, ⟨(some 80), (some (73, true)), (MI.callN 38 [(MO.t 78), (MO.t 79)])⟩, ⟨(some 81), (some (73, true)), (MI.mv (MO.t 80))⟩, ⟨(some 82), (some (81, false)), (MI.faddr 1 (MO.t 9))⟩, ⟨(some 83), (some (81, false)), (MI.load (MO.t 82))⟩, ⟨(some 84), (some (81, false)), (MI.faddr 1 (MO.t 9))⟩, ⟨(some 85), (some (81, false)), (MI.load (MO.t 84))⟩, ⟨(some 86), (some (81, false)), (MI.build [(AV.i .i64 0), (AV.i .i64 0)] [(0, 1, (MO.t 83)), (1, 1, (MO.t 85))])⟩, ⟨(some 87), (some (81, false)), (MI.loadn 2 (MO.t 6))⟩, ⟨(some 88), (some (81, false)), (MI.callN 38 [(MO.t 86), (MO.t 87)])⟩, ⟨(some 89), (some (73, true)), (MI.pick (MO.t 81) (MO.c (AV.b true)) (MO.t 88))⟩, ⟨(some 90), (some (67, false)), (MI.pick (MO.t 73) (MO.t 89) (MO.c (AV.b false)))⟩, ⟨(some 91), none, (MI.pick (MO.t 67) (MO.c (AV.b true)) (MO.t 90))⟩]) (MC.cond (MO.t 91) (MC.seq (MC.ops [⟨(some 8), none, (MI.mv (MO.c (AV.b false)))⟩]) MC.ret) MC.skip))) (MC.seq (MC.ops [⟨(some 92), none, (MI.mv (MO.t 10))⟩, ⟨(some 93), none, (MI.bin .neq (MO.t 92) (MO.c (AV.i .i64 16)))⟩]) (MC.cond (MO.t 93) (MC.seq (MC.ops [⟨(some 8), none, (MI.mv (MO.c (AV.b false)))⟩]) MC.ret) MC.skip)))) (MC.seq (MC.seq (MC.ops [⟨(some 94), none, (MI.loadn 2 (MO.t 4))⟩, ⟨(some 95), none, (MI.loadn 2 (MO.t 6))⟩, ⟨(some 96), none, (MI.callN 38 [(MO.t 94), (MO.t 95)])⟩, ⟨(some 97), none, (MI.un .not (MO.t 96))⟩, ⟨(some 98), none, (MI.mv (MO.t 97))⟩, ⟨(some 99), (some (98, false)), (MI.loadn 2 (MO.t 5))⟩, ⟨(some 100), (some (98, false)), (MI.loadn 2 (MO.t 7))⟩, ⟨(some 101), (some (98, false)), (MI.callN 38 [(MO.t 99), (MO.t 100)])⟩, ⟨(some 102), (some (98, false)), (MI.un .not (MO.t 101))⟩, ⟨(some 103), none, (MI.pick (MO.t 98) (MO.c (AV.b true)) (MO.t 102))⟩]) (MC.cond (MO.t 103) (MC.seq (MC.ops [⟨(some 104), none, (MI.callN 18 [])⟩, ⟨(some 8), none, (MI.mv (MO.t 104))⟩]) MC.ret) MC.skip)) (MC.seq (MC.ops [⟨(some 106), none, (MI.loadn 2 (MO.t 4))⟩, ⟨(some 107), none, (MI.loadn 2 (MO.t 5))⟩, ⟨(some 108), none, (MI.callN 20 [(MO.t 106), (MO.t 107)])⟩, ⟨(some 105), none, (MI.mv (MO.t 108))⟩, ⟨(some 109), none, (MI.ext (MO.t 105) 0)⟩, ⟨(some 110), none, (MI.ext (MO.t 105) 1)⟩, ⟨(some 13), none, (MI.alloc 23 [(AV.i .i64 0), (AV.i .i64 0)])⟩, ⟨none, none, (MI.store 2 (MO.t 13) (MO.t 109))⟩, ⟨(some 14), none, (MI.mv (MO.t 110))⟩]) (MC.seq (MC.ops [⟨(some 112), none, (MI.loadn 2 (MO.t 4))⟩, ⟨(some 113), none, (MI.loadn 2 (MO.t 5))⟩, ⟨(some 114), none, (MI.callN 22 [(MO.t 112), (MO.t 113)])⟩, ⟨(some 111), none, (MI.mv (MO.t 114))⟩, ⟨(some 115), none, (MI.ext (MO.t 111) 0)⟩, ⟨(some 116), none, (MI.ext (MO.t 111) 1)⟩, ⟨(some 15), none, (MI.alloc 23 [(AV.i .i64 0), (AV.i .i64 0)])⟩, ⟨none, none, (MI.store 2 (MO.t 15) (MO.t 115))⟩, ⟨(some 16), none, (MI.mv (MO.t 116))⟩]) (MC.seq (MC.ops [⟨(some 118), none, (MI.loadn 2 (MO.t 4))⟩, ⟨(some 119), none, (MI.loadn 2 (MO.t 5))⟩, ⟨(some 120), none, (MI.callN 19 [(MO.t 118), (MO.t 119)])⟩, ⟨(some 117), none, (MI.mv (MO.t 120))⟩, ⟨(some 121), none, (MI.ext (MO.t 117) 0)⟩, ⟨(some 122), none, (MI.ext (MO.t 117) 1)⟩, ⟨(some 17), none, (MI.alloc 23 [(AV.i .i64 0), (AV.i .i64 0)])⟩, ⟨none, none, (MI.store 2 (MO.t 17) (MO.t 121))⟩, ⟨(some 18), none, (MI.mv (MO.t 122))⟩]) (MC.seq (MC.ops [⟨(some 124), none, (MI.loadn 2 (MO.t 6))⟩, ⟨(some 125), none, (MI.loadn 2 (MO.t 7))⟩, ⟨(some 126), none, (MI.callN 39 [(MO.t 124), (MO.t 125)])⟩, ⟨(some 123), none, (MI.mv (MO.t 126))⟩, ⟨(some 127), none, (MI.ext (MO.t 123) 0)⟩, ⟨(some 128), none, (MI.ext (MO.t 123) 1)⟩, ⟨(some 19), none, (MI.alloc 45 [(AV.i .i64 0), (AV.i .i64 0)])⟩, ⟨none, none, (MI.store 2 (MO.t 19) (MO.t 127))⟩, ⟨(some 20), none, (MI.mv (MO.t 128))⟩]) (MC.seq (MC.ops [⟨(some 130), none, (MI.loadn 2 (MO.t 6))⟩, ⟨(some 131), none, (MI.loadn 2 (MO.t 7))⟩, ⟨(some 132), none, (MI.callN 40 [(MO.t 130), (MO.t 131)])⟩, ⟨(some 129), none, (MI.mv (MO.t 132))⟩, ⟨(some 133), none, (MI.ext (MO.t 129) 0)⟩, ⟨(some 134), none, (MI.ext (MO.t 129) 1)⟩, ⟨(some 21), none, (MI.alloc 45 [(AV.i .i64 0), (AV.i .i64 0)])⟩, ⟨none, none, (MI.store 2 (MO.t 21) (MO.t 133))⟩, ⟨(some 22), none, (MI.mv (MO.t 134))⟩]) (MC.seq (MC.ops [⟨(some 136), none, (MI.loadn 2 (MO.t 6))⟩, ⟨(some 137), none, (MI.loadn 2 (MO.t 7))⟩, ⟨(some 138), none, (MI.callN 41 [(MO.t 136), (MO.t 137)])⟩, ⟨(some 135), none, (MI.mv (MO.t 138))⟩, ⟨(some 139), none, (MI.ext (MO.t 135) 0)⟩, ⟨(some 140), none, (MI.ext (MO.t 135) 1)⟩, ⟨(some 23), none, (MI.alloc 45 [(AV.i .i64 0), (AV.i .i64 0)])⟩, ⟨none, none, (MI.store 2 (MO.t 23) (MO.t 139))⟩, ⟨(some 24), none, (MI.mv (MO.t 140))⟩]) (MC.seq (MC.ops [⟨(some 141), none, (MI.mv (MO.t 14))⟩, ⟨(some 142), none, (MI.bin .neq (MO.t 141) (MO.c (AV.i .i64 0)))⟩, ⟨(some 143), none, (MI.mv (MO.t 142))⟩, ⟨(some 144), (some (143, false)), (MI.mv (MO.t 20))⟩, ⟨(some 145), (some (143, false)), (MI.bin .neq (MO.t 144) (MO.c (AV.i .i64 0)))⟩, ⟨(some 146), none, (MI.pick (MO.t 143) (MO.c (AV.b true)) (MO.t 145))⟩, ⟨(some 147), none, (MI.mv (MO.t 146))⟩, ⟨(some 148), (some (147, false)), (MI.loadn 2 (MO.t 13))⟩, ⟨(some 149), (some (147, false)), (MI.loadn 2 (MO.t 19))⟩, ⟨(some 150), (some (147, false)), (MI.callN 38 [(MO.t 148), (MO.t 149)])⟩, ⟨(some 151), none, (MI.pick (MO.t 147) (MO.c (AV.b true)) (MO.t 150))⟩, ⟨(some 152), none, (MI.mv (MO.t 151))⟩, ⟨(some 153), (some (152, true)), (MI.mv (MO.t 16))⟩, ⟨(some 154), (some (152, true)), (MI.bin .neq (MO.t 153) (MO.c (AV.i .i64 0)))⟩, ⟨(some 155), (some (152, true)), (MI.mv (MO.t 154))⟩, ⟨(some 156), (some (155, false)), (MI.mv (MO.t 22))⟩, ⟨(some 157), (some (155, false)), (MI.bin .neq (MO.t 156) (MO.c (AV.i .i64 0)))⟩, ⟨(some 158), (some (152, true)), (MI.pick (MO.t 155) (MO.c (AV.b true)) (MO.t 157))⟩, ⟨(some 159), (some (152, true)), (MI.mv (MO.t 158))⟩, ⟨(some 160), (some (159, false)), (MI.loadn 2 (MO.t 15))⟩, ⟨(some 161), (some (159, false)), (MI.loadn 2 (MO.t 21))⟩, ⟨(some 162), (some (159, false)), (MI.callN 38 [(MO.t 160), (MO.t 161)])⟩, ⟨(some 163), (some (152, true)), (MI.pick (MO.t 159) (MO.c (AV.b true)) (MO.t 162))⟩, ⟨(some 164), none, (MI.pick (MO.t 152) (MO.t 163) (MO.c (AV.b false)))⟩, ⟨(some 165), none, (MI.mv (MO.t 164))⟩, ⟨(some 166), (some (165, true)), (MI.mv (MO.t 18))⟩, ⟨(some 167), (some (165, true)), (MI.bin .neq (MO.t 166) (MO.c (AV.i .i64 0)))⟩, ⟨(some 168), (some (165, true)), (MI.mv (MO.t 167))⟩, ⟨(some 169), (some (168, false)), (MI.mv (MO.t 24))⟩, ⟨(some 170), (some (168, false)), (MI.bin .neq (MO.t 169) (MO.c (AV.i .i64 0)))⟩, ⟨(some 171), (some (165, true)), (MI.pick (MO.t 168) (MO.c (AV.b true)) (MO.t 170))⟩, ⟨(some 172), (some (165, true)), (MI.mv (MO.t 171))⟩, ⟨(some 173), (some (172, false)), (MI.loadn 2 (MO.t 17))⟩, ⟨(some 174), (some (172, false)), (MI.loadn 2 (MO.t 23))⟩, ⟨(some 175), (some (172, false)), (MI.callN 38 [(MO.t 173), (MO.t 174)])⟩, ⟨(some 176), (some (165, true)), (MI.pick (MO.t 172) (MO.c (AV.b true)) (MO.t 175))⟩, ⟨(some 177), none, (MI.pick (MO.t 165) (MO.t 176) (MO.c (AV.b false)))⟩, ⟨(some 178), none, (MI.mv (MO.t 177))⟩, ⟨(some 179), (some (178, true)), (MI.callN 18 [])⟩, ⟨(some 180), none, (MI.pick (MO.t 178) (MO.t 179) (MO.c (AV.b false)))⟩, ⟨(some 8), none, (MI.mv (MO.t 180))⟩]) MC.ret))))))))))))⟩
theorem FMc_law05_SineHolds : compF Go.Proofs.Try.prog (eqsP Go.Proofs.Try.prog) (neutOf [18, 19, 20, 22, 27, 29, 36, 37, 38, 39, 40, 41]) (neutOf [18, 19, 20, 22, 27, 29, 36, 37, 38, 39, 40, 41]) 9 = some FM_law05_SineHolds := by kernel_rfl
def G_law05_SineHolds : Gam := mkG [(18, S_law05_alive), (19, S_sine_Mul), (20, S_sine_Add), (22, S_sine_Sub), (27, S_sine_Of), (29, S_sine_Has), (36, S_ref05_Valid), (37, S_ref01_Both), (38, S_ref05_In), (39, S_ref01_Add), (40, S_ref01_Sub), (41, S_ref01_Mul)] []
theorem sg_law05_SineHolds : SoundG Go.Proofs.Try.prog 9 (WF G_law05_SineHolds 1 FM_law05_SineHolds) := WF_sound (allD_ok (n := G_law05_SineHolds.n) (l := [18, 19, 20, 22, 27, 29, 36, 37, 38, 39, 40, 41]) ⟨det_law05_alive, det_sine_Mul, det_sine_Add, det_sine_Sub, det_sine_Of, det_sine_Has, det_ref05_Valid, det_ref01_Both, det_ref05_In, det_ref01_Add, det_ref01_Sub, det_ref01_Mul, trivial⟩) mixP (mkG_ok (n := [(18, S_law05_alive), (19, S_sine_Mul), (20, S_sine_Add), (22, S_sine_Sub), (27, S_sine_Of), (29, S_sine_Has), (36, S_ref05_Valid), (37, S_ref01_Both), (38, S_ref05_In), (39, S_ref01_Add), (40, S_ref01_Sub), (41, S_ref01_Mul)]) (g := []) ⟨ok_law05_alive, ok_sine_Mul, ok_sine_Add, ok_sine_Sub, ok_sine_Of, ok_sine_Has, ok_ref05_Valid, ok_ref01_Both, ok_ref05_In, ok_ref01_Add, ok_ref01_Sub, ok_ref01_Mul, trivial⟩ trivial) eqsP_ok FMc_law05_SineHolds
def S_law05_SineHolds : NSpec := fun args _ K => match args with
  | [(.agg [(.i .i64 a), (.i .i64 b)]), (.agg [(.i .i64 c), (.i .i64 d)]), (.agg [(.i .i64 n), (.i .i64 m)]), (.agg [(.i .i64 p), (.i .i64 q)])] => (((I64 a ∧ I64 b) ∧ I64 c ∧ I64 d) ∧ (I64 n ∧ I64 m) ∧ I64 p ∧ I64 q) ∧ K (.b true)
  | _ => False
theorem det_law05_SineHolds : DetN S_law05_SineHolds := by
  intro args H K h
  unfold S_law05_SineHolds at h
  split at h
  · exact ⟨_, h.2, fun H' K' _ k => ⟨h.1, k⟩⟩
  · exact h.elim

def NF_law05_SineHolds (a b c d n m p q : Int) (K : AV → Prop) : Prop :=
 ((I64 a ∧ I64 b) ∧
 (bif (!(decide (spanOk a b))) then K (.b true)
 else ((I64 c ∧ I64 d) ∧
 (bif (!(decide (spanOk c d))) then K (.b true)
 else (((I64 n ∧ I64 m) ∧ I64 p ∧ I64 q) ∧
 (bif ((okE2 n m p q) != 0) then K (.b true)
 else ((I64 n ∧ I64 m) ∧
 (bif ((sOf n m).e == 0) then (((I64 (sOf n m).lo ∧ I64 (sOf n m).hi) ∧ I64 n ∧ I64 m) ∧
 (bif ((sHas (sOf n m).lo (sOf n m).hi n m).e != 0) then K (.b false)
 else (bif (!((sHas (sOf n m).lo (sOf n m).hi n m).v)) then K (.b false)
 else (bif decide (1 < (i64.wrap ((sOf n m).hi - (sOf n m).lo))) then K (.b false)
 else (bif decide ((sOf n m).lo < (sOf n m).hi) then ((spanOk (sOf n m).lo (sOf n m).lo ∧ okF n m) ∧
 (bif (sHas (sOf n m).lo (sOf n m).lo n m).v then K (.b false)
 else ((spanOk (sOf n m).hi (sOf n m).hi ∧ okF n m) ∧
 (bif (sHas (sOf n m).hi (sOf n m).hi n m).v then K (.b false)
 else ((spanOk a b ∧ okF n m) ∧
 (bif (!((sHas a b n m).v)) then K (.b true)
 else ((spanOk c d ∧ okF p q) ∧
 (bif (!((sHas c d p q).v)) then K (.b true)
 else (((I64 a ∧ I64 b) ∧ I64 c ∧ I64 d) ∧
 (((I64 a ∧ I64 b) ∧ I64 c ∧ I64 d) ∧
 (((I64 a ∧ I64 b) ∧ I64 c ∧ I64 d) ∧
 (((I64 n ∧ I64 m) ∧ I64 p ∧ I64 q) ∧
 (((I64 n ∧ I64 m) ∧ I64 p ∧ I64 q) ∧
 (((I64 n ∧ I64 m) ∧ I64 p ∧ I64 q) ∧
 (bif ((sAdd a b c d).e != 0) then (bif ((sSub a b c d).e != 0) then (bif ((sMul a b c d).e != 0) then K (.b true)
 else (bif ((mulF n m p q).e != 0) then K (.b true)
 else ((spanOk (sMul a b c d).lo (sMul a b c d).hi ∧ okF (mulF n m p q).n (mulF n m p q).d) ∧
 (bif (sHas (sMul a b c d).lo (sMul a b c d).hi (mulF n m p q).n (mulF n m p q).d).v then K (.b true)
 else K (.b false)))))
 else (bif ((subF n m p q).e != 0) then (bif ((sMul a b c d).e != 0) then K (.b true)
 else (bif ((mulF n m p q).e != 0) then K (.b true)
 else ((spanOk (sMul a b c d).lo (sMul a b c d).hi ∧ okF (mulF n m p q).n (mulF n m p q).d) ∧
 (bif (sHas (sMul a b c d).lo (sMul a b c d).hi (mulF n m p q).n (mulF n m p q).d).v then K (.b true)
 else K (.b false)))))
 else ((spanOk (sSub a b c d).lo (sSub a b c d).hi ∧ okF (subF n m p q).n (subF n m p q).d) ∧
 (bif (sHas (sSub a b c d).lo (sSub a b c d).hi (subF n m p q).n (subF n m p q).d).v then (bif ((sMul a b c d).e != 0) then K (.b true)
 else (bif ((mulF n m p q).e != 0) then K (.b true)
 else ((spanOk (sMul a b c d).lo (sMul a b c d).hi ∧ okF (mulF n m p q).n (mulF n m p q).d) ∧
 (bif (sHas (sMul a b c d).lo (sMul a b c d).hi (mulF n m p q).n (mulF n m p q).d).v then K (.b true)
 else K (.b false)))))
 else K (.b false)))))
 else (bif ((addF n m p q).e != 0) then (bif ((sSub a b c d).e != 0) then (bif ((sMul a b c d).e != 0) then K (.b true)
 else (bif ((mulF n m p q).e != 0) then K (.b true)
 else ((spanOk (sMul a b c d).lo (sMul a b c d).hi ∧ okF (mulF n m p q).n (mulF n m p q).d) ∧
 (bif (sHas (sMul a b c d).lo (sMul a b c d).hi (mulF n m p q).n (mulF n m p q).d).v then K (.b true)
 else K (.b false)))))
 else (bif ((subF n m p q).e != 0) then (bif ((sMul a b c d).e != 0) then K (.b true)
 else (bif ((mulF n m p q).e != 0) then K (.b true)
 else ((spanOk (sMul a b c d).lo (sMul a b c d).hi ∧ okF (mulF n m p q).n (mulF n m p q).d) ∧
 (bif (sHas (sMul a b c d).lo (sMul a b c d).hi (mulF n m p q).n (mulF n m p q).d).v then K (.b true)
 else K (.b false)))))
 else ((spanOk (sSub a b c d).lo (sSub a b c d).hi ∧ okF (subF n m p q).n (subF n m p q).d) ∧
 (bif (sHas (sSub a b c d).lo (sSub a b c d).hi (subF n m p q).n (subF n m p q).d).v then (bif ((sMul a b c d).e != 0) then K (.b true)
 else (bif ((mulF n m p q).e != 0) then K (.b true)
 else ((spanOk (sMul a b c d).lo (sMul a b c d).hi ∧ okF (mulF n m p q).n (mulF n m p q).d) ∧
 (bif (sHas (sMul a b c d).lo (sMul a b c d).hi (mulF n m p q).n (mulF n m p q).d).v then K (.b true)
 else K (.b false)))))
 else K (.b false)))))
 else ((spanOk (sAdd a b c d).lo (sAdd a b c d).hi ∧ okF (addF n m p q).n (addF n m p q).d) ∧
 (bif (sHas (sAdd a b c d).lo (sAdd a b c d).hi (addF n m p q).n (addF n m p q).d).v then (bif ((sSub a b c d).e != 0) then (bif ((sMul a b c d).e != 0) then K (.b true)
 else (bif ((mulF n m p q).e != 0) then K (.b true)
 else ((spanOk (sMul a b c d).lo (sMul a b c d).hi ∧ okF (mulF n m p q).n (mulF n m p q).d) ∧
 (bif (sHas (sMul a b c d).lo (sMul a b c d).hi (mulF n m p q).n (mulF n m p q).d).v then K (.b true)
 else K (.b false)))))
 else (bif ((subF n m p q).e != 0) then (bif ((sMul a b c d).e != 0) then K (.b true)
 else (bif ((mulF n m p q).e != 0) then K (.b true)
 else ((spanOk (sMul a b c d).lo (sMul a b c d).hi ∧ okF (mulF n m p q).n (mulF n m p q).d) ∧
 (bif (sHas (sMul a b c d).lo (sMul a b c d).hi (mulF n m p q).n (mulF n m p q).d).v then K (.b true)
 else K (.b false)))))
 else ((spanOk (sSub a b c d).lo (sSub a b c d).hi ∧ okF (subF n m p q).n (subF n m p q).d) ∧
 (bif (sHas (sSub a b c d).lo (sSub a b c d).hi (subF n m p q).n (subF n m p q).d).v then (bif ((sMul a b c d).e != 0) then K (.b true)
 else (bif ((mulF n m p q).e != 0) then K (.b true)
 else ((spanOk (sMul a b c d).lo (sMul a b c d).hi ∧ okF (mulF n m p q).n (mulF n m p q).d) ∧
 (bif (sHas (sMul a b c d).lo (sMul a b c d).hi (mulF n m p q).n (mulF n m p q).d).v then K (.b true)
 else K (.b false)))))
 else K (.b false)))))
 else K (.b false)))))))))))))))))))
 else ((spanOk a b ∧ okF n m) ∧
 (bif (!((sHas a b n m).v)) then K (.b true)
 else ((spanOk c d ∧ okF p q) ∧
 (bif (!((sHas c d p q).v)) then K (.b true)
 else (((I64 a ∧ I64 b) ∧ I64 c ∧ I64 d) ∧
 (((I64 a ∧ I64 b) ∧ I64 c ∧ I64 d) ∧
 (((I64 a ∧ I64 b) ∧ I64 c ∧ I64 d) ∧
 (((I64 n ∧ I64 m) ∧ I64 p ∧ I64 q) ∧
 (((I64 n ∧ I64 m) ∧ I64 p ∧ I64 q) ∧
 (((I64 n ∧ I64 m) ∧ I64 p ∧ I64 q) ∧
 (bif ((sAdd a b c d).e != 0) then (bif ((sSub a b c d).e != 0) then (bif ((sMul a b c d).e != 0) then K (.b true)
 else (bif ((mulF n m p q).e != 0) then K (.b true)
 else ((spanOk (sMul a b c d).lo (sMul a b c d).hi ∧ okF (mulF n m p q).n (mulF n m p q).d) ∧
 (bif (sHas (sMul a b c d).lo (sMul a b c d).hi (mulF n m p q).n (mulF n m p q).d).v then K (.b true)
 else K (.b false)))))
 else (bif ((subF n m p q).e != 0) then (bif ((sMul a b c d).e != 0) then K (.b true)
 else (bif ((mulF n m p q).e != 0) then K (.b true)
 else ((spanOk (sMul a b c d).lo (sMul a b c d).hi ∧ okF (mulF n m p q).n (mulF n m p q).d) ∧
 (bif (sHas (sMul a b c d).lo (sMul a b c d).hi (mulF n m p q).n (mulF n m p q).d).v then K (.b true)
 else K (.b false)))))
 else ((spanOk (sSub a b c d).lo (sSub a b c d).hi ∧ okF (subF n m p q).n (subF n m p q).d) ∧
 (bif (sHas (sSub a b c d).lo (sSub a b c d).hi (subF n m p q).n (subF n m p q).d).v then (bif ((sMul a b c d).e != 0) then K (.b true)
 else (bif ((mulF n m p q).e != 0) then K (.b true)
 else ((spanOk (sMul a b c d).lo (sMul a b c d).hi ∧ okF (mulF n m p q).n (mulF n m p q).d) ∧
 (bif (sHas (sMul a b c d).lo (sMul a b c d).hi (mulF n m p q).n (mulF n m p q).d).v then K (.b true)
 else K (.b false)))))
 else K (.b false)))))
 else (bif ((addF n m p q).e != 0) then (bif ((sSub a b c d).e != 0) then (bif ((sMul a b c d).e != 0) then K (.b true)
 else (bif ((mulF n m p q).e != 0) then K (.b true)
 else ((spanOk (sMul a b c d).lo (sMul a b c d).hi ∧ okF (mulF n m p q).n (mulF n m p q).d) ∧
 (bif (sHas (sMul a b c d).lo (sMul a b c d).hi (mulF n m p q).n (mulF n m p q).d).v then K (.b true)
 else K (.b false)))))
 else (bif ((subF n m p q).e != 0) then (bif ((sMul a b c d).e != 0) then K (.b true)
 else (bif ((mulF n m p q).e != 0) then K (.b true)
 else ((spanOk (sMul a b c d).lo (sMul a b c d).hi ∧ okF (mulF n m p q).n (mulF n m p q).d) ∧
 (bif (sHas (sMul a b c d).lo (sMul a b c d).hi (mulF n m p q).n (mulF n m p q).d).v then K (.b true)
 else K (.b false)))))
 else ((spanOk (sSub a b c d).lo (sSub a b c d).hi ∧ okF (subF n m p q).n (subF n m p q).d) ∧
 (bif (sHas (sSub a b c d).lo (sSub a b c d).hi (subF n m p q).n (subF n m p q).d).v then (bif ((sMul a b c d).e != 0) then K (.b true)
 else (bif ((mulF n m p q).e != 0) then K (.b true)
 else ((spanOk (sMul a b c d).lo (sMul a b c d).hi ∧ okF (mulF n m p q).n (mulF n m p q).d) ∧
 (bif (sHas (sMul a b c d).lo (sMul a b c d).hi (mulF n m p q).n (mulF n m p q).d).v then K (.b true)
 else K (.b false)))))
 else K (.b false)))))
 else ((spanOk (sAdd a b c d).lo (sAdd a b c d).hi ∧ okF (addF n m p q).n (addF n m p q).d) ∧
 (bif (sHas (sAdd a b c d).lo (sAdd a b c d).hi (addF n m p q).n (addF n m p q).d).v then (bif ((sSub a b c d).e != 0) then (bif ((sMul a b c d).e != 0) then K (.b true)
 else (bif ((mulF n m p q).e != 0) then K (.b true)
 else ((spanOk (sMul a b c d).lo (sMul a b c d).hi ∧ okF (mulF n m p q).n (mulF n m p q).d) ∧
 (bif (sHas (sMul a b c d).lo (sMul a b c d).hi (mulF n m p q).n (mulF n m p q).d).v then K (.b true)
 else K (.b false)))))
 else (bif ((subF n m p q).e != 0) then (bif ((sMul a b c d).e != 0) then K (.b true)
 else (bif ((mulF n m p q).e != 0) then K (.b true)
 else ((spanOk (sMul a b c d).lo (sMul a b c d).hi ∧ okF (mulF n m p q).n (mulF n m p q).d) ∧
 (bif (sHas (sMul a b c d).lo (sMul a b c d).hi (mulF n m p q).n (mulF n m p q).d).v then K (.b true)
 else K (.b false)))))
 else ((spanOk (sSub a b c d).lo (sSub a b c d).hi ∧ okF (subF n m p q).n (subF n m p q).d) ∧
 (bif (sHas (sSub a b c d).lo (sSub a b c d).hi (subF n m p q).n (subF n m p q).d).v then (bif ((sMul a b c d).e != 0) then K (.b true)
 else (bif ((mulF n m p q).e != 0) then K (.b true)
 else ((spanOk (sMul a b c d).lo (sMul a b c d).hi ∧ okF (mulF n m p q).n (mulF n m p q).d) ∧
 (bif (sHas (sMul a b c d).lo (sMul a b c d).hi (mulF n m p q).n (mulF n m p q).d).v then K (.b true)
 else K (.b false)))))
 else K (.b false)))))
 else K (.b false))))))))))))))))))))
 else (bif ((sOf n m).e != 16) then K (.b false)
 else ((spanOk a b ∧ okF n m) ∧
 (bif (!((sHas a b n m).v)) then K (.b true)
 else ((spanOk c d ∧ okF p q) ∧
 (bif (!((sHas c d p q).v)) then K (.b true)
 else (((I64 a ∧ I64 b) ∧ I64 c ∧ I64 d) ∧
 (((I64 a ∧ I64 b) ∧ I64 c ∧ I64 d) ∧
 (((I64 a ∧ I64 b) ∧ I64 c ∧ I64 d) ∧
 (((I64 n ∧ I64 m) ∧ I64 p ∧ I64 q) ∧
 (((I64 n ∧ I64 m) ∧ I64 p ∧ I64 q) ∧
 (((I64 n ∧ I64 m) ∧ I64 p ∧ I64 q) ∧
 (bif ((sAdd a b c d).e != 0) then (bif ((sSub a b c d).e != 0) then (bif ((sMul a b c d).e != 0) then K (.b true)
 else (bif ((mulF n m p q).e != 0) then K (.b true)
 else ((spanOk (sMul a b c d).lo (sMul a b c d).hi ∧ okF (mulF n m p q).n (mulF n m p q).d) ∧
 (bif (sHas (sMul a b c d).lo (sMul a b c d).hi (mulF n m p q).n (mulF n m p q).d).v then K (.b true)
 else K (.b false)))))
 else (bif ((subF n m p q).e != 0) then (bif ((sMul a b c d).e != 0) then K (.b true)
 else (bif ((mulF n m p q).e != 0) then K (.b true)
 else ((spanOk (sMul a b c d).lo (sMul a b c d).hi ∧ okF (mulF n m p q).n (mulF n m p q).d) ∧
 (bif (sHas (sMul a b c d).lo (sMul a b c d).hi (mulF n m p q).n (mulF n m p q).d).v then K (.b true)
 else K (.b false)))))
 else ((spanOk (sSub a b c d).lo (sSub a b c d).hi ∧ okF (subF n m p q).n (subF n m p q).d) ∧
 (bif (sHas (sSub a b c d).lo (sSub a b c d).hi (subF n m p q).n (subF n m p q).d).v then (bif ((sMul a b c d).e != 0) then K (.b true)
 else (bif ((mulF n m p q).e != 0) then K (.b true)
 else ((spanOk (sMul a b c d).lo (sMul a b c d).hi ∧ okF (mulF n m p q).n (mulF n m p q).d) ∧
 (bif (sHas (sMul a b c d).lo (sMul a b c d).hi (mulF n m p q).n (mulF n m p q).d).v then K (.b true)
 else K (.b false)))))
 else K (.b false)))))
 else (bif ((addF n m p q).e != 0) then (bif ((sSub a b c d).e != 0) then (bif ((sMul a b c d).e != 0) then K (.b true)
 else (bif ((mulF n m p q).e != 0) then K (.b true)
 else ((spanOk (sMul a b c d).lo (sMul a b c d).hi ∧ okF (mulF n m p q).n (mulF n m p q).d) ∧
 (bif (sHas (sMul a b c d).lo (sMul a b c d).hi (mulF n m p q).n (mulF n m p q).d).v then K (.b true)
 else K (.b false)))))
 else (bif ((subF n m p q).e != 0) then (bif ((sMul a b c d).e != 0) then K (.b true)
 else (bif ((mulF n m p q).e != 0) then K (.b true)
 else ((spanOk (sMul a b c d).lo (sMul a b c d).hi ∧ okF (mulF n m p q).n (mulF n m p q).d) ∧
 (bif (sHas (sMul a b c d).lo (sMul a b c d).hi (mulF n m p q).n (mulF n m p q).d).v then K (.b true)
 else K (.b false)))))
 else ((spanOk (sSub a b c d).lo (sSub a b c d).hi ∧ okF (subF n m p q).n (subF n m p q).d) ∧
 (bif (sHas (sSub a b c d).lo (sSub a b c d).hi (subF n m p q).n (subF n m p q).d).v then (bif ((sMul a b c d).e != 0) then K (.b true)
 else (bif ((mulF n m p q).e != 0) then K (.b true)
 else ((spanOk (sMul a b c d).lo (sMul a b c d).hi ∧ okF (mulF n m p q).n (mulF n m p q).d) ∧
 (bif (sHas (sMul a b c d).lo (sMul a b c d).hi (mulF n m p q).n (mulF n m p q).d).v then K (.b true)
 else K (.b false)))))
 else K (.b false)))))
 else ((spanOk (sAdd a b c d).lo (sAdd a b c d).hi ∧ okF (addF n m p q).n (addF n m p q).d) ∧
 (bif (sHas (sAdd a b c d).lo (sAdd a b c d).hi (addF n m p q).n (addF n m p q).d).v then (bif ((sSub a b c d).e != 0) then (bif ((sMul a b c d).e != 0) then K (.b true)
 else (bif ((mulF n m p q).e != 0) then K (.b true)
 else ((spanOk (sMul a b c d).lo (sMul a b c d).hi ∧ okF (mulF n m p q).n (mulF n m p q).d) ∧
 (bif (sHas (sMul a b c d).lo (sMul a b c d).hi (mulF n m p q).n (mulF n m p q).d).v then K (.b true)
 else K (.b false)))))
 else (bif ((subF n m p q).e != 0) then (bif ((sMul a b c d).e != 0) then K (.b true)
 else (bif ((mulF n m p q).e != 0) then K (.b true)
 else ((spanOk (sMul a b c d).lo (sMul a b c d).hi ∧ okF (mulF n m p q).n (mulF n m p q).d) ∧
 (bif (sHas (sMul a b c d).lo (sMul a b c d).hi (mulF n m p q).n (mulF n m p q).d).v then K (.b true)
 else K (.b false)))))
 else ((spanOk (sSub a b c d).lo (sSub a b c d).hi ∧ okF (subF n m p q).n (subF n m p q).d) ∧
 (bif (sHas (sSub a b c d).lo (sSub a b c d).hi (subF n m p q).n (subF n m p q).d).v then (bif ((sMul a b c d).e != 0) then K (.b true)
 else (bif ((mulF n m p q).e != 0) then K (.b true)
 else ((spanOk (sMul a b c d).lo (sMul a b c d).hi ∧ okF (mulF n m p q).n (mulF n m p q).d) ∧
 (bif (sHas (sMul a b c d).lo (sMul a b c d).hi (mulF n m p q).n (mulF n m p q).d).v then K (.b true)
 else K (.b false)))))
 else K (.b false)))))
 else K (.b false))))))))))))))))))))))))
theorem nf_law05_SineHolds (a b c d n m p q : Int) (K : AV → Prop) : WFR 8 G_law05_SineHolds 1 FM_law05_SineHolds [(.agg [(.i .i64 a), (.i .i64 b)]), (.agg [(.i .i64 c), (.i .i64 d)]), (.agg [(.i .i64 n), (.i .i64 m)]), (.agg [(.i .i64 p), (.i .i64 q)])] [] (fun a _ => K a) = NF_law05_SineHolds a b c d n m p q K := by kernel_rfl
theorem key_law05_SineHolds (a b c d n m p q : Int) {K : AV → Prop} (hp : ((I64 a ∧ I64 b) ∧ I64 c ∧ I64 d) ∧ (I64 n ∧ I64 m) ∧ I64 p ∧ I64 q) (hk : K (.b true)) : NF_law05_SineHolds a b c d n m p q K := by
  unfold NF_law05_SineHolds
  refine ⟨hp.1.1, bif_i (fun _ => hk) (fun g1 => ⟨hp.1.2, bif_i (fun _ => hk) (fun g2 => ⟨hp.2, bif_i (fun _ => hk) (fun g3 => ⟨hp.2.1, ?_⟩)⟩)⟩)⟩
  have s1 : spanOk a b := by simpa using g1
  have s2 : spanOk c d := by simpa using g2
  obtain ⟨f1, f2, _⟩ : okF n m ∧ okF p q ∧ True := by
    rcases okE2_cases n m p q with ⟨h1, h2, he⟩ | ⟨h1, he⟩
    · exact ⟨h1, h2, trivial⟩
    · rw [he] at g3; simp at g3
  have A := fun (i1 : inS a b n m) (i2 : inS c d p q) (x : (sAdd a b c d).e = 0) (y : (addF n m p q).e = 0) => holds_add s1 s2 f1 f2 i1 i2 x y
  have S := fun (i1 : inS a b n m) (i2 : inS c d p q) (x : (sSub a b c d).e = 0) (y : (subF n m p q).e = 0) => holds_sub s1 s2 f1 f2 i1 i2 x y
  have M := fun (i1 : inS a b n m) (i2 : inS c d p q) (x : (sMul a b c d).e = 0) (y : (mulF n m p q).e = 0) => holds_mul s1 s2 f1 f2 i1 i2 x y
  have V := @sHas_v
  have r1 : (sHas a b n m).v = decide (inS a b n m) := by rw [V s1 f1]
  have r2 : (sHas c d p q).v = decide (inS c d p q) := by rw [V s2 f2]
  rw [r1, r2]
  rcases sOf_ok f1 with ⟨e0, sp, ins, d1, le, ne⟩ | e16
  · refine bif_t (by rw [e0]; rfl) ?_
    obtain ⟨p1, p2, p3⟩ := id sp
    have iS : I64 (sOf n m).lo ∧ I64 (sOf n m).hi := ⟨⟨by omega, by omega⟩, by omega, by omega⟩
    have hv := V sp f1
    have sl : spanOk (sOf n m).lo (sOf n m).lo := ⟨by omega, by omega, by omega⟩
    have sh : spanOk (sOf n m).hi (sOf n m).hi := ⟨by omega, by omega, by omega⟩
    rw [hv, V sl f1, V sh f1]
    rw [wrap_i64 (n := (sOf n m).hi - (sOf n m).lo) (by omega) (by omega)]
    refine ⟨⟨iS, hp.2.1⟩, bif_f rfl (bif_f (by rw [decide_eq_true ins]; rfl) (bif_f (decide_eq_false (by omega)) (bif_i (fun lt => ?_) (fun _ => ?_))))⟩
    · obtain ⟨n1, n2⟩ := ne (by simpa using lt)
      refine ⟨⟨sl, f1⟩, bif_f (decide_eq_false n1) ⟨⟨sh, f1⟩, bif_f (decide_eq_false n2) ?_⟩⟩
      refine ⟨⟨s1, f1⟩, bif_i (fun _ => hk) (fun v1 => ⟨⟨s2, f2⟩, bif_i (fun _ => hk) (fun v2 => ⟨hp.1, hp.1, hp.1, hp.2, hp.2, hp.2, stepH_ok (fun x y => ?_) (stepH_ok (fun x y => ?_) (stepH_ok (fun x y => ?_) hk))⟩)⟩)⟩
      all_goals (have i1 : inS a b n m := by simpa using v1)
      all_goals (have i2 : inS c d p q := by simpa using v2)
      · obtain ⟨t1, t2, t3⟩ := A i1 i2 x y; exact ⟨⟨t1, t2⟩, by rw [V t1 t2]; exact decide_eq_true t3⟩
      · obtain ⟨t1, t2, t3⟩ := S i1 i2 x y; exact ⟨⟨t1, t2⟩, by rw [V t1 t2]; exact decide_eq_true t3⟩
      · obtain ⟨t1, t2, t3⟩ := M i1 i2 x y; exact ⟨⟨t1, t2⟩, by rw [V t1 t2]; exact decide_eq_true t3⟩
    · refine ⟨⟨s1, f1⟩, bif_i (fun _ => hk) (fun v1 => ⟨⟨s2, f2⟩, bif_i (fun _ => hk) (fun v2 => ⟨hp.1, hp.1, hp.1, hp.2, hp.2, hp.2, stepH_ok (fun x y => ?_) (stepH_ok (fun x y => ?_) (stepH_ok (fun x y => ?_) hk))⟩)⟩)⟩
      all_goals (have i1 : inS a b n m := by simpa using v1)
      all_goals (have i2 : inS c d p q := by simpa using v2)
      · obtain ⟨t1, t2, t3⟩ := A i1 i2 x y; exact ⟨⟨t1, t2⟩, by rw [V t1 t2]; exact decide_eq_true t3⟩
      · obtain ⟨t1, t2, t3⟩ := S i1 i2 x y; exact ⟨⟨t1, t2⟩, by rw [V t1 t2]; exact decide_eq_true t3⟩
      · obtain ⟨t1, t2, t3⟩ := M i1 i2 x y; exact ⟨⟨t1, t2⟩, by rw [V t1 t2]; exact decide_eq_true t3⟩
  · refine bif_f (by rw [e16]; rfl) (bif_f (by rw [e16]; rfl) ?_)
    refine ⟨⟨s1, f1⟩, bif_i (fun _ => hk) (fun v1 => ⟨⟨s2, f2⟩, bif_i (fun _ => hk) (fun v2 => ⟨hp.1, hp.1, hp.1, hp.2, hp.2, hp.2, stepH_ok (fun x y => ?_) (stepH_ok (fun x y => ?_) (stepH_ok (fun x y => ?_) hk))⟩)⟩)⟩
    all_goals (have i1 : inS a b n m := by simpa using v1)
    all_goals (have i2 : inS c d p q := by simpa using v2)
    · obtain ⟨t1, t2, t3⟩ := A i1 i2 x y; exact ⟨⟨t1, t2⟩, by rw [V t1 t2]; exact decide_eq_true t3⟩
    · obtain ⟨t1, t2, t3⟩ := S i1 i2 x y; exact ⟨⟨t1, t2⟩, by rw [V t1 t2]; exact decide_eq_true t3⟩
    · obtain ⟨t1, t2, t3⟩ := M i1 i2 x y; exact ⟨⟨t1, t2⟩, by rw [V t1 t2]; exact decide_eq_true t3⟩
theorem ok_law05_SineHolds : SoundN Go.Proofs.Try.prog 9 S_law05_SineHolds := by
  refine soundN_of sg_law05_SineHolds fun args H K hS => ?_
  unfold S_law05_SineHolds at hS
  split at hS
  · rename_i a b c d n m p q
    have hS1 := key_law05_SineHolds a b c d n m p q (K := fun a => plainA a = true ∧ K a) hS.1 ⟨by simp [plainA, plainL], hS.2⟩
    refine ⟨by simp [plainA, plainL], ?_⟩
    refine WFR_imp (D := 8) ?_
    rw [nf_law05_SineHolds a b c d n m p q fun a => plainA a = true ∧ K a]
    exact hS1
  · exact hS.elim

end Go.Proofs.Ytkmhmabkahaekaa.V
