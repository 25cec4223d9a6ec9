/-
  A second semantics of Go's operations. Part 16: contracts of functions that read one row that the caller made, and return plain values.
-/
import Derived.Test.YtpfmnmcpffajeaaVn
set_option linter.unusedVariables false
set_option linter.unusedSimpArgs false
namespace Go.Proofs.Ytpfmnmcpffajeaa.V
open Go Go.RowKit

abbrev RowQ1 := List AV → (AV → Prop) → Prop
def rowTab : List (Nat × RowQ1) → Nat → List AV → (AV → Prop) → Prop
  | [], _, _, _ => False
  | (l, q) :: r, n, cs, K => cond (l.beq n) (q cs K) (rowTab r n cs K)
def rowB (H : Heap) (id c m : Nat) (k : List AV → Prop) : Prop :=
  match H[id]? with
  | some (some B) => asr (Nat.beq B.n 1 && Nat.ble (c + m) (B.f 0).length) (k (((B.f 0).drop c).take m))
  | _ => False
/-- A contract by the row's length; 'sz': the cells of an element. -/
def rowS (sz : Nat) (tab : List (Nat × RowQ1)) : NSpec := fun args H K =>
  match args with
  | [.slc id 0 c l p] => asr (l.beq p) (rowB H id c (l * sz) fun cs => rowTab tab l cs K)
  | _ => False
def detQ (q : RowQ1) : Prop := ∀ cs K, q cs K → ∃ r, K r ∧ ∀ K' : AV → Prop, K' r → q cs K'
def detTab : List (Nat × RowQ1) → Prop
  | [] => True
  | (_, q) :: r => detQ q ∧ detTab r
theorem rowTab_det : ∀ {tab : List (Nat × RowQ1)}, detTab tab → ∀ {n cs K}, rowTab tab n cs K → ∃ r, K r ∧ ∀ K' : AV → Prop, K' r → rowTab tab n cs K'
  | [], _, n, cs, K, h => h.elim
  | (l, q) :: r, hd, n, cs, K, h => by
    simp only [rowTab] at h ⊢
    cases hb : l.beq n with
    | true => rw [hb] at h; simp only [cond_true] at h ⊢; exact hd.1 cs K h
    | false => rw [hb] at h; simp only [cond_false] at h ⊢; exact rowTab_det hd.2 h
theorem rowS_det {sz : Nat} {tab : List (Nat × RowQ1)} (hd : detTab tab) : DetN (rowS sz tab) := by
  intro args H K h
  unfold rowS at h
  split at h
  · rename_i id c l p
    rw [asr_iff] at h
    obtain ⟨h1, h2⟩ := h
    unfold rowB at h2
    split at h2
    · rename_i B hB
      rw [asr_iff] at h2
      obtain ⟨h3, h4⟩ := h2
      obtain ⟨r, hr, hk⟩ := rowTab_det hd h4
      refine ⟨r, hr, fun H' K' hp hK' => ?_⟩
      simp only [rowS, asr_iff]
      refine ⟨h1, ?_⟩
      unfold rowB
      rw [prefix_get hp hB]
      simp only [asr_iff]
      exact ⟨h3, hk K' hK'⟩
    · exact h2.elim
  · exact h.elim
theorem row_rel {w0 w : World} {ρ : List Loc} {H : Heap} {id c m b o : Nat} {B : Blk} (hR : Rel w0 ρ H w) (hB : H[id]? = some (some B)) (hρ : ρ[id]? = some (b, o, B.esz)) (hn : B.n = 1) (hm : c + m ≤ (B.f 0).length) (hp : plainL (((B.f 0).drop c).take m) = true) :
    Rel w [(b, o + c, m)] [some ⟨false, B.ty, m, 1, false, fun _ => ((B.f 0).drop c).take m, 0⟩] w := by
  have own0 : ∀ (i : Nat) (C : Blk), [some (⟨false, B.ty, m, 1, false, fun _ => ((B.f 0).drop c).take m, 0⟩ : Blk)][i]? = some (some C) → i = 0 ∧ C = ⟨false, B.ty, m, 1, false, fun _ => ((B.f 0).drop c).take m, 0⟩ := fun i C e => by
    cases i with
    | zero => simp at e; exact ⟨rfl, e.symm⟩
    | succ i => simp at e
  obtain ⟨b', o', k1, k2⟩ := hR.blk id B hB
  rw [hρ] at k1
  simp only [Option.some.injEq, Prod.mk.injEq, and_true] at k1
  obtain ⟨rfl, rfl⟩ := k1
  refine ⟨by simp, Below.refl _ _, fun i C e => ?_, fun i j C D b o e b' o' e' h1 _ h3 => ?_, fun i C e r => ?_⟩
  · obtain ⟨rfl, rfl⟩ := own0 i C e
    refine ⟨b, o + c, by simp, fun ix d a hix ha => ?_, fun ix hix => by simp; omega, (fun h => nomatch h), (fun _ => k2.lt hR), (fun _ => rfl)⟩
    have : ix = 0 := by simp at hix; omega
    subst this
    have hd : d < m := by
      have := (List.getElem?_eq_some_iff.1 ha).1
      simp at this; omega
    have ha2 : (B.f 0)[c + d]? = some a := by
      simp only at ha
      rw [List.getElem?_take_of_lt hd, List.getElem?_drop] at ha
      exact ha
    obtain ⟨v, e1, e2⟩ := k2.cell 0 (c + d) a (by omega) ha2
    refine ⟨v, ?_, e2.plain (plainL_get hp ha)⟩
    rw [← e1]
    congr 2
    omega
  · obtain ⟨_, rfl⟩ := own0 i C h1; cases h3
  · obtain ⟨_, rfl⟩ := own0 i C e; exact absurd r (Nat.lt_irrefl 0)
def rowOk (S : Spec) : List (Nat × RowQ1) → Prop
  | [] => True
  | (l, q) :: r => (∀ cs K ty esz, q cs K → plainL cs = true ∧ S [.slc 0 0 0 l l] [some ⟨false, ty, esz, 1, false, fun _ => cs, 0⟩] fun a _ => plainA a = true ∧ K a) ∧ rowOk S r
theorem rowTab_ok {S : Spec} : ∀ {tab : List (Nat × RowQ1)}, rowOk S tab → ∀ {n cs K} ty esz, rowTab tab n cs K → plainL cs = true ∧ S [.slc 0 0 0 n n] [some ⟨false, ty, esz, 1, false, fun _ => cs, 0⟩] fun a _ => plainA a = true ∧ K a
  | [], _, n, cs, K, _, _, h => h.elim
  | (l, q) :: r, hd, n, cs, K, ty, esz, h => by
    simp only [rowTab] at h
    cases hb : l.beq n with
    | true =>
      rw [hb] at h; simp only [cond_true] at h
      have := Nat.eq_of_beq_eq_true hb
      subst this
      exact hd.1 cs K ty esz h
    | false => rw [hb] at h; simp only [cond_false] at h; exact rowTab_ok hd.2 ty esz h
theorem rowS_ok {P : Program} {f : FuncId} {S : Spec} {sz : Nat} {tab : List (Nat × RowQ1)} (hG : SoundG P f S) (ho : rowOk S tab) : SoundN P f (rowS sz tab) := by
  intro args H K hs
  unfold rowS at hs
  split at hs
  · rename_i id c l p
    rw [asr_iff] at hs
    obtain ⟨h1, h2⟩ := hs
    have hl := Nat.eq_of_beq_eq_true h1
    subst hl
    unfold rowB at h2
    split at h2
    · rename_i B hB
      rw [asr_iff, Bool.and_eq_true] at h2
      obtain ⟨⟨h3, h5⟩, h4⟩ := h2
      have hn := Nat.eq_of_beq_eq_true h3
      have hm := Nat.le_of_ble_eq_true h5
      obtain ⟨hpl, hS⟩ := rowTab_ok ho B.ty (l * sz) h4
      obtain ⟨hg, hcall⟩ := hG _ _ _ hS
      refine ⟨hg, fun w0 ρ w vs hvs hR => ?_⟩
      cases hvs with | cons hv hvs =>
      cases hvs
      cases hv with
      | slc hρ =>
        rename_i b o e
        obtain ⟨b', o', k1, k2⟩ := hR.blk id B hB
        have hρ2 := hρ
        rw [k1] at hρ2
        simp only [Option.some.injEq, Prod.mk.injEq] at hρ2
        obtain ⟨rfl, rfl, rfl⟩ := hρ2
        have hv2 : R [(b', o' + c, l * sz)] (.slc 0 0 0 l l) (.slice (some ⟨b', o' + 0 * B.esz + c, none⟩) l l) := by
          have := R.slc (ρ := [(b', o' + c, l * sz)]) (id := 0) (ix := 0) (c := 0) (l := l) (cap := l) (b := b') (o := o' + c) (e := l * sz) (by simp)
          rw [show o' + 0 * B.esz + c = o' + c + 0 * (l * sz) + 0 by omega]
          exact this
        refine (hcall w [(b', o' + c, l * sz)] w _ (.cons hv2 .nil) (row_rel hR hB k1 hn hm hpl)).mono fun e w' ⟨v, av, ρ', H', q1, q2, q3, q4, q5, q6⟩ => ?_
        exact ⟨v, av, q1, q3.plain q5, hR.below' q4.below, q6⟩
    · exact h2.elim
  · exact hs.elim
end Go.Proofs.Ytpfmnmcpffajeaa.V
