/-
  A second semantics of Go's operations. Part 9: a schedule for a region that draws its order: operations that come to the same at any time are taken first; among the others each order is shown.
-/
import Derived.Test.YtpfmnmcpffajeaaVh
set_option linter.unusedVariables false
set_option linter.unusedSimpArgs false
namespace Go.Proofs.Ytpfmnmcpffajeaa.V
open Go Go.RowKit

inductive SchM where
  | done
  | op (m : MOp) (r : SchM)
  | ld (m : MOp) (r : SchM)
  | alt (m : MOp) (r : SchM) (rest : SchM)
  deriving Inhabited

def WS (h0 : Nat) (Γ : Gam) : SchM → List AV → Heap → KT → Prop
  | .done, t, H, K => K t H
  | .op m r, t, H, K => stepO none Γ m t H fun t' H' => WS h0 Γ r t' H' K
  | .ld m r, t, H, K => stepO (some h0) Γ m t H fun t' H' => WS h0 Γ r t' H' K
  | .alt m r rest, t, H, K => (stepO none Γ m t H fun t' H' => WS h0 Γ r t' H' K) ∧ WS h0 Γ rest t H K

/-! ### The registers that an instruction reads -/
def moR : MO → List Nat
  | .t n => [n]
  | .c _ => []
def moRs : List MO → List Nat
  | [] => []
  | x :: xs => moR x ++ moRs xs
def moRp : List (Nat × Nat × MO) → List Nat
  | [] => []
  | x :: xs => moR x.2.2 ++ moRp xs
def moRo : Option MO → List Nat
  | none => []
  | some x => moR x
def regsM : MI → List Nat
  | .mv x => moR x
  | .pick c a b => moR c ++ (moR a ++ moR b)
  | .un _ x => moR x
  | .bin _ x y => moR x ++ moR y
  | .beq _ x y => moR x ++ moR y
  | .eqa _ _ x y => moR x ++ moR y
  | .conv _ x => moR x
  | .build _ ps => moRp ps
  | .faddr _ x => moR x
  | .fld _ x => moR x
  | .fldn _ _ x => moR x
  | .iaddrA _ _ x i => moR x ++ moR i
  | .iaddrS _ x i => moR x ++ moR i
  | .idx _ x i => moR x ++ moR i
  | .idxn _ _ x i => moR x ++ moR i
  | .sidx x i => moR x ++ moR i
  | .slA _ _ x lo hi => moR x ++ (moRo lo ++ moRo hi)
  | .slS _ x lo hi mx => moR x ++ (moRo lo ++ (moRo hi ++ moRo mx))
  | .slStr x lo hi => moR x ++ (moRo lo ++ moRo hi)
  | .len x => moR x
  | .slen x => moR x
  | .cap x => moR x
  | .mnmx _ x xs => moR x ++ moRs xs
  | .ext x _ => moR x
  | .mkf _ caps => moRs caps
  | .ncheck x => moR x
  | .snil _ x => moR x
  | .load x => moR x
  | .loadn _ x => moR x
  | .box _ x => moR x
  | .alloc _ _ => []
  | .bslice _ _ _ ps => moRp ps
  | .store _ x v => moR x ++ moR v
  | .callN _ args => moRs args
  | .callG _ args => moRs args
  | .callV x args => moR x ++ moRs args
  | .app _ _ _ x y => moR x ++ moR y
  | .mksl _ _ _ l c => moR l ++ moR c
  | .carry _ x y c => moR x ++ (moR y ++ moR c)
  | .bad => []

def Agree (t t' : List AV) (l : List Nat) : Prop := ∀ s ∈ l, t'.getD s undefA = t.getD s undefA
theorem Agree.left {t t' : List AV} {a b : List Nat} (h : Agree t t' (a ++ b)) : Agree t t' a := fun s hs => h s (List.mem_append_left _ hs)
theorem Agree.right {t t' : List AV} {a b : List Nat} (h : Agree t t' (a ++ b)) : Agree t t' b := fun s hs => h s (List.mem_append_right _ hs)
theorem Agree.ev {t t' : List AV} {x : MO} (h : Agree t t' (moR x)) : ev t' x = ev t x := by
  cases x with
  | t n => exact h n (by simp [moR])
  | c a => rfl
theorem Agree.evs {t t' : List AV} : ∀ {xs : List MO}, Agree t t' (moRs xs) → xs.map (V.ev t') = xs.map (V.ev t)
  | [], _ => rfl
  | x :: xs, h => by
    have h1 : Agree t t' (moR x) := Agree.left (b := moRs xs) h
    have h2 : Agree t t' (moRs xs) := Agree.right (a := moR x) h
    rw [List.map_cons, List.map_cons, h1.ev, Agree.evs h2]
theorem Agree.evps {t t' : List AV} : ∀ {xs : List (Nat × Nat × MO)}, Agree t t' (moRp xs) → xs.map (evp t') = xs.map (evp t)
  | [], _ => rfl
  | x :: xs, h => by
    have h1 : Agree t t' (moR x.2.2) := Agree.left (b := moRp xs) h
    have h2 : Agree t t' (moRp xs) := Agree.right (a := moR x.2.2) h
    rw [List.map_cons, List.map_cons, Agree.evps h2]
    unfold evp
    rw [h1.ev]
theorem Agree.bnd {t t' : List AV} {x : Option MO} (h : Agree t t' (moRo x)) (d top : Nat) (K : Nat → Prop) : V.bnd t' x d top K = V.bnd t x d top K := by
  cases x with
  | none => rfl
  | some m =>
    have : Agree t t' (moR m) := h
    simp only [V.bnd, this.ev]

theorem val_agree {Γ : Gam} {m : MI} {t t' : List AV} (h : Agree t t' (regsM m)) (H : Heap) (K : K1) : val Γ m t' H K = val Γ m t H K := by
  cases m <;> simp only [regsM] at h <;> first
    | rfl
    | (simp only [val, pval, h.ev]; done)
    | (simp only [val, pval, h.evs]; done)
    | (simp only [val, pval, h.evps]; done)
    | (simp only [val, pval, h.left.ev, h.right.ev]; done)
    | (simp only [val, pval, h.left.ev, h.right.evs]; done)
    | (simp only [val, pval, h.left.ev, h.right.left.ev, h.right.right.ev]; done)
    | (simp only [val, pval, h.left.ev, h.right.left.bnd, h.right.right.bnd]; done)
    | (simp only [val, pval, h.left.ev, h.right.left.bnd, h.right.right.left.bnd, h.right.right.right.bnd]; done)

/-! ### What comes to one value -/
theorem binI_det {op : BinOp} {k k' : IntKind} {a b : Int} {K : AV → Prop} (h : binI op k k' a b K) : ∃ r, K r ∧ ∀ K' : AV → Prop, K' r → binI op k k' a b K' := by
  cases op <;> simp only [binI, asr_iff] at h ⊢ <;> first | exact h.elim | exact ⟨_, h.2, fun K' hk => ⟨h.1, hk⟩⟩ | exact ⟨_, h, fun K' hk => hk⟩
theorem binV_det {op : BinOp} {x y : AV} {K : AV → Prop} (h : binV op x y K) : ∃ r, K r ∧ ∀ K' : AV → Prop, K' r → binV op x y K' := by
  unfold binV at h ⊢
  split at h
  · exact binI_det h
  · split at h
    · exact ⟨_, h, fun K' hk => hk⟩
    · exact ⟨_, h, fun K' hk => hk⟩
    · simp only [asr_iff] at h ⊢
      exact ⟨_, h.2, fun K' hk => ⟨h.1, hk⟩⟩
    · exact h.elim
  · exact h.elim
theorem mnmxV_det {isMax : Bool} : ∀ {xs : List AV} {x : AV} {K : AV → Prop}, mnmxV isMax x xs K → ∃ r, K r ∧ ∀ K' : AV → Prop, K' r → mnmxV isMax x xs K'
  | [], x, K, h => by cases x <;> exact ⟨_, h, fun K' hk => hk⟩
  | y :: xs, x, K, h => by
    cases x <;> cases y <;> first | exact False.elim h | exact mnmxV_det (xs := xs) h
theorem bnd_det {t : List AV} {x : Option MO} {d top : Nat} {K : Nat → Prop} (h : bnd t x d top K) : ∃ n, K n ∧ ∀ K' : Nat → Prop, K' n → bnd t x d top K' := by
  unfold bnd at h ⊢
  split at h
  · exact ⟨_, h, fun K' hk => hk⟩
  · split at h
    · rw [asr_iff] at h
      exact ⟨_, h.2, fun K' hk => by simp only [asr_iff]; exact ⟨h.1, hk⟩⟩
    · exact h.elim
theorem pval_det {m : MI} {t : List AV} {K : AV → Prop} (h : pval m t K) : ∃ r, K r ∧ ∀ K' : AV → Prop, K' r → pval m t K' := by
  cases m <;> simp only [pval] at h ⊢ <;> first
    | exact h.elim
    | exact ⟨_, h, fun K' hk => hk⟩
    | exact binV_det h
    | exact mnmxV_det h
    | skip
  case pick c a b =>
    split at h
    · rename_i x hx
      cases x <;> exact ⟨_, h, fun K' hk => hk⟩
    · exact h.elim
  case slA len sz x lo hi =>
    split at h
    · obtain ⟨n1, h1, g1⟩ := bnd_det h
      obtain ⟨n2, h2, g2⟩ := bnd_det h1
      exact ⟨_, h2, fun K' hk => g1 _ (g2 _ hk)⟩
    · exact h.elim
  case slS sz x lo hi mx =>
    split at h
    · obtain ⟨n1, h1, g1⟩ := bnd_det h
      obtain ⟨n2, h2, g2⟩ := bnd_det h1
      obtain ⟨n3, h3, g3⟩ := bnd_det h2
      exact ⟨_, h3, fun K' hk => g1 _ (g2 _ (g3 _ hk))⟩
    · obtain ⟨n1, h1, g1⟩ := bnd_det h
      obtain ⟨n2, h2, g2⟩ := bnd_det h1
      obtain ⟨n3, h3, g3⟩ := bnd_det h2
      rw [asr_iff] at h3
      exact ⟨_, h3.2, fun K' hk => g1 _ (g2 _ (g3 _ (asr_iff.2 ⟨h3.1, hk⟩)))⟩
    · cases mx with
      | none =>
        obtain ⟨n1, h1, g1⟩ := bnd_det h
        obtain ⟨n2, h2, g2⟩ := bnd_det h1
        rw [asr_iff] at h2
        exact ⟨_, h2.2, fun K' hk => g1 _ (g2 _ (asr_iff.2 ⟨h2.1, hk⟩))⟩
      | some y => exact h.elim
    · obtain ⟨n1, h1, g1⟩ := bnd_det h
      obtain ⟨n2, h2, g2⟩ := bnd_det h1
      obtain ⟨n3, h3, g3⟩ := bnd_det h2
      rw [asr_iff] at h3
      exact ⟨_, h3.2, fun K' hk => g1 _ (g2 _ (g3 _ (asr_iff.2 ⟨h3.1, hk⟩)))⟩
    · exact h.elim
  case slStr x lo hi =>
    split at h
    · obtain ⟨n1, h1, g1⟩ := bnd_det h
      obtain ⟨n2, h2, g2⟩ := bnd_det h1
      exact ⟨_, h2, fun K' hk => g1 _ (g2 _ hk)⟩
    · exact h.elim
  case un op x =>
    generalize ev t x = z at h ⊢
    cases op <;> cases z <;> first | exact False.elim h | exact ⟨_, h, fun K' hk => hk⟩
  case beq neg x y =>
    generalize ev t x = z at h ⊢
    generalize ev t y = u at h ⊢
    cases z <;> cases u <;> first | exact False.elim h | exact ⟨_, h, fun K' hk => hk⟩
  case eqa neg ks x y =>
    generalize ev t x = z at h ⊢
    generalize ev t y = u at h ⊢
    cases z <;> cases u <;> first | exact False.elim h | skip
    rename_i xs ys
    simp only at h ⊢
    generalize eqO ks xs ys = r at h ⊢
    cases r <;> first | exact False.elim h | exact ⟨_, h, fun K' hk => hk⟩
  case conv k x =>
    generalize ev t x = z at h ⊢
    cases z <;> first | exact False.elim h | exact ⟨_, h, fun K' hk => hk⟩
  case build zs ps =>
    generalize fillA zs _ = z at h ⊢
    cases z <;> first | exact False.elim h | exact ⟨_, h, fun K' hk => hk⟩
  case faddr off x =>
    generalize ev t x = z at h ⊢
    cases z <;> first | exact False.elim h | exact ⟨_, h, fun K' hk => hk⟩
  case fld off x =>
    generalize ev t x = z at h ⊢
    cases z <;> first | exact False.elim h | skip
    rename_i cs
    simp only at h ⊢
    generalize cs[off]? = r at h ⊢
    cases r <;> first | exact False.elim h | exact ⟨_, h, fun K' hk => hk⟩
  case fldn off n x =>
    generalize ev t x = z at h ⊢
    cases z <;> first | exact False.elim h | exact ⟨_, h, fun K' hk => hk⟩
  case iaddrA len sz x i =>
    generalize ev t x = z at h ⊢
    generalize ev t i = u at h ⊢
    cases z <;> cases u <;> first | exact False.elim h | skip
    simp only [asr_iff] at h ⊢
    exact ⟨_, h.2, fun K' hk => ⟨h.1, hk⟩⟩
  case iaddrS sz x i =>
    generalize ev t x = z at h ⊢
    generalize ev t i = u at h ⊢
    cases z <;> cases u <;> first | exact False.elim h | skip
    all_goals simp only [asr_iff] at h ⊢
    · exact ⟨_, h.2, fun K' hk => ⟨h.1, hk⟩⟩
    · exact ⟨_, h.2.2, fun K' hk => ⟨h.1, h.2.1, hk⟩⟩
    · exact ⟨_, h.2, fun K' hk => ⟨h.1, hk⟩⟩
  case idx len x i =>
    generalize ev t x = z at h ⊢
    generalize ev t i = u at h ⊢
    cases z <;> cases u <;> first | exact False.elim h | skip
    rename_i cs _ n
    simp only [asr_iff] at h ⊢
    obtain ⟨h1, h2⟩ := h
    generalize cs[n.toNat]? = r at h2 ⊢
    cases r <;> first | exact False.elim h2 | exact ⟨_, h2, fun K' hk => ⟨h1, hk⟩⟩
  case idxn len sz x i =>
    generalize ev t x = z at h ⊢
    generalize ev t i = u at h ⊢
    cases z <;> cases u <;> first | exact False.elim h | skip
    simp only [asr_iff] at h ⊢
    exact ⟨_, h.2, fun K' hk => ⟨h.1, hk⟩⟩
  case sidx x i =>
    generalize ev t x = z at h ⊢
    generalize ev t i = u at h ⊢
    cases z <;> cases u <;> first | exact False.elim h | skip
    simp only [asr_iff] at h ⊢
    exact ⟨_, h.2, fun K' hk => ⟨h.1, hk⟩⟩
  case len x =>
    generalize ev t x = z at h ⊢
    cases z <;> first | exact False.elim h | exact ⟨_, h, fun K' hk => hk⟩
  case slen x =>
    generalize ev t x = z at h ⊢
    cases z <;> first | exact False.elim h | exact ⟨_, h, fun K' hk => hk⟩
  case cap x =>
    generalize ev t x = z at h ⊢
    cases z <;> first | exact False.elim h | exact ⟨_, h, fun K' hk => hk⟩
  case ext x i =>
    generalize ev t x = z at h ⊢
    cases z <;> first | exact False.elim h | skip
    rename_i cs
    simp only at h ⊢
    generalize cs[i]? = r at h ⊢
    cases r <;> first | exact False.elim h | exact ⟨_, h, fun K' hk => hk⟩
  case snil neg x =>
    generalize ev t x = z at h ⊢
    cases z <;> first | exact False.elim h | exact ⟨_, h, fun K' hk => hk⟩
  case ncheck x =>
    generalize ev t x = z at h ⊢
    cases z <;> first | exact False.elim h | exact ⟨_, h, fun K' hk => hk⟩

def isLd : MI → Bool
  | .load _ | .loadn .. => true
  | _ => false
def isQ (qf : FuncId → Bool) : MI → Bool
  | .callN f _ => qf f
  | _ => false
/-- A contract that comes to one value, which depends on nothing that may be added to memory. -/
def DetN (S : NSpec) : Prop := ∀ args H K, S args H K → ∃ r, K r ∧ ∀ H' K', H <+: H' → K' r → S args H' K'

theorem prefix_get {α : Type} {l l' : List α} (h : l <+: l') {i : Nat} {x : α} (e : l[i]? = some x) : l'[i]? = some x := by
  obtain ⟨t, rfl⟩ := h
  rw [List.getElem?_append_left (List.getElem?_eq_some_iff.1 e).1]
  exact e
theorem blkAt_mono {H H' : Heap} {id : Nat} {k k' : Blk → Prop} (hp : H <+: H') (h : blkAt H id k) (hk : ∀ B, k B → k' B) : blkAt H' id k' := by
  unfold blkAt at h ⊢
  split at h
  · rename_i B hB
    rw [prefix_get hp hB]
    exact hk _ h
  · exact h.elim
theorem blkAt_some {H : Heap} {id : Nat} {k : Blk → Prop} (h : blkAt H id k) : ∃ B, H[id]? = some (some B) ∧ k B := by
  unfold blkAt at h
  split at h
  · exact ⟨_, by assumption, h⟩
  · exact h.elim
theorem blkAt_of {H : Heap} {id : Nat} {k : Blk → Prop} {B : Blk} (h : H[id]? = some (some B)) (hk : k B) : blkAt H id k := by
  unfold blkAt
  rw [h]; exact hk

theorem load_det {Γ : Gam} {m : MI} {t : List AV} {H : Heap} {K : K1} (hm : isLd m = true) (h : val Γ m t H K) : ∃ r, K r H ∧ ∀ H' (K' : K1), H <+: H' → K' r H' → val Γ m t H' K' := by
  cases m <;> simp [isLd] at hm
  · rename_i x
    simp only [val] at h ⊢
    split at h
    · obtain ⟨B, hB, h⟩ := blkAt_some h
      rw [asr_iff] at h
      obtain ⟨h1, h2⟩ := h
      split at h2
      · rename_i a ha
        refine ⟨a, h2, fun H' K' hp hk => blkAt_of (prefix_get hp hB) ?_⟩
        rw [asr_iff, ha]
        exact ⟨h1, hk⟩
      · exact h2.elim
    · exact h.elim
  · rename_i n x
    simp only [val] at h ⊢
    split at h
    · obtain ⟨B, hB, h⟩ := blkAt_some h
      rw [asr_iff, asr_iff] at h
      refine ⟨_, h.2.2, fun H' K' hp hk => blkAt_of (prefix_get hp hB) ?_⟩
      rw [asr_iff, asr_iff]
      exact ⟨h.1, h.2.1, hk⟩
    · exact h.elim

theorem val_det {Γ : Gam} {qf : FuncId → Bool} (hq : ∀ f, qf f = true → DetN (Γ.n f)) {m : MI} {t : List AV} {H : Heap} {K : K1} (hm : (pureM m || (isLd m || isQ qf m)) = true) (h : val Γ m t H K) :
    ∃ r, K r H ∧ ∀ H' (K' : K1), (pureM m = false → H <+: H') → K' r H' → val Γ m t H' K' := by
  cases hp : pureM m with
  | true =>
    obtain ⟨r, h1, h2⟩ := pval_det (val_pure hp h)
    refine ⟨r, h1, fun H' K' _ hk => ?_⟩
    have := h2 (fun a => K' a H') hk
    cases m <;> first | exact this | (simp [pureM] at hp; done)
  | false =>
    rw [hp, Bool.false_or, Bool.or_eq_true] at hm
    rcases hm with hm | hm
    · obtain ⟨r, h1, h2⟩ := load_det hm h
      exact ⟨r, h1, fun H' K' hx hk => h2 H' K' (hx rfl) hk⟩
    · cases m <;> simp only [isQ] at hm <;> first | (simp at hm; done) | skip
      simp only [val] at h ⊢
      obtain ⟨r, h1, h2⟩ := hq _ hm _ _ _ h
      exact ⟨r, h1, fun H' K' hx hk => h2 H' _ (hx trivial) hk⟩

/-! ### Steps -/
def regsO (m : MOp) : List Nat :=
  match m.g with
  | none => regsM m.m
  | some (s, _) => s :: regsM m.m
def memN (l : List Nat) (n : Nat) : Bool := l.any fun s => s.beq n
def awayN (d : Option Nat) (l : List Nat) : Bool :=
  match d with
  | none => true
  | some n => !memN l n
def diffN (d e : Option Nat) : Bool :=
  match d, e with
  | some n, some k => !n.beq k
  | _, _ => true
def apartO (m n : MOp) : Bool := awayN m.d (regsO n) && awayN n.d (regsO m) && diffN m.d n.d

theorem getD_setD {t : List AV} {d : Option Nat} {a : AV} {s : Nat} (h : ∀ n, d = some n → n ≠ s) : (setD t d a).getD s undefA = t.getD s undefA := by
  cases d with
  | none => rfl
  | some n =>
    simp only [setD]
    rw [List.getD_eq_getElem?_getD, List.getElem?_set, if_neg (h n rfl), List.getD_eq_getElem?_getD]
theorem awayN_ne {d : Option Nat} {l : List Nat} (h : awayN d l = true) {s : Nat} (hs : s ∈ l) : ∀ n, d = some n → n ≠ s := by
  rintro n rfl rfl
  simp only [awayN, Bool.not_eq_true', memN] at h
  have := List.any_eq_false.1 h n hs
  simp at this
theorem agree_setD {t : List AV} {d : Option Nat} {a : AV} {l : List Nat} (h : awayN d l = true) : Agree t (setD t d a) l := fun s hs => getD_setD (awayN_ne h hs)
theorem setD_swap {t : List AV} {d e : Option Nat} (h : diffN d e = true) (a b : AV) : setD (setD t d a) e b = setD (setD t e b) d a := by
  cases d with
  | none => rfl
  | some n =>
    cases e with
    | none => rfl
    | some k =>
      have hne : n ≠ k := by
        rintro rfl
        simp [diffN] at h
      simp only [setD]
      exact List.set_comm _ _ hne
theorem set_b {t : List AV} {s : Nat} {y : Bool} (h : t.getD s undefA = .b y) : t.set s (.b y) = t := by
  refine set_same ?_
  rw [List.getD_eq_getElem?_getD] at h
  cases e : t[s]? with
  | none => rw [e] at h; simp [undefA] at h
  | some x => rw [e] at h; simp at h; rw [h]

/-- A step, with what is known of it in plain words. -/
theorem stepO_iff {Γ : Gam} {m : MOp} {t : List AV} {H : Heap} {K : KT} : stepO none Γ m t H K ↔
    match m.g with
    | none => val Γ m.m t H fun a H' => K (setD t m.d a) H'
    | some (s, want) => match t.getD s undefA with
      | .b x => if x = want then val Γ m.m t H fun a H' => K (setD t m.d a) H' else K (setD t m.d undefA) H
      | .v x => isTup x = true ∧ K (setD t m.d undefA) H
      | _ => False := by
  unfold stepO
  cases hg : m.g with
  | none => rfl
  | some p =>
    obtain ⟨s, want⟩ := p
    simp only
    cases hs : t.getD s undefA <;> simp only [asr_iff]
    rename_i x
    rw [br_iff, set_b hs]
    by_cases hx : x = want
    · subst hx; simp; rfl
    · rw [if_neg hx]
      have : (x == want) = false := by simpa using hx
      rw [this]; rfl

theorem stepO_apart {Γ : Gam} {m : MOp} {t : List AV} {H : Heap} {K : KT} {d : Option Nat} {r : AV} (h1 : awayN d (regsO m) = true) (h2 : diffN d m.d = true) (h : stepO none Γ m (setD t d r) H K) :
    stepO none Γ m t H fun u H' => K (setD u d r) H' := by
  rw [stepO_iff] at h ⊢
  have e : ∀ a, setD (setD t d r) m.d a = setD (setD t m.d a) d r := fun a => setD_swap h2 r a
  cases hg : m.g with
  | none =>
    rw [hg] at h
    have ha : Agree t (setD t d r) (regsM m.m) := agree_setD (by simpa [regsO, hg] using h1)
    simp only [e] at h
    rw [val_agree ha] at h
    exact h
  | some p =>
    obtain ⟨s, want⟩ := p
    rw [hg] at h
    have h1' : awayN d (s :: regsM m.m) = true := by simpa [regsO, hg] using h1
    have ha : Agree t (setD t d r) (regsM m.m) := fun x hx => getD_setD (awayN_ne h1' (by simp [hx]))
    have hs : (setD t d r).getD s undefA = t.getD s undefA := getD_setD (awayN_ne h1' (by simp))
    simp only [e, hs] at h
    simp only
    cases hx : t.getD s undefA <;> rw [hx] at h <;> simp only at h ⊢ <;> first | exact h | skip
    rename_i x
    split at h
    · rename_i hw
      rw [if_pos hw]
      rw [val_agree ha] at h
      exact h
    · rename_i hw
      rw [if_neg hw]
      exact h

theorem val_keep {Γ : Gam} {m : MI} {t : List AV} {H : Heap} {K K' : K1} (hm : keeps m = true) (hk : ∀ a H', H <+: H' → K a H' = K' a H') : val Γ m t H K = val Γ m t H K' := by
  have e0 : (fun a => K a H) = fun a => K' a H := funext fun a => hk a H (List.prefix_refl _)
  have e1 : ∀ a, K a H = K' a H := fun a => hk a H (List.prefix_refl _)
  have e2 : ∀ (a : AV) (l : Heap), K a (H ++ l) = K' a (H ++ l) := fun a l => hk a _ (List.prefix_append _ _)
  cases m <;> first
    | (simp [keeps] at hm; done)
    | (simp only [val, e0]; done)
    | (simp only [val, e1, e2]; done)

/-- What a step leaves: one register set, and, if it changes none, all blocks as they were. -/
theorem stepO_know {Γ : Gam} {m : MOp} {t : List AV} {H : Heap} {K : KT} (h : stepO none Γ m t H K) : stepO none Γ m t H fun t' H' => (∃ a, t' = setD t m.d a) ∧ (keeps m.m = true → H <+: H') ∧ K t' H' := by
  rw [stepO_iff] at h ⊢
  have hv : (val Γ m.m t H fun a H' => K (setD t m.d a) H') → val Γ m.m t H fun a H' => (∃ b, setD t m.d a = setD t m.d b) ∧ (keeps m.m = true → H <+: H') ∧ K (setD t m.d a) H' := fun h => by
    have e : (fun a H' => (∃ b, setD t m.d a = setD t m.d b) ∧ (keeps m.m = true → H <+: H') ∧ K (setD t m.d a) H') = fun a H' => (keeps m.m = true → H <+: H') ∧ K (setD t m.d a) H' := by
      funext a H'
      exact propext ⟨fun h => h.2, fun h => ⟨⟨a, rfl⟩, h⟩⟩
    rw [e]
    cases hk : keeps m.m with
    | false =>
      have e : (fun a H' => (false = true → H <+: H') ∧ K (setD t m.d a) H') = fun a H' => K (setD t m.d a) H' := by
        funext a H'
        exact propext ⟨fun h => h.2, fun h => ⟨fun x => by simp at x, h⟩⟩
      rw [e]; exact h
    | true =>
      rw [← val_keep hk (K := fun a H' => K (setD t m.d a) H') (fun a H' hp => propext ⟨fun h => ⟨fun _ => hp, h⟩, fun h => h.2⟩)]
      exact h
  cases hg : m.g with
  | none =>
    rw [hg] at h
    exact hv h
  | some p =>
    obtain ⟨s, want⟩ := p
    rw [hg] at h
    simp only at h ⊢
    cases hx : t.getD s undefA <;> rw [hx] at h <;> simp only at h ⊢ <;> first | exact h | skip
    · split at h
      · rename_i hw
        rw [if_pos hw]; exact hv h
      · rename_i hw
        rw [if_neg hw]
        exact ⟨⟨_, rfl⟩, fun _ => List.prefix_refl _, h⟩
    · exact ⟨h.1, ⟨_, rfl⟩, fun _ => List.prefix_refl _, h.2⟩

/-- A step that comes to one value whenever it is taken. -/
def OneV (Γ : Gam) (m : MOp) (t : List AV) (H : Heap) (r : AV) : Prop :=
  ∀ t' H' (K' : KT), Agree t t' (regsO m) → (pureM m.m = false → H <+: H') → K' (setD t' m.d r) H' → stepO none Γ m t' H' K'

theorem stepO_det {Γ : Gam} {qf : FuncId → Bool} (hq : ∀ f, qf f = true → DetN (Γ.n f)) {m : MOp} {t : List AV} {H : Heap} {K : KT} (hm : (pureM m.m || (isLd m.m || isQ qf m.m)) = true) (h : stepO none Γ m t H K) :
    ∃ r, K (setD t m.d r) H ∧ OneV Γ m t H r := by
  rw [stepO_iff] at h
  have hv : (val Γ m.m t H fun a H' => K (setD t m.d a) H') → ∃ r, K (setD t m.d r) H ∧ ∀ t' H' (K' : KT), Agree t t' (regsM m.m) → (pureM m.m = false → H <+: H') → K' (setD t' m.d r) H' → val Γ m.m t' H' fun a H'' => K' (setD t' m.d a) H'' := fun h => by
    obtain ⟨r, h1, h2⟩ := val_det hq hm h
    refine ⟨r, h1, fun t' H' K' ha hp hk => ?_⟩
    rw [val_agree ha]
    exact h2 H' (fun a H'' => K' (setD t' m.d a) H'') hp hk
  unfold OneV
  cases hg : m.g with
  | none =>
    rw [hg] at h
    obtain ⟨r, h1, h2⟩ := hv h
    refine ⟨r, h1, fun t' H' K' ha hp hk => ?_⟩
    rw [stepO_iff, hg]
    exact h2 t' H' K' (by simpa [regsO, hg] using ha) hp hk
  | some p =>
    obtain ⟨s, want⟩ := p
    rw [hg] at h
    simp only at h
    have hag : ∀ {t' : List AV}, Agree t t' (regsO m) → t'.getD s undefA = t.getD s undefA ∧ Agree t t' (regsM m.m) := fun ha => by
      have e : regsO m = s :: regsM m.m := by simp [regsO, hg]
      rw [e] at ha
      exact ⟨ha s (by simp), fun x hx => ha x (by simp [hx])⟩
    cases hx : t.getD s undefA <;> rw [hx] at h <;> simp only at h <;> first | exact h.elim | skip
    · split at h
      · rename_i hw
        obtain ⟨r, h1, h2⟩ := hv h
        refine ⟨r, h1, fun t' H' K' ha hp hk => ?_⟩
        rw [stepO_iff, hg]
        simp only [(hag ha).1, hx, if_pos hw]
        exact h2 t' H' K' (hag ha).2 hp hk
      · rename_i hw
        refine ⟨undefA, h, fun t' H' K' ha hp hk => ?_⟩
        rw [stepO_iff, hg]
        simp only [(hag ha).1, hx, if_neg hw]
        exact hk
    · refine ⟨undefA, h.2, fun t' H' K' ha hp hk => ?_⟩
      rw [stepO_iff, hg]
      simp only [(hag ha).1, hx]
      exact ⟨h.1, hk⟩

/-! ### All orders -/
def stepC (Γ : Gam) (m : MOp) (t : List AV) (H : Heap) (K : KT) : Prop := ∃ K0 : KT, stepO none Γ m t H K0 ∧ ∀ t' H', K0 t' H' → K t' H'
theorem stepC.mono {Γ : Gam} {m : MOp} {t : List AV} {H : Heap} {K K' : KT} (h : stepC Γ m t H K) (hk : ∀ t' H', K t' H' → K' t' H') : stepC Γ m t H K' := by
  obtain ⟨K0, h1, h2⟩ := h
  exact ⟨K0, h1, fun t' H' x => hk _ _ (h2 _ _ x)⟩

def AO (Γ : Gam) (ops : Array Oper) (mops : List MOp) (K : KT) : Nat → Array Bool → List AV → Heap → Prop
  | 0, l, t, H => Region.ready .any ops l = [] ∧ K t H
  | fuel + 1, l, t, H => (Region.ready .any ops l = [] → K t H) ∧ ∀ i ∈ Region.ready .any ops l, ∃ m, mops[i]? = some m ∧ stepC Γ m t H fun t' H' => AO Γ ops mops K fuel (l.setIfInBounds i true) t' H'

/-- An operation that may be taken first: none of the others that may come up before it touches what it touches. -/
def freeO (ops : Array Oper) (mops : List MOp) (l : Array Bool) (i : Nat) (m : MOp) : Prop :=
  ∀ j n, mops[j]? = some n → l.getD j true = false → j ≠ i → waitsB ops j i = false → apartO m n = true ∧ (pureM m.m = false → keeps n.m = true)

theorem AO_take {Γ : Gam} {ops : Array Oper} {mops : List MOp} {K : KT} {i : Nat} {m : MOp} (hi : mops[i]? = some m) {r : AV} : ∀ (fuel : Nat) (l : Array Bool) (t : List AV) (H : Heap),
    freeO ops mops l i m → i ∈ Region.ready .any ops l → OneV Γ m t H r → AO Γ ops mops K fuel (l.setIfInBounds i true) (setD t m.d r) H → AO Γ ops mops K (fuel + 1) l t H
  | 0, l, t, H, hf, hr, h1, h => by
    refine ⟨fun e => (by rw [e] at hr; cases hr), fun j hj => ?_⟩
    by_cases hji : j = i
    · subst hji
      exact ⟨m, hi, _, h1 t H (fun t' H' => AO Γ ops mops K 0 (l.setIfInBounds j true) t' H') (fun _ _ => rfl) (fun _ => List.prefix_refl _) h, fun _ _ x => x⟩
    · have := ready_mono hj hji
      rw [h.1] at this; cases this
  | fuel + 1, l, t, H, hf, hr, h1, h => by
    refine ⟨fun e => (by rw [e] at hr; cases hr), fun j hj => ?_⟩
    by_cases hji : j = i
    · subst hji
      exact ⟨m, hi, _, h1 t H (fun t' H' => AO Γ ops mops K (fuel + 1) (l.setIfInBounds j true) t' H') (fun _ _ => rfl) (fun _ => List.prefix_refl _) h, fun _ _ x => x⟩
    · obtain ⟨n, hn, K0, g1, g2⟩ := h.2 j (ready_mono hj hji)
      obtain ⟨hjun, oj, hoj, hall⟩ := mem_ready.1 hj
      have hw : waitsB ops j i = false := by
        unfold waitsB
        rw [hoj]
        simp only
        cases hb : oj.after.any fun e => Region.binds .any e && e.on == i with
        | false => rfl
        | true =>
          obtain ⟨e, he, hb⟩ := Array.any_eq_true'.1 hb
          simp only [Bool.and_eq_true, beq_iff_eq] at hb
          have h1 := hall e he hb.1
          have h0 := (mem_ready.1 hr).1
          rw [hb.2] at h1
          rcases Nat.lt_or_ge i l.size with h' | h'
          · simp [h'] at h0 h1; rw [h0] at h1; cases h1
          · simp [Array.getElem?_eq_none h'] at h1
      obtain ⟨hap, hkp⟩ := hf j n hn hjun hji hw
      simp only [apartO, Bool.and_eq_true] at hap
      have g3 := stepO_know (stepO_apart (d := m.d) (r := r) hap.1.1 hap.2 g1)
      refine ⟨n, hn, _, g3, fun t' H' ⟨⟨a, ha⟩, hpre, hk⟩ => ?_⟩
      have hk2 := g2 _ _ hk
      refine AO_take hi (r := r) fuel (l.setIfInBounds j true) t' H' (fun k p hp hun hki hwk => ?_) (ready_mono hr (Ne.symm hji)) (fun t2 H2 K2 hag hp2 hk2 => ?_) ?_
      · refine hf k p hp ?_ hki hwk
        by_cases hjk : j = k
        · subst hjk; exact hjun
        · rw [getD_set_ne true hjk] at hun; exact hun
      · refine h1 t2 H2 K2 (fun s hs => ?_) (fun hpm => (hpre (hkp hpm)).trans (hp2 hpm)) hk2
        rw [hag s hs, ha]
        exact getD_setD (awayN_ne hap.1.2 hs)
      · rw [Array.setIfInBounds_comm _ _ hji]
        exact hk2

theorem compL_get {P : Program} {eqs : TypeId → Option (List SK)} {neut : TypeId → Bool} {ops : Array Oper} : ∀ {l : List Oper} {ms : List MOp}, compL P eqs neut ops l = some ms → ∀ {i : Nat} {m : MOp}, ms[i]? = some m → ∃ o, l[i]? = some o ∧ compO P eqs neut ops o = some m
  | [], ms, h, i, m, e => by simp [compL] at h; subst h; simp at e
  | o :: l, ms, h, i, m, e => by
    simp only [compL] at h
    split at h
    · rename_i m' r h1 h2
      simp at h; subst h
      cases i with
      | zero => simp at e; subst e; exact ⟨o, rfl, h1⟩
      | succ i => simp at e; obtain ⟨o', k1, k2⟩ := compL_get h2 e; exact ⟨o', by simpa using k1, k2⟩
    · simp at h

theorem AO_sound {P : Program} {eqs : TypeId → Option (List SK)} {neut : TypeId → Bool} {Γ : Gam} (hΓ : Γ.ok P) (hE : ∀ ty ks, eqs ty = some ks → EqOK P ty ks) {ops : Array Oper} {mops : List MOp} (hm : compL P eqs neut ops ops.toList = some mops)
    {Q : Exit → Act → World → Prop} {K : KT} {w0 : World} {df : List Deferred} {ρ0 : List Loc} : ∀ (fuel : Nat) (l : Array Bool) {t : List AV} {a : Act} {w : World} {ρ : List Loc} {H : Heap}, TR ρ t a → Rel w0 ρ H w → a.defers = df → ρ0 <+: ρ →
      AO Γ ops mops K fuel l t H → (∀ a' w', Post w0 ρ0 K df a' w' → Q .normal a' w') → wpAny P .any ops Q fuel l a w
  | 0, l, t, a, w, ρ, H, hT, hR, hd, hp, h, hQ => ⟨h.1, hQ _ _ ⟨t, ρ, H, hp, hT, hR, hd, h.2⟩⟩
  | fuel + 1, l, t, a, w, ρ, H, hT, hR, hd, hp, h, hQ => by
    refine ⟨fun e => hQ _ _ ⟨t, ρ, H, hp, hT, hR, hd, h.1 e⟩, fun i hi => ?_⟩
    obtain ⟨m, em, K0, h1, h2⟩ := h.2 i hi
    obtain ⟨o, e1, e2⟩ := compL_get hm em
    refine wpOp_mono (fun a' w' hA => ?_) (stepO_sound hΓ hE (by simpa using e1) e2 hT hR h1)
    obtain ⟨t', ρ', H', k1, k2, k3, k4, k5, k6⟩ := hA
    exact AO_sound hΓ hE hm fuel _ k3 k4 (k5.trans hd) (hp.trans k1) (h2 _ _ k6) hQ

/-! ### The schedule -/
def takeable (qf : FuncId → Bool) (ops : Array Oper) (mops : List MOp) (l : Array Bool) (i : Nat) : Bool :=
  match mops[i]? with
  | some m => (pureM m.m || (isLd m.m || isQ qf m.m)) && (List.range mops.length).all fun j => l.getD j true || j.beq i || waitsB ops j i || match mops[j]? with
      | some n => apartO m n && (pureM m.m || keeps n.m)
      | none => false
  | none => false

def alts (mops : List MOp) (f : Nat → Option SchM) : List Nat → Option SchM
  | [] => none
  | [i] => match mops[i]?, f i with
    | some m, some r => some (.op m r)
    | _, _ => none
  | i :: rest => match mops[i]?, f i, alts mops f rest with
    | some m, some r, some s => some (.alt m r s)
    | _, _, _ => none

def sched (qf : FuncId → Bool) (ops : Array Oper) (mops : List MOp) : Nat → Array Bool → Option SchM
  | 0, listed => match Region.ready .any ops listed with
    | [] => some .done
    | _ => none
  | fuel + 1, listed =>
    let rs := Region.ready .any ops listed
    match rs.find? (takeable qf ops mops listed) with
    | some i => match mops[i]?, sched qf ops mops fuel (listed.setIfInBounds i true) with
      | some m, some r => some (.op m r)
      | _, _ => none
    | none => match rs with
      | [] => some .done
      | rs => alts mops (fun i => sched qf ops mops fuel (listed.setIfInBounds i true)) rs

theorem AO_done {Γ : Gam} {ops : Array Oper} {mops : List MOp} {K : KT} {l : Array Bool} {t : List AV} {H : Heap} (hr : Region.ready .any ops l = []) (h : K t H) : ∀ fuel, AO Γ ops mops K fuel l t H
  | 0 => ⟨hr, h⟩
  | _ + 1 => ⟨fun _ => h, by rw [hr]; simp⟩

theorem sched_AO {Γ : Gam} {qf : FuncId → Bool} (hq : ∀ f, qf f = true → DetN (Γ.n f)) {ops : Array Oper} {mops : List MOp} {K : KT} {h0 : Nat} : ∀ (fuel : Nat) (l : Array Bool) (s : SchM), sched qf ops mops fuel l = some s →
    ∀ {t : List AV} {H : Heap}, WS h0 Γ s t H K → AO Γ ops mops K fuel l t H := by
  intro fuel
  induction fuel with
  | zero =>
    intro l s hs t H hv
    simp only [sched] at hs
    split at hs
    · rename_i hr
      simp at hs; subst hs
      exact ⟨hr, hv⟩
    · simp at hs
  | succ fuel ih =>
    intro l s hs t H hv
    simp only [sched] at hs
    split at hs
    · rename_i i hfind
      split at hs
      · rename_i m r em er
        simp at hs; subst hs
        have hmem : i ∈ Region.ready .any ops l := List.mem_of_find?_eq_some hfind
        have htk := List.find?_some hfind
        simp only [takeable, em, Bool.and_eq_true] at htk
        obtain ⟨hk, hall⟩ := htk
        obtain ⟨v, g1, g2⟩ := stepO_det hq hk hv
        refine AO_take em fuel l t H (fun j n hn hun hji hw => ?_) hmem g2 (ih _ r er g1)
        have hlt := (List.getElem?_eq_some_iff.1 hn).1
        have := List.all_eq_true.1 hall j (List.mem_range.2 hlt)
        have hb : j.beq i = false := beq_no hji
        simp only [hun, hw, hn, hb, Bool.false_or, Bool.and_eq_true, Bool.or_eq_true] at this
        exact ⟨this.1, fun hp => by rcases this.2 with q | q; rw [hp] at q; cases q; exact q⟩
      · simp at hs
    · split at hs
      · rename_i hr
        simp at hs; subst hs
        exact AO_done hr hv _
      · rename_i hr
        refine ⟨fun e => absurd e hr, ?_⟩
        have gen : ∀ (rs : List Nat) (s : SchM), alts mops (fun i => sched qf ops mops fuel (l.setIfInBounds i true)) rs = some s → WS h0 Γ s t H K →
            ∀ i ∈ rs, ∃ m, mops[i]? = some m ∧ stepC Γ m t H fun t' H' => AO Γ ops mops K fuel (l.setIfInBounds i true) t' H' := by
          intro rs
          induction rs with
          | nil => intro s _ _ i hi; simp at hi
          | cons j rs ihl =>
            intro s ha hv i hi
            cases rs with
            | nil =>
              simp only [alts] at ha
              split at ha
              · rename_i m r em er
                simp at ha; subst ha
                have : i = j := by simpa using hi
                subst this
                exact ⟨m, em, _, hv, fun t' H' x => ih _ r er x⟩
              · simp at ha
            | cons j2 l2 =>
              simp only [alts] at ha
              split at ha
              · rename_i m r s' em er ha'
                simp at ha; subst ha
                obtain ⟨hv1, hv2⟩ := hv
                rcases List.mem_cons.1 hi with rfl | hi
                · exact ⟨m, em, _, hv1, fun t' H' x => ih _ r er x⟩
                · exact ihl s' ha' hv2 i hi
              · simp at ha
        exact gen _ s hs hv

theorem sched_sound {P : Program} {eqs : TypeId → Option (List SK)} {neut : TypeId → Bool} {Γ : Gam} {qf : FuncId → Bool} (hq : ∀ f, qf f = true → DetN (Γ.n f)) (hΓ : Γ.ok P) (hE : ∀ ty ks, eqs ty = some ks → EqOK P ty ks) {ops : Array Oper} {mops : List MOp} (hm : compL P eqs neut ops ops.toList = some mops)
    {Q : Exit → Act → World → Prop} {K : KT} {w0 : World} {df : List Deferred} {ρ0 : List Loc} (fuel : Nat) (listed : Array Bool) (s : SchM) (hs : sched qf ops mops fuel listed = some s)
    {t : List AV} {a : Act} {w : World} {H : Heap} {h0 : Nat} (hT : TR ρ0 t a) (hR : Rel w0 ρ0 H w) (hd : a.defers = df) (hv : WS h0 Γ s t H K) (hQ : ∀ a' w', Post w0 ρ0 K df a' w' → Q .normal a' w') : wpAny P .any ops Q fuel listed a w :=
  AO_sound hΓ hE hm fuel listed hT hR hd (List.prefix_refl _) (sched_AO hq fuel listed s hs hv) hQ
end Go.Proofs.Ytpfmnmcpffajeaa.V
