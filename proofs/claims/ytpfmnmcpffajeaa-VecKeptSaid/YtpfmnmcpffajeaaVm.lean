/-
  A second semantics of Go's operations. Part 13: the same semantics over registers in a tree, for runs at given values.
-/
import Derived.Test.YtpfmnmcpffajeaaVk
set_option linter.unusedVariables false
set_option linter.unusedSimpArgs false
namespace Go.Proofs.Ytpfmnmcpffajeaa.V
open Go Go.RowKit

inductive RQ where
  | l (a : AV)
  | n (x y : RQ)

noncomputable def getQ (r : RQ) : Nat → Nat → AV :=
  RQ.rec (motive := fun _ => Nat → Nat → AV) (fun a _ _ => a) (fun _ _ ihx ihy h n => cond (Nat.blt n h) (ihx (h / 2) n) (ihy (h / 2) (n - h))) r
noncomputable def setQ (a : AV) (r : RQ) : Nat → Nat → RQ :=
  RQ.rec (motive := fun _ => Nat → Nat → RQ) (fun _ _ _ => .l a) (fun x y ihx ihy h n => cond (Nat.blt n h) (.n (ihx (h / 2) n) y) (.n x (ihy (h / 2) (n - h)))) r
theorem getQ_n (x y : RQ) (h n : Nat) : getQ (.n x y) h n = cond (Nat.blt n h) (getQ x (h / 2) n) (getQ y (h / 2) (n - h)) := rfl
theorem setQ_n (a : AV) (x y : RQ) (h n : Nat) : setQ a (.n x y) h n = cond (Nat.blt n h) (.n (setQ a x (h / 2) n) y) (.n x (setQ a y (h / 2) (n - h))) := rfl

def full : Nat → RQ → Prop
  | 0, .l _ => True
  | D + 1, .n x y => full D x ∧ full D y
  | _, _ => False
def half : Nat → Nat
  | 0 => 0
  | D + 1 => 2 ^ D
theorem half_half (D : Nat) : half (D + 1) / 2 = half D := by
  cases D with
  | zero => rfl
  | succ D => simp only [half]; rw [Nat.pow_succ]; omega

theorem setQ_full (a : AV) : ∀ {D : Nat} {r : RQ} {n : Nat}, full D r → full D (setQ a r (half D) n)
  | 0, .l _, n, h => trivial
  | D + 1, .n x y, n, h => by
    rw [setQ_n, half_half]
    cases hb : Nat.blt n (half (D + 1)) with
    | true => exact ⟨setQ_full a h.1, h.2⟩
    | false => exact ⟨h.1, setQ_full a h.2⟩
  | 0, .n _ _, n, h => h.elim
  | D + 1, .l _, n, h => h.elim

theorem get_set (a : AV) : ∀ {D : Nat} {r : RQ} {n m : Nat}, full D r → n < 2 ^ D → m < 2 ^ D → getQ (setQ a r (half D) n) (half D) m = if n = m then a else getQ r (half D) m
  | 0, .l _, n, m, h, hn, hm => by
    have : n = m := by simp at hn hm; omega
    rw [if_pos this]; rfl
  | D + 1, .n x y, n, m, h, hn, hm => by
    have hp : 2 ^ (D + 1) = 2 ^ D + 2 ^ D := by rw [Nat.pow_succ]; omega
    have hh : half (D + 1) = 2 ^ D := rfl
    rw [setQ_n]
    cases hb : Nat.blt n (half (D + 1)) with
    | true =>
      have hb : n < 2 ^ D := by simpa [Nat.blt_eq, hh] using hb
      simp only [cond_true]
      rw [getQ_n, getQ_n, half_half]
      cases hc : Nat.blt m (half (D + 1)) with
      | true =>
        have hc : m < 2 ^ D := by simpa [Nat.blt_eq, hh] using hc
        exact get_set a h.1 hb hc
      | false =>
        have hc : ¬ m < 2 ^ D := by
          intro k
          have : Nat.blt m (half (D + 1)) = true := by simpa [Nat.blt_eq, hh] using k
          rw [this] at hc; cases hc
        rw [if_neg (by omega)]
        rfl
    | false =>
      have hb : ¬ n < 2 ^ D := by
        intro k
        have : Nat.blt n (half (D + 1)) = true := by simpa [Nat.blt_eq, hh] using k
        rw [this] at hb; cases hb
      simp only [cond_false]
      rw [getQ_n, getQ_n, half_half]
      cases hc : Nat.blt m (half (D + 1)) with
      | true =>
        have hc : m < 2 ^ D := by simpa [Nat.blt_eq, hh] using hc
        rw [if_neg (by omega)]
        rfl
      | false =>
        have hc : ¬ m < 2 ^ D := by
          intro k
          have : Nat.blt m (half (D + 1)) = true := by simpa [Nat.blt_eq, hh] using k
          rw [this] at hc; cases hc
        have := get_set a (n := n - half (D + 1)) (m := m - half (D + 1)) h.2 (by rw [hh]; omega) (by rw [hh]; omega)
        simp only [cond_false]
        rw [this]
        by_cases e : n = m
        · rw [if_pos e, if_pos (by omega)]
        · rw [if_neg e, if_neg (by rw [hh]; omega)]
  | 0, .n _ _, n, m, h, _, _ => h.elim
  | D + 1, .l _, n, m, h, _, _ => h.elim

def ofQ : Nat → List AV → RQ
  | 0, l => .l (l.headD undefA)
  | D + 1, l => .n (ofQ D (l.take (2 ^ D))) (ofQ D (l.drop (2 ^ D)))
theorem ofQ_full : ∀ (D : Nat) (l : List AV), full D (ofQ D l)
  | 0, _ => trivial
  | D + 1, l => ⟨ofQ_full D _, ofQ_full D _⟩
theorem getQ_of : ∀ (D : Nat) (l : List AV) (n : Nat), n < 2 ^ D → getQ (ofQ D l) (half D) n = l.getD n undefA
  | 0, l, n, h => by
    have : n = 0 := by simp at h; omega
    subst this
    cases l <;> rfl
  | D + 1, l, n, h => by
    have hp : 2 ^ (D + 1) = 2 ^ D + 2 ^ D := by rw [Nat.pow_succ]; omega
    have hh : half (D + 1) = 2 ^ D := rfl
    simp only [ofQ]
    rw [getQ_n, half_half]
    cases hb : Nat.blt n (half (D + 1)) with
    | true =>
      have hb : n < 2 ^ D := by simpa [Nat.blt_eq, hh] using hb
      simp only [cond_true]
      rw [getQ_of D _ n hb, List.getD_eq_getElem?_getD, List.getD_eq_getElem?_getD, List.getElem?_take, if_pos hb]
    | false =>
      have hb : ¬ n < 2 ^ D := by
        intro k
        have : Nat.blt n (half (D + 1)) = true := by simpa [Nat.blt_eq, hh] using k
        rw [this] at hb; cases hb
      simp only [cond_false]
      rw [getQ_of D _ _ (by rw [hh]; omega), List.getD_eq_getElem?_getD, List.getD_eq_getElem?_getD, List.getElem?_drop, hh]
      congr 2; omega

noncomputable def evq (N h : Nat) (r : RQ) (m : MO) : AV :=
  match m with
  | .t n => cond (Nat.blt n N) (getQ r h n) undefA
  | .c a => a

structure Rq (D N : Nat) (r : RQ) (t : List AV) : Prop where
  full : full D r
  len : t.length = N
  le : N ≤ 2 ^ D
  get : ∀ n, n < N → getQ r (half D) n = t.getD n undefA

theorem Rq.ev {D N : Nat} {r : RQ} {t : List AV} (h : Rq D N r t) (m : MO) : evq N (half D) r m = ev t m := by
  cases m with
  | t n =>
    simp only [evq, V.ev]
    cases hb : Nat.blt n N with
    | true => exact h.get n (by simpa [Nat.blt_eq] using hb)
    | false =>
      have : ¬ n < N := by
        intro k
        have : Nat.blt n N = true := by simpa [Nat.blt_eq] using k
        rw [this] at hb; cases hb
      simp only [cond_false]
      rw [List.getD_eq_getElem?_getD, List.getElem?_eq_none (by rw [h.len]; omega)]; rfl
  | c a => rfl

noncomputable def setDQ (N h : Nat) (r : RQ) (d : Option Nat) (a : AV) : RQ :=
  match d with
  | none => r
  | some n => cond (Nat.blt n N) (setQ a r h n) r
theorem Rq.set {D N : Nat} {r : RQ} {t : List AV} (h : Rq D N r t) (d : Option Nat) (a : AV) : Rq D N (setDQ N (half D) r d a) (setD t d a) := by
  cases d with
  | none => exact h
  | some n =>
    simp only [setDQ, setD]
    cases hb : Nat.blt n N with
    | true =>
      have hn : n < N := by simpa [Nat.blt_eq] using hb
      refine ⟨setQ_full a h.full, by simp [h.len], h.le, fun m hm => ?_⟩
      simp only [cond_true]
      rw [get_set a h.full (Nat.lt_of_lt_of_le hn h.le) (Nat.lt_of_lt_of_le hm h.le)]
      rw [List.getD_eq_getElem?_getD, List.getElem?_set]
      by_cases e : n = m
      · subst e
        rw [if_pos rfl, if_pos rfl, if_pos (by rw [h.len]; exact hn)]; rfl
      · rw [if_neg e, if_neg e, h.get m hm, List.getD_eq_getElem?_getD]
    | false =>
      have : ¬ n < N := by
        intro k
        have : Nat.blt n N = true := by simpa [Nat.blt_eq] using k
        rw [this] at hb; cases hb
      simp only [cond_false]
      rw [List.set_eq_of_length_le (by rw [h.len]; omega)]
      exact h

/-! ### Instructions with their operands put in -/
def rsp (E : MO → AV) (p : Nat × Nat × MO) : Nat × Nat × MO := (p.1, p.2.1, .c (E p.2.2))
def rso (E : MO → AV) (x : Option MO) : Option MO :=
  match x with
  | none => none
  | some m => some (.c (E m))
def rsl (E : MO → AV) (xs : List MO) : List MO := xs.map fun m => .c (E m)
def resolve (E : MO → AV) (m : MI) : MI :=
  match m with
  | .mv x => .mv (.c (E x))
  | .pick c a b => .pick (.c (E c)) (.c (E a)) (.c (E b))
  | .un op x => .un op (.c (E x))
  | .bin op x y => .bin op (.c (E x)) (.c (E y))
  | .beq n x y => .beq n (.c (E x)) (.c (E y))
  | .eqa n ks x y => .eqa n ks (.c (E x)) (.c (E y))
  | .conv k x => .conv k (.c (E x))
  | .build zs ps => .build zs (ps.map (rsp E))
  | .faddr o x => .faddr o (.c (E x))
  | .fld o x => .fld o (.c (E x))
  | .fldn o n x => .fldn o n (.c (E x))
  | .iaddrA l s x i => .iaddrA l s (.c (E x)) (.c (E i))
  | .iaddrS s x i => .iaddrS s (.c (E x)) (.c (E i))
  | .idx l x i => .idx l (.c (E x)) (.c (E i))
  | .idxn l s x i => .idxn l s (.c (E x)) (.c (E i))
  | .sidx x i => .sidx (.c (E x)) (.c (E i))
  | .slA l s x a b => .slA l s (.c (E x)) (rso E a) (rso E b)
  | .slS s x a b c => .slS s (.c (E x)) (rso E a) (rso E b) (rso E c)
  | .slStr x a b => .slStr (.c (E x)) (rso E a) (rso E b)
  | .len x => .len (.c (E x))
  | .slen x => .slen (.c (E x))
  | .cap x => .cap (.c (E x))
  | .mnmx b x xs => .mnmx b (.c (E x)) (rsl E xs)
  | .ext x i => .ext (.c (E x)) i
  | .mkf f cs => .mkf f (rsl E cs)
  | .ncheck x => .ncheck (.c (E x))
  | .snil b x => .snil b (.c (E x))
  | .load x => .load (.c (E x))
  | .loadn n x => .loadn n (.c (E x))
  | .box t x => .box t (.c (E x))
  | .alloc t zs => .alloc t zs
  | .bslice t n zs ps => .bslice t n zs (ps.map (rsp E))
  | .store n x v => .store n (.c (E x)) (.c (E v))
  | .callN f us => .callN f (rsl E us)
  | .callG f us => .callG f (rsl E us)
  | .callV x us => .callV (.c (E x)) (rsl E us)
  | .app t s b x y => .app t s b (.c (E x)) (.c (E y))
  | .mksl t b zs l c => .mksl t b zs (.c (E l)) (.c (E c))
  | .carry s x y c => .carry s (.c (E x)) (.c (E y)) (.c (E c))
  | .bad => .bad

theorem bnd_rso {t t' : List AV} {E : MO → AV} (h : ∀ m, E m = ev t m) (x : Option MO) (d top : Nat) (K : Nat → Prop) : bnd t' (rso E x) d top K = bnd t x d top K := by
  cases x with
  | none => rfl
  | some m => simp only [rso, bnd, ev, h]

theorem val_resolve {Γ : Gam} {E : MO → AV} {t t' : List AV} (h : ∀ m, E m = ev t m) (m : MI) (H : Heap) (K : K1) : val Γ (resolve E m) t' H K = val Γ m t H K := by
  have hc : ∀ a : AV, ev t' (.c a) = a := fun _ => rfl
  have hl : ∀ xs : List MO, (rsl E xs).map (ev t') = xs.map (ev t) := fun xs => by
    simp only [rsl, List.map_map]
    exact List.map_congr_left fun x _ => by simp [hc, h]
  have hp : ∀ ps : List (Nat × Nat × MO), (ps.map (rsp E)).map (evp t') = ps.map (evp t) := fun ps => by
    simp only [List.map_map]
    exact List.map_congr_left fun x _ => by simp [rsp, evp, hc, h]
  cases m <;> simp only [resolve, val, pval, hc, h, hl, hp, bnd_rso h]
  all_goals
    rename_i sz x lo hi mx
    cases mx <;> rfl

theorem valL_resolve {Γ : Gam} {E : MO → AV} {t t' : List AV} (h : ∀ m, E m = ev t m) (h0 : Option Nat) (m : MI) (H : Heap) (K : K1) : valL h0 Γ (resolve E m) t' H K = valL h0 Γ m t H K := by
  have hc : ∀ a : AV, ev t' (.c a) = a := fun _ => rfl
  have hv := val_resolve (Γ := Γ) (t' := t') h m H K
  cases h0 with
  | none => simpa [valL] using hv
  | some n =>
    cases m <;> first
      | (simp only [resolve, valL, hc, h] at hv ⊢; simp only [hv]; done)
      | (simp only [resolve, valL] at hv ⊢; exact hv)

def qMv (a : AV) (H : Heap) (K : K1) : Prop := K a H
def qBin (op : BinOp) (x y : AV) (H : Heap) (K : K1) : Prop := binV op x y fun a => K a H
def qConv (k : IntKind) (x : AV) (H : Heap) (K : K1) : Prop :=
  match x with
  | .i _ n => K (.i k (k.wrap n)) H
  | _ => False
def qLoad (x : AV) (H : Heap) (K : K1) : Prop :=
  match x with
  | .ptr id ix c => blkAt H id fun B => asr (Nat.blt ix B.n) (match (B.f ix)[c]? with
    | some a => K a H
    | none => False)
  | _ => False
def qBox (ty : TypeId) (x : AV) (H : Heap) (K : K1) : Prop := K (.ptr H.length 0 0) (H ++ [lit ty (cellsA x)])
def qFaddr (off : Nat) (x : AV) (H : Heap) (K : K1) : Prop :=
  match x with
  | .ptr id ix c => K (.ptr id ix (c + off)) H
  | _ => False
def qExt (x : AV) (i : Nat) (H : Heap) (K : K1) : Prop :=
  match x with
  | .tup vs => match vs[i]? with
    | some a => K a H
    | none => False
  | _ => False
def qPick (c a b : AV) (H : Heap) (K : K1) : Prop :=
  match c with
  | .b x => cond x (K a H) (K b H)
  | _ => False
def qCallN (S : NSpec) (args : List AV) (H : Heap) (K : K1) : Prop := S args H fun a => K a H

def valQ (Γ : Gam) (E : MO → AV) (m : MI) (H : Heap) (K : K1) : Prop :=
  match m with
  | .mv x => qMv (E x) H K
  | .bin op x y => qBin op (E x) (E y) H K
  | .conv k x => qConv k (E x) H K
  | .load x => qLoad (E x) H K
  | .box ty x => qBox ty (E x) H K
  | .faddr o x => qFaddr o (E x) H K
  | .ext x i => qExt (E x) i H K
  | .pick c a b => qPick (E c) (E a) (E b) H K
  | .callN f args => qCallN (Γ.n f) (args.map E) H K
  | .callG f args => Γ.g f (args.map E) H K
  | m => val Γ (resolve E m) [] H K

theorem valQ_eq {Γ : Gam} {E : MO → AV} {t : List AV} (h : ∀ m, E m = ev t m) (m : MI) (H : Heap) (K : K1) : valQ Γ E m H K = val Γ m t H K := by
  have hl : ∀ xs : List MO, xs.map E = xs.map (ev t) := fun xs => List.map_congr_left fun x _ => h x
  cases m <;> first
    | (simp only [valQ]; exact val_resolve h _ H K)
    | (simp only [valQ, qMv, qBin, qConv, qLoad, qBox, qFaddr, qExt, qPick, qCallN, val, pval, h, hl]; done)
    | (simp only [valQ, qMv, qBin, qConv, qLoad, qBox, qFaddr, qExt, qPick, qCallN, val, pval, h, hl]; generalize ev t _ = z; cases z <;> rfl)

noncomputable def valLQ (h0 : Option Nat) (Γ : Gam) (E : MO → AV) (m : MI) (H : Heap) (K : K1) : Prop :=
  match h0 with
  | none => valQ Γ E m H K
  | some n => valL (some n) Γ (resolve E m) [] H K
theorem valLQ_eq {h0 : Option Nat} {Γ : Gam} {E : MO → AV} {t : List AV} (h : ∀ m, E m = ev t m) (m : MI) (H : Heap) (K : K1) : valLQ h0 Γ E m H K = valL h0 Γ m t H K := by
  cases h0 with
  | none => simp only [valLQ]; rw [valQ_eq h]; rfl
  | some n => simp only [valLQ]; exact valL_resolve h (some n) m H K

abbrev KQT := RQ → Heap → Prop
def gateQ (want x : Bool) (yes no : Prop) : Prop := cond x (cond want yes no) (cond want no yes)
noncomputable def stepQ (N h : Nat) (h0 : Option Nat) (Γ : Gam) (m : MOp) (r : RQ) (H : Heap) (K : KQT) : Prop :=
  match m.g with
  | none => valLQ h0 Γ (evq N h r) m.m H fun a H' => K (setDQ N h r m.d a) H'
  | some (s, want) => match evq N h r (.t s) with
    | .b x => gateQ want x (valLQ h0 Γ (evq N h r) m.m H fun a H' => K (setDQ N h r m.d a) H') (K (setDQ N h r m.d undefA) H)
    | .v x => asr (isTup x) (K (setDQ N h r m.d undefA) H)
    | _ => False

theorem set_sameQ {t : List AV} {s : Nat} {y : Bool} (h : t.getD s undefA = .b y) : t.set s (.b y) = t := by
  apply List.ext_getElem?
  intro i
  rw [List.getElem?_set]
  by_cases e : s = i
  · subst e
    rw [if_pos rfl]
    rw [List.getD_eq_getElem?_getD] at h
    by_cases hl : s < t.length
    · rw [if_pos hl]
      rw [List.getElem?_eq_getElem hl] at h ⊢
      simp at h; rw [h]
    · rw [if_neg hl, List.getElem?_eq_none (by omega)]
  · rw [if_neg e]

/-- What holds of all values of a tree's registers holds of a list's. -/
def Over (D N : Nat) (Kq : KQT) (K : KT) : Prop := ∀ r t H, Rq D N r t → Kq r H → K t H

theorem valL_imp {h0 : Option Nat} {Γ : Gam} {m : MI} {t : List AV} {H : Heap} {K K' : K1} (hk : K = K') (h : valL h0 Γ m t H K) : valL h0 Γ m t H K' := hk ▸ h

theorem stepQ_eq {D N : Nat} {h0 : Option Nat} {Γ : Gam} {m : MOp} {r : RQ} {t : List AV} {H : Heap} {K : KT} {Kq : KQT} (hr : Rq D N r t) (hK : ∀ r t H, Rq D N r t → Kq r H = K t H) :
    stepQ N (half D) h0 Γ m r H Kq = stepO h0 Γ m t H K := by
  unfold stepQ stepO
  have e1 : (fun a H' => Kq (setDQ N (half D) r m.d a) H') = fun a H' => K (setD t m.d a) H' := by
    funext a H'
    exact hK _ _ _ (hr.set m.d a)
  cases hg : m.g with
  | none =>
    simp only
    rw [valLQ_eq (t := t) (fun x => hr.ev x), e1]
  | some p =>
    obtain ⟨s, want⟩ := p
    simp only
    rw [hr.ev]
    have hev : ev t (.t s) = t.getD s undefA := rfl
    rw [hev]
    cases hs : t.getD s undefA <;> simp only
    rotate_left
    · rw [hK _ _ _ (hr.set m.d undefA)]
    rename_i x
    have e2 : Kq (setDQ N (half D) r m.d undefA) H = K (setD t m.d undefA) H := hK _ _ _ (hr.set m.d undefA)
    rw [valLQ_eq (t := t) (fun x => hr.ev x), e1, e2]
    cases x <;> cases want <;> simp only [gateQ, br, cond_true, cond_false] <;> rw [set_sameQ hs] <;> rfl

noncomputable def stepsQ (N h : Nat) (Γ : Gam) (l : List MOp) : RQ → Heap → KQT → Prop :=
  List.rec (motive := fun _ => RQ → Heap → KQT → Prop) (fun r H K => K r H) (fun m _ ih r H K => stepQ N h none Γ m r H fun r' H' => ih r' H' K) l
theorem stepsQ_eq {D N : Nat} {Γ : Gam} : ∀ {l : List MOp} {r : RQ} {t : List AV} {H : Heap} {K : KT} {Kq : KQT}, Rq D N r t → (∀ r t H, Rq D N r t → Kq r H = K t H) →
    stepsQ N (half D) Γ l r H Kq = steps Γ l t H K
  | [], r, t, H, K, Kq, hr, hK => hK _ _ _ hr
  | m :: l, r, t, H, K, Kq, hr, hK => stepQ_eq (K := fun t' H' => steps Γ l t' H' K) hr fun r' t' H' hr' => stepsQ_eq hr' hK

noncomputable def WSQ (N h h0 : Nat) (Γ : Gam) (s : SchM) : RQ → Heap → KQT → Prop :=
  SchM.rec (motive := fun _ => RQ → Heap → KQT → Prop) (fun r H K => K r H) (fun m _ ih r H K => stepQ N h none Γ m r H fun r' H' => ih r' H' K)
    (fun m _ ih r H K => stepQ N h (some h0) Γ m r H fun r' H' => ih r' H' K) (fun m _ _ ih ih2 r H K => (stepQ N h none Γ m r H fun r' H' => ih r' H' K) ∧ ih2 r H K) s
theorem WSQ_eq {D N h0 : Nat} {Γ : Gam} : ∀ {s : SchM} {r : RQ} {t : List AV} {H : Heap} {K : KT} {Kq : KQT}, Rq D N r t → (∀ r t H, Rq D N r t → Kq r H = K t H) →
    WSQ N (half D) h0 Γ s r H Kq = WS h0 Γ s t H K
  | .done, r, t, H, K, Kq, hr, hK => hK _ _ _ hr
  | .op m s, r, t, H, K, Kq, hr, hK => stepQ_eq (K := fun t' H' => WS h0 Γ s t' H' K) hr fun r' t' H' hr' => WSQ_eq hr' hK
  | .ld m s, r, t, H, K, Kq, hr, hK => stepQ_eq (K := fun t' H' => WS h0 Γ s t' H' K) hr fun r' t' H' hr' => WSQ_eq hr' hK
  | .alt m s s2, r, t, H, K, Kq, hr, hK => by
    have h1 := stepQ_eq (m := m) (h0 := none) (Γ := Γ) (H := H) (K := fun t' H' => WS h0 Γ s t' H' K) (Kq := fun r' H' => WSQ N (half D) h0 Γ s r' H' Kq) hr fun r' t' H' hr' => WSQ_eq hr' hK
    have h2 := WSQ_eq (s := s2) (h0 := h0) (Γ := Γ) (H := H) hr hK
    exact congr (congrArg And h1) h2

abbrev KQ := Ex → RQ → Heap → Prop
abbrev FQ := RQ → Heap → KQ → Prop
def qSkip : FQ := fun r H K => K .normal r H
def qRet : FQ := fun r H K => K .ret r H
def qExit (i : Nat) : FQ := fun r H K => K (.exit i) r H
noncomputable def qSeq (a b : FQ) : FQ := fun r H K => a r H fun e r' H' => Ex.rec (b r' H' K) (fun i => K (.exit i) r' H') (K .ret r' H') e
noncomputable def qBlock (id : Nat) (a : FQ) : FQ := fun r H K => a r H fun e r' H' => Ex.rec (K .normal r' H') (fun i => cond (i.beq id) (K .normal r' H') (K (.exit i) r' H')) (K .ret r' H') e
noncomputable def qIf (x : AV) (a b : Prop) : Prop :=
  match x with
  | .b c => cond c a b
  | _ => False
noncomputable def qCond (N h : Nat) (x : MO) (a b : FQ) : FQ := fun r H K => qIf (evq N h r x) (a r H K) (b r H K)
noncomputable def iterQ (F : FQ) (n : Nat) : FQ := Nat.rec (fun _ _ _ => False) (fun _ ih r H K => F r H fun e r' H' => Ex.rec (ih r' H' K) (fun i => K (.exit i) r' H') (K .ret r' H') e) n
noncomputable def qLoop (U : Nat) (F : FQ) : FQ := iterQ F U

noncomputable def WQ (N h : Nat) (Γ : Gam) (U : Nat) (c : MC) : FQ :=
  MC.rec (motive := fun _ => FQ) qSkip (fun l r H K => stepsQ N h Γ l r H (K .normal)) (fun s r H K => WSQ N h H.length Γ s r H (K .normal))
    (fun _ _ a b => qSeq a b) (fun x _ _ a b => qCond N h x a b) (fun id _ a => qBlock id a) (fun _ a => qLoop U a) qExit qRet c

theorem WQ_imp {D N : Nat} {Γ : Gam} {U : Nat} : ∀ (c : MC) {r : RQ} {t : List AV} {H : Heap} {K : KE} {Kq : KQ}, Rq D N r t → (∀ e r t H, Rq D N r t → Kq e r H = K e t H) → 0 < U →
    WQ N (half D) Γ U c r H Kq = W Γ U c t H K := by
  intro c
  induction c with
  | skip => intro r t H K Kq hr hK hU; exact hK _ _ _ _ hr
  | ops l => intro r t H K Kq hr hK hU; exact stepsQ_eq hr fun r t H hr => hK .normal r t H hr
  | dr s => intro r t H K Kq hr hK hU; exact WSQ_eq hr fun r t H hr => hK .normal r t H hr
  | seq a b iha ihb =>
    intro r t H K Kq hr hK hU
    refine iha hr (fun e r' t' H' hr' => ?_) hU
    cases e
    · exact ihb hr' hK hU
    · exact hK _ _ _ _ hr'
    · exact hK _ _ _ _ hr'
  | cond x a b iha ihb =>
    intro r t H K Kq hr hK hU
    show qIf (evq N (half D) r x) (WQ N (half D) Γ U a r H Kq) (WQ N (half D) Γ U b r H Kq) = _
    rw [hr.ev, iha hr hK hU, ihb hr hK hU]
    cases x with
    | t s =>
      have hev : ev t (.t s) = t.getD s undefA := rfl
      rw [hev]
      simp only [W]
      cases hs : t.getD s undefA <;> simp only [qIf]
      rename_i c
      cases c <;> simp only [br, cond_true, cond_false] <;> rw [set_sameQ hs]
    | c av => cases av <;> rfl
  | block id a ih =>
    intro r t H K Kq hr hK hU
    refine ih hr (fun e r' t' H' hr' => ?_) hU
    cases e with
    | normal => exact hK _ _ _ _ hr'
    | exit i =>
      show _root_.cond (i.beq id) (Kq .normal r' H') (Kq (.exit i) r' H') = _root_.cond (i.beq id) (K .normal t' H') (K (.exit i) t' H')
      rw [hK _ _ _ _ hr', hK _ _ _ _ hr']
    | ret => exact hK _ _ _ _ hr'
  | loop a ih =>
    intro r t H K Kq hr hK hU
    have gen : ∀ n {r : RQ} {t : List AV} {H : Heap}, Rq D N r t → iterQ (WQ N (half D) Γ U a) n r H Kq = iterW (W Γ U a) n t H K := by
      intro n
      induction n with
      | zero => intro r t H hr; rfl
      | succ n ihn =>
        intro r t H hr
        refine ih hr (fun e r' t' H' hr' => ?_) hU
        cases e
        · exact ihn hr'
        · exact hK _ _ _ _ hr'
        · exact hK _ _ _ _ hr'
    have := gen U (H := H) hr
    show iterQ (WQ N (half D) Γ U a) U r H Kq = loopW (W Γ U a) U t H K
    rw [this]
    cases U with
    | zero => exact absurd hU (by omega)
    | succ U => rfl
  | exit i => intro r t H K Kq hr hK hU; exact hK _ _ _ _ hr
  | ret => intro r t H K Kq hr hK hU; exact hK _ _ _ _ hr

def resQ (E : MO → AV) (r : RV) (H : Heap) (K : AV → Prop) : Prop :=
  match r with
  | .tmp n => K (E (.t n))
  | .cell n => resW (.cell 0) [E (.t n)] H K
  | .cells n k => resW (.cells 0 k) [E (.t n)] H K
def ressQ (E : MO → AV) : List RV → Heap → (List AV → Prop) → Prop
  | [], _, K => K []
  | r :: rs, H, K => resQ E r H fun a => ressQ E rs H fun as => K (a :: as)
theorem ressQ_eq {E : MO → AV} {t : List AV} (h : ∀ m, E m = ev t m) (H : Heap) : ∀ (rs : List RV) (K : List AV → Prop), ressQ E rs H K = ressW rs t H K
  | [], K => rfl
  | r :: rs, K => by
    have e : (fun a => ressQ E rs H fun as => K (a :: as)) = fun a => ressW rs t H fun as => K (a :: as) := by
      funext a
      exact ressQ_eq h H rs _
    simp only [ressQ, ressW]
    rw [e]
    cases r <;> simp only [resQ, resW, h, ev] <;> rfl

noncomputable def WFQ (D : Nat) (Γ : Gam) (U : Nat) (fm : FM) : Spec := fun args H K =>
  asr (Nat.ble (args.length + (fm.nt - args.length)) (2 ^ D) && Nat.blt 0 U) (WQ (args.length + (fm.nt - args.length)) (half D) Γ U fm.mc (ofQ D (args ++ List.replicate (fm.nt - args.length) undefA)) H fun e r H' =>
    Ex.rec (ressQ (evq (args.length + (fm.nt - args.length)) (half D) r) fm.res H' fun as => K (tupA as) H') (fun _ => False) (ressQ (evq (args.length + (fm.nt - args.length)) (half D) r) fm.res H' fun as => K (tupA as) H') e)

theorem WFQ_imp {D : Nat} {Γ : Gam} {U : Nat} {fm : FM} {args : List AV} {H : Heap} {K : K1} (h : WFQ D Γ U fm args H K) : WF Γ U fm args H K := by
  unfold WFQ at h
  rw [asr_iff] at h
  obtain ⟨h1, h2⟩ := h
  simp only [Bool.and_eq_true] at h1
  have hN := Nat.le_of_ble_eq_true h1.1
  have hU : 0 < U := by simpa [Nat.blt_eq] using h1.2
  have hr : Rq D (args.length + (fm.nt - args.length)) (ofQ D (args ++ List.replicate (fm.nt - args.length) undefA)) (args ++ List.replicate (fm.nt - args.length) undefA) :=
    ⟨ofQ_full D _, by simp, hN, fun n hn => getQ_of D _ n (Nat.lt_of_lt_of_le hn hN)⟩
  unfold WF
  rw [← WQ_imp fm.mc hr ?_ hU]
  · exact h2
  · intro e r t H' hr'
    have hk : ressQ (evq (args.length + (fm.nt - args.length)) (half D) r) fm.res H' (fun as => K (tupA as) H') = ressW fm.res t H' fun as => K (tupA as) H' := ressQ_eq (fun m => hr'.ev m) H' _ _
    cases e
    · exact hk
    · rfl
    · exact hk

theorem WFQ_sound {P : Program} {f : FuncId} {D : Nat} {Γ : Gam} {U : Nat} {fm : FM} (h : SoundG P f (WF Γ U fm)) : SoundG P f (WFQ D Γ U fm) :=
  fun args H K hv => h args H K (WFQ_imp hv)

noncomputable def nOfQ (D : Nat) (Γ : Gam) (U : Nat) (fm : FM) : NSpec := fun args _ K => asr (plainL args) (WFQ D Γ U fm args [] fun a _ => asr (plainA a) (K a))
theorem nOfQ_ok {P : Program} {f : FuncId} {D : Nat} {Γ : Gam} {U : Nat} {fm : FM} (hG : SoundG P f (WF Γ U fm)) : SoundN P f (nOfQ D Γ U fm) :=
  fun args H K h => nOf_ok hG args H K (by
    unfold nOfQ at h
    unfold nOf
    rw [asr_iff] at h ⊢
    exact ⟨h.1, WFQ_imp h.2⟩)
def RowQ (D : Nat) (Γ : Gam) (U : Nat) (fm : FM) (row : List AV × AV) : Prop := ∀ K : AV → Prop, nOfQ D Γ U fm row.1 [] K = K row.2
def RowsQ (D : Nat) (Γ : Gam) (U : Nat) (fm : FM) : List (List AV × AV) → Prop
  | [] => True
  | r :: rs => RowQ D Γ U fm r ∧ RowsQ D Γ U fm rs
theorem tabQ_ok {P : Program} {f : FuncId} {D : Nat} {Γ : Gam} {U : Nat} {fm : FM} (hG : SoundG P f (WF Γ U fm)) : ∀ {rows : List (List AV × AV)}, RowsQ D Γ U fm rows → SoundN P f (tabN rows)
  | [], _ => fun args H K h => h.elim
  | (as, r) :: rows, hr => fun args H K h => by
    simp only [tabN] at h
    cases hb : avsEq as args with
    | true =>
      rw [hb] at h
      obtain rfl := avsEq_eq hb
      refine nOfQ_ok (D := D) hG as H K ?_
      have := hr.1 K
      simp only [nOfQ] at this ⊢
      rw [this]; exact h
    | false =>
      rw [hb] at h
      exact tabQ_ok hG hr.2 args H K h
end Go.Proofs.Ytpfmnmcpffajeaa.V
