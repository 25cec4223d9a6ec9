/-
  A second semantics of Go's operations. Part 10: code and functions.
-/
import Derived.Test.YtpfmnmcpffajeaaVi
import Derived.Scope
set_option linter.unusedVariables false
set_option linter.unusedSimpArgs false
namespace Go.Proofs.Ytpfmnmcpffajeaa.V
open Go Go.RowKit

inductive MC where
  | skip
  | ops (l : List MOp)
  | dr (s : SchM)
  | seq (a b : MC)
  | cond (x : MO) (a b : MC)
  | block (id : Nat) (a : MC)
  | loop (a : MC)
  | exit (id : Nat)
  | ret
  deriving Inhabited

inductive Ex where
  | normal
  | exit (id : Nat)
  | ret

abbrev KE := Ex → List AV → Heap → Prop

def iterW (F : List AV → Heap → KE → Prop) : Nat → List AV → Heap → KE → Prop
  | 0, _, _, _ => False
  | n + 1, t, H, K => F t H fun e t' H' => match e with
    | .normal => iterW F n t' H' K
    | e => K e t' H'

/-! ### Loops by invariants -/
mutual
/-- The blocks that a value names, from 'n0' on. -/
def idsA (n0 : Nat) : AV → List Nat
  | .ptr id _ _ => cond (Nat.ble n0 id) [id] []
  | .slc id _ _ _ _ => cond (Nat.ble n0 id) [id] []
  | .sls id _ _ _ _ => cond (Nat.ble n0 id) [id] []
  | .sla id _ => cond (Nat.ble n0 id) [id, id + 1] []
  | .fn _ caps => idsL n0 caps
  | .agg cs => idsL n0 cs
  | .tup vs => idsL n0 vs
  | _ => []
def idsL (n0 : Nat) : List AV → List Nat
  | [] => []
  | a :: as => idsA n0 a ++ idsL n0 as
end
mutual
/-- All blocks that a value names lie below 'n0'. -/
def lowA (n0 : Nat) : AV → Bool
  | .ptr id _ _ => Nat.blt id n0
  | .slc id _ _ _ _ => Nat.blt id n0
  | .sls id _ _ _ _ => Nat.blt id n0
  | .sla id _ => Nat.blt (id + 1) n0
  | .fn _ caps => lowL n0 caps
  | .agg cs => lowL n0 cs
  | .tup vs => lowL n0 vs
  | _ => true
def lowL (n0 : Nat) : List AV → Bool
  | [] => true
  | a :: as => lowA n0 a && lowL n0 as
end
def posI : List Nat → Nat → Nat → Option Nat
  | [], _, _ => none
  | s :: r, id, k => cond (s.beq id) (some k) (posI r id (k + 1))
def newI (n0 : Nat) (σ : List Nat) (id : Nat) : Option Nat := cond (Nat.blt id n0) (some id) (posI σ id n0)
mutual
/-- A value with its blocks named anew. -/
def renA (n0 : Nat) (σ : List Nat) : AV → Option AV
  | .i k n => some (.i k n)
  | .b x => some (.b x)
  | .s x => some (.s x)
  | .nslc => some .nslc
  | .v x => some (.v x)
  | .ptr id ix c => match newI n0 σ id with
    | some j => some (.ptr j ix c)
    | none => none
  | .slc id ix c l cap => match newI n0 σ id with
    | some j => some (.slc j ix c l cap)
    | none => none
  | .sls id ix e l cap => match newI n0 σ id with
    | some j => some (.sls j ix e l cap)
    | none => none
  | .sla id l => match newI n0 σ id, newI n0 σ (id + 1) with
    | some j, some j' => cond (j'.beq (j + 1)) (some (.sla j l)) none
    | _, _ => none
  | .fn f caps => match renL n0 σ caps with
    | some as => some (.fn f as)
    | none => none
  | .agg cs => match renL n0 σ cs with
    | some as => some (.agg as)
    | none => none
  | .tup vs => match renL n0 σ vs with
    | some as => some (.tup as)
    | none => none
def renL (n0 : Nat) (σ : List Nat) : List AV → Option (List AV)
  | [] => some []
  | a :: as => match renA n0 σ a, renL n0 σ as with
    | some a, some as => some (a :: as)
    | _, _ => none
end
def memI : List Nat → Nat → Bool
  | [], _ => false
  | s :: r, id => s.beq id || memI r id
def addsI : List Nat → List Nat → List Nat
  | σ, [] => σ
  | σ, i :: r => addsI (cond (memI σ i) σ (σ ++ [i])) r
def nodupI : List Nat → Bool
  | [] => true
  | s :: r => !memI r s && nodupI r
def geI (n0 : Nat) : List Nat → Bool
  | [] => true
  | s :: r => Nat.ble n0 s && geI n0 r
/-- The blocks from 'n0' on that the registers name that are kept. -/
def keptI (n0 : Nat) : List Bool → List AV → List Nat → List Nat
  | k :: ks, a :: as, σ => keptI n0 ks as (cond k (addsI σ (idsA n0 a)) σ)
  | _, _, σ => σ
def canT (n0 : Nat) (σ : List Nat) (js : Nat → AV) : List Bool → List AV → Nat → Option (List AV)
  | _, [], _ => some []
  | [], _ :: as, i => match canT n0 σ js [] as (i + 1) with
    | some r => some (js i :: r)
    | none => none
  | k :: ks, a :: as, i => match cond k (renA n0 σ a) (some (js i)), canT n0 σ js ks as (i + 1) with
    | some b, some r => some (b :: r)
    | _, _ => none
def nextIs (i : Nat) : List Nat → Bool
  | j :: _ => j.beq (i + 1)
  | [] => false
def keepB (ok : Bool) (B : Option Blk) : Option Blk :=
  match B with
  | none => none
  | some B => cond (B.room.beq 0 || ok) (some B) none
def mapH (H : Heap) : List Nat → Heap
  | [] => []
  | i :: r => keepB (nextIs i r) (H.getD i none) :: mapH H r
def endOK (n0 : Nat) (H : Heap) : Bool :=
  match n0 with
  | 0 => true
  | m + 1 => match H.getD m none with
    | some B => B.room.beq 0
    | none => true
def lowH (n0 : Nat) : Heap → Prop
  | [] => True
  | none :: r => lowH n0 r
  | some B :: r => (∀ ix, ix < B.n → lowL n0 (B.f ix) = true) ∧ lowH n0 r

/-- The state behind a round, at the head again: registers that aren't kept hold anything; blocks that none of the kept ones name are given up. -/
def Next (n0 : Nat) (keep : List Bool) (Q : List AV → Heap → Prop) (t : List AV) (H : Heap) : Prop :=
  ∀ js : Nat → AV, match canT n0 (keptI n0 keep t []) js keep t 0 with
    | some t' => asr (nodupI (keptI n0 keep t []) && geI n0 (keptI n0 keep t []) && endOK n0 H) (lowH n0 (H.take n0 ++ mapH H (keptI n0 keep t [])) ∧ Q t' (H.take n0 ++ mapH H (keptI n0 keep t [])))
    | none => False

section
variable {ρ : List Loc} {n0 : Nat} {σ : List Nat}
def mapρ (ρ : List Loc) (σ : List Nat) : List Loc := σ.map fun i => ρ.getD i (0, 0, 0)

theorem posI_get : ∀ {σ : List Nat} {id k j : Nat}, posI σ id k = some j → k ≤ j ∧ σ[j - k]? = some id
  | s :: r, id, k, j, h => by
    simp only [posI] at h
    cases hb : s.beq id with
    | true =>
      rw [hb] at h
      simp at h; subst h
      have := Nat.eq_of_beq_eq_true hb
      simp [this]
    | false =>
      rw [hb] at h
      obtain ⟨h1, h2⟩ := posI_get (σ := r) h
      refine ⟨by omega, ?_⟩
      rw [show j - k = (j - (k + 1)) + 1 by omega]
      simpa using h2

theorem newρ {id j : Nat} {L : Loc} (hn : n0 ≤ ρ.length) (h : newI n0 σ id = some j) (hL : ρ[id]? = some L) : (ρ.take n0 ++ mapρ ρ σ)[j]? = some L := by
  unfold newI at h
  cases hb : Nat.blt id n0 with
  | true =>
    rw [hb] at h
    simp at h; subst h
    have : id < n0 := by simpa [Nat.blt_eq] using hb
    rw [List.getElem?_append_left (by simp; omega), List.getElem?_take, if_pos this]
    exact hL
  | false =>
    rw [hb] at h
    simp only [cond_false] at h
    obtain ⟨h1, h2⟩ := posI_get h
    have hl : (ρ.take n0).length = n0 := by simp; omega
    rw [List.getElem?_append_right (by omega), hl]
    unfold mapρ
    rw [List.getElem?_map, h2]
    simp [hL]

theorem lowρ {id : Nat} {L : Loc} (hn : n0 ≤ ρ.length) (h : Nat.blt id n0 = true) (hL : ρ[id]? = some L) (x : List Loc) : (ρ.take n0 ++ x)[id]? = some L := by
  have : id < n0 := by simpa [Nat.blt_eq] using h
  rw [List.getElem?_append_left (by simp; omega), List.getElem?_take, if_pos this]
  exact hL

theorem R.low (hn : n0 ≤ ρ.length) (x : List Loc) {a : AV} {v : Value} (h : R ρ a v) : lowA n0 a = true → R (ρ.take n0 ++ x) a v :=
  R.rec (motive_1 := fun a v _ => lowA n0 a = true → R (ρ.take n0 ++ x) a v) (motive_2 := fun as vs _ => lowL n0 as = true → RL (ρ.take n0 ++ x) as vs)
    (fun k n _ => .i k n) (fun x _ => .b x) (fun x _ => .s x)
    (fun h hp => .ptr (lowρ hn (by simpa [lowA] using hp) h x)) (fun h hp => .slc (lowρ hn (by simpa [lowA] using hp) h x)) (fun h hp => .sls (lowρ hn (by simpa [lowA] using hp) h x))
    (fun h hc hl hp => by
      have hp : Nat.blt _ n0 = true := hp
      refine .sla (lowρ hn ?_ h x) (lowρ hn hp hc x) hl
      simp [Nat.blt_eq] at hp ⊢
      omega)
    (fun _ => .nslc) (fun _ ih hp => .fn (ih (by simpa [lowA] using hp))) (fun _ ih hp => .agg (ih (by simpa [lowA] using hp))) (fun _ ih hp => .tup (ih (by simpa [lowA] using hp)))
    (fun h _ => .v h) (fun _ => .nil)
    (fun _ _ ih1 ih2 hp => by
      simp only [lowL, Bool.and_eq_true] at hp
      exact .cons (ih1 hp.1) (ih2 hp.2)) h
theorem RL.low (hn : n0 ≤ ρ.length) (x : List Loc) : ∀ {as : List AV} {vs : List Value}, RL ρ as vs → lowL n0 as = true → RL (ρ.take n0 ++ x) as vs
  | [], _, h, _ => by cases h; exact .nil
  | _ :: _, _, h, hp => by
    simp only [lowL, Bool.and_eq_true] at hp
    cases h with | cons h t => exact .cons (h.low hn x hp.1) (RL.low hn x t hp.2)

theorem R.ren (hn : n0 ≤ ρ.length) {a : AV} {v : Value} (h : R ρ a v) : ∀ {b : AV}, renA n0 σ a = some b → R (ρ.take n0 ++ mapρ ρ σ) b v :=
  R.rec (motive_1 := fun a v _ => ∀ {b : AV}, renA n0 σ a = some b → R (ρ.take n0 ++ mapρ ρ σ) b v) (motive_2 := fun as vs _ => ∀ {bs : List AV}, renL n0 σ as = some bs → RL (ρ.take n0 ++ mapρ ρ σ) bs vs)
    (fun k n b h => by simp [renA] at h; subst h; exact .i k n) (fun x b h => by simp [renA] at h; subst h; exact .b x) (fun x b h => by simp [renA] at h; subst h; exact .s x)
    (fun h b hb => by
      simp only [renA] at hb
      split at hb
      · rename_i j hj
        simp at hb; subst hb
        exact .ptr (newρ hn hj h)
      · simp at hb)
    (fun h b hb => by
      simp only [renA] at hb
      split at hb
      · rename_i j hj
        simp at hb; subst hb
        exact .slc (newρ hn hj h)
      · simp at hb)
    (fun h b hb => by
      simp only [renA] at hb
      split at hb
      · rename_i j hj
        simp at hb; subst hb
        exact .sls (newρ hn hj h)
      · simp at hb)
    (fun h hc hl b hb => by
      simp only [renA] at hb
      split at hb
      · rename_i j j' hj hj'
        cases hq : j'.beq (j + 1) with
        | false => rw [hq] at hb; simp at hb
        | true =>
          rw [hq] at hb
          simp at hb; subst hb
          have := Nat.eq_of_beq_eq_true hq
          subst this
          exact .sla (newρ hn hj h) (newρ hn hj' hc) hl
      · simp at hb)
    (fun h => by simp [renA] at h; subst h; exact .nslc)
    (fun _ ih b hb => by
      simp only [renA] at hb
      split at hb
      · rename_i as has
        simp at hb; subst hb
        exact .fn (ih has)
      · simp at hb)
    (fun _ ih b hb => by
      simp only [renA] at hb
      split at hb
      · rename_i as has
        simp at hb; subst hb
        exact .agg (ih has)
      · simp at hb)
    (fun _ ih b hb => by
      simp only [renA] at hb
      split at hb
      · rename_i as has
        simp at hb; subst hb
        exact .tup (ih has)
      · simp at hb)
    (fun hx b hb => by simp [renA] at hb; subst hb; exact .v hx)
    (fun hb => by simp [renL] at hb; subst hb; exact .nil)
    (fun _ _ ih1 ih2 bs hb => by
      simp only [renL] at hb
      split at hb
      · rename_i a as h1 h2
        simp at hb; subst hb
        exact .cons (ih1 h1) (ih2 h2)
      · simp at hb) h

theorem R.some_of (ρ : List Loc) : ∀ (n : Nat) (y : Value), SizeOf.sizeOf y ≤ n → ∃ a, R ρ a y
  | 0, y, h => by cases y <;> simp at h
  | n + 1, y, h => by
    cases hy : notAgg y with
    | true => exact ⟨.v y, .v hy⟩
    | false =>
      cases y <;> simp [notAgg] at hy
      rename_i cs
      have key : ∀ l : List Value, (∀ u ∈ l, SizeOf.sizeOf u ≤ n) → ∃ as, RL ρ as l := by
        intro l
        induction l with
        | nil => intro _; exact ⟨[], .nil⟩
        | cons u r ih =>
          intro hl
          obtain ⟨a, ha⟩ := R.some_of ρ n u (hl u (by simp))
          obtain ⟨as, has⟩ := ih fun u hu => hl u (by simp [hu])
          exact ⟨a :: as, .cons ha has⟩
      obtain ⟨as, has⟩ := key cs.toList fun u hu => by
        have := Array.sizeOf_lt_of_mem (Array.mem_def.2 hu)
        simp at h; omega
      exact ⟨.agg as, by simpa using R.agg has⟩

theorem canT_sound (hn : n0 ≤ ρ.length) {js : Nat → AV} : ∀ {keep : List Bool} {t : List AV} {vs : List Value} {i : Nat} {t' : List AV}, RL ρ t vs → (∀ j v, vs[j]? = some v → R (ρ.take n0 ++ mapρ ρ σ) (js (i + j)) v) →
    canT n0 σ js keep t i = some t' → RL (ρ.take n0 ++ mapρ ρ σ) t' vs
  | keep, [], vs, i, t', h, hj, hc => by
    cases h
    cases keep <;> simp [canT] at hc <;> subst hc <;> exact .nil
  | [], a :: as, vs, i, t', h, hj, hc => by
    cases h with | cons h t =>
    simp only [canT] at hc
    split at hc
    · rename_i r hr
      simp at hc; subst hc
      exact .cons (hj 0 _ rfl) (canT_sound hn t (fun j v hv => by have := hj (j + 1) v (by simpa using hv); rwa [show i + (j + 1) = i + 1 + j by omega] at this) hr)
    · simp at hc
  | k :: ks, a :: as, vs, i, t', h, hj, hc => by
    cases h with | cons h t =>
    simp only [canT] at hc
    split at hc
    · rename_i b r hb hr
      simp at hc; subst hc
      refine .cons ?_ (canT_sound hn t (fun j v hv => by have := hj (j + 1) v (by simpa using hv); rwa [show i + (j + 1) = i + 1 + j by omega] at this) hr)
      cases k with
      | true => exact h.ren hn hb
      | false =>
        simp at hb; subst hb
        exact hj 0 _ rfl
    · simp at hc

theorem lowH_get : ∀ {H : Heap} {id : Nat} {B : Blk}, lowH n0 H → H[id]? = some (some B) → ∀ ix, ix < B.n → lowL n0 (B.f ix) = true
  | none :: r, 0, B, h, e => by simp at e
  | none :: r, id + 1, B, h, e => lowH_get (H := r) (by simpa [lowH] using h) (by simpa using e)
  | some C :: r, 0, B, h, e => by
    simp at e; subst e
    exact h.1
  | some C :: r, id + 1, B, h, e => lowH_get (H := r) h.2 (by simpa using e)

theorem lowL_get : ∀ {as : List AV} {c : Nat} {a : AV}, lowL n0 as = true → as[c]? = some a → lowA n0 a = true
  | a :: as, 0, b, h, e => by
    simp only [lowL, Bool.and_eq_true] at h
    simp at e; subst e; exact h.1
  | a :: as, c + 1, b, h, e => by
    simp only [lowL, Bool.and_eq_true] at h
    exact lowL_get (as := as) h.2 (by simpa using e)

theorem mapH_get {H : Heap} : ∀ {σ : List Nat} {k : Nat} {B : Blk}, (mapH H σ)[k]? = some (some B) → ∃ i, σ[k]? = some i ∧ H[i]? = some (some B) ∧ (0 < B.room → σ[k + 1]? = some (i + 1))
  | i :: r, 0, B, h => by
    simp only [mapH, List.getElem?_cons_zero, Option.some.injEq] at h
    refine ⟨i, rfl, ?_⟩
    unfold keepB at h
    split at h
    · simp at h
    · rename_i C hC
      have hC' : H[i]? = some (some C) := by
        rw [List.getD_eq_getElem?_getD] at hC
        cases e : H[i]? with
        | none => rw [e] at hC; simp at hC
        | some x => rw [e] at hC; simp at hC; rw [hC]
      cases hr : (C.room.beq 0 || nextIs i r) with
      | false => rw [hr] at h; simp at h
      | true =>
        rw [hr] at h
        simp at h; subst h
        refine ⟨hC', fun hpos => ?_⟩
        have : C.room.beq 0 = false := by
          cases e : C.room.beq 0 with
          | false => rfl
          | true => have := Nat.eq_of_beq_eq_true e; omega
        rw [this] at hr
        simp only [Bool.false_or] at hr
        cases r with
        | nil => simp [nextIs] at hr
        | cons j r =>
          simp only [nextIs] at hr
          have := Nat.eq_of_beq_eq_true hr
          simp [this]
  | i :: r, k + 1, B, h => by
    simp only [mapH, List.getElem?_cons_succ] at h
    obtain ⟨j, h1, h2, h3⟩ := mapH_get (σ := r) h
    exact ⟨j, by simpa using h1, h2, fun hp => by simpa using h3 hp⟩

theorem mapH_length {H : Heap} : ∀ σ : List Nat, (mapH H σ).length = σ.length
  | [] => rfl
  | i :: r => by simp [mapH, mapH_length r]

theorem memI_get : ∀ {σ : List Nat} {k id : Nat}, σ[k]? = some id → memI σ id = true
  | s :: r, 0, id, h => by simp at h; subst h; simp [memI]
  | s :: r, k + 1, id, h => by
    simp only [memI, Bool.or_eq_true]
    exact .inr (memI_get (σ := r) (by simpa using h))
theorem nodupI_inj : ∀ {σ : List Nat} {j k id : Nat}, nodupI σ = true → σ[j]? = some id → σ[k]? = some id → j = k
  | s :: r, 0, 0, id, _, _, _ => rfl
  | s :: r, 0, k + 1, id, h, h1, h2 => by
    simp only [nodupI, Bool.and_eq_true, Bool.not_eq_true'] at h
    simp at h1; subst h1
    rw [memI_get (σ := r) (by simpa using h2)] at h
    simp at h
  | s :: r, j + 1, 0, id, h, h1, h2 => by
    simp only [nodupI, Bool.and_eq_true, Bool.not_eq_true'] at h
    simp at h2; subst h2
    rw [memI_get (σ := r) (by simpa using h1)] at h
    simp at h
  | s :: r, j + 1, k + 1, id, h, h1, h2 => by
    simp only [nodupI, Bool.and_eq_true] at h
    have := nodupI_inj (σ := r) (j := j) (k := k) h.2 (by simpa using h1) (by simpa using h2)
    omega

theorem geI_get : ∀ {σ : List Nat} {k id : Nat}, geI n0 σ = true → σ[k]? = some id → n0 ≤ id
  | s :: r, 0, id, h, e => by
    simp only [geI, Bool.and_eq_true] at h
    simp at e; subst e; exact Nat.le_of_ble_eq_true h.1
  | s :: r, k + 1, id, h, e => by
    simp only [geI, Bool.and_eq_true] at h
    exact geI_get (σ := r) h.2 (by simpa using e)

/-- Blocks that are given up, and named anew. -/
theorem Rel.canon {w0 w : World} {H : Heap} (h : Rel w0 ρ H w) (hn : n0 ≤ H.length) (hd : nodupI σ = true) (hge : geI n0 σ = true) (he : endOK n0 H = true) (hl : lowH n0 (H.take n0 ++ mapH H σ)) :
    Rel w0 (ρ.take n0 ++ mapρ ρ σ) (H.take n0 ++ mapH H σ) w := by
  have hlen := h.len
  have hρ : n0 ≤ ρ.length := by omega
  have hA : (H.take n0).length = n0 := by simp; omega
  have hB : (ρ.take n0).length = n0 := by simp; omega
  -- where a block came from
  have from_ : ∀ {id : Nat} {B : Blk}, (H.take n0 ++ mapH H σ)[id]? = some (some B) → ∃ i, H[i]? = some (some B) ∧ (∀ L, ρ[i]? = some L → (ρ.take n0 ++ mapρ ρ σ)[id]? = some L) ∧
      ((id < n0 ∧ i = id) ∨ (n0 ≤ id ∧ σ[id - n0]? = some i)) ∧ (0 < B.room → ∀ L, ρ[i + 1]? = some L → (ρ.take n0 ++ mapρ ρ σ)[id + 1]? = some L) := by
    intro id B e
    by_cases hid : id < n0
    · rw [List.getElem?_append_left (by omega), List.getElem?_take, if_pos hid] at e
      refine ⟨id, e, fun L hL => by rw [List.getElem?_append_left (by omega), List.getElem?_take, if_pos hid]; exact hL, .inl ⟨hid, rfl⟩, fun hr L hL => ?_⟩
      have : id + 1 < n0 := by
        rcases Nat.lt_or_ge (id + 1) n0 with q | q
        · exact q
        · have : n0 = id + 1 := by omega
          subst this
          unfold endOK at he
          simp only [List.getD_eq_getElem?_getD, e, Option.getD_some] at he
          have := Nat.eq_of_beq_eq_true he
          omega
      rw [List.getElem?_append_left (by omega), List.getElem?_take, if_pos this]; exact hL
    · rw [List.getElem?_append_right (by omega), hA] at e
      obtain ⟨i, h1, h2, h3⟩ := mapH_get e
      refine ⟨i, h2, fun L hL => ?_, .inr ⟨by omega, h1⟩, fun hr L hL => ?_⟩
      · rw [List.getElem?_append_right (by omega), hB]
        unfold mapρ
        rw [List.getElem?_map, h1]
        simp [hL]
      · rw [List.getElem?_append_right (by omega), hB, show id + 1 - n0 = id - n0 + 1 by omega]
        unfold mapρ
        rw [List.getElem?_map, h3 hr]
        simp [hL]
  refine ⟨by simp [mapH_length, mapρ, hlen], h.below, fun id B e => ?_, fun i j B C b o e b' o' e' h1 h2 h3 h4 h5 h6 => ?_, fun id B e r => ?_⟩
  · obtain ⟨i, k1, k2, k3, k4⟩ := from_ e
    obtain ⟨b, o, g1, g2⟩ := h.blk i B k1
    refine ⟨b, o, k2 _ g1, fun ix c a hx ha => ?_, g2.wide, g2.own, g2.old, g2.one⟩
    obtain ⟨v, q1, q2⟩ := g2.cell ix c a hx ha
    exact ⟨v, q1, q2.low hρ _ (lowL_get (lowH_get hl e ix hx) ha)⟩
  · obtain ⟨p, p1, p2, p3, _⟩ := from_ h1
    obtain ⟨q, q1, q2, q3, _⟩ := from_ h2
    obtain ⟨b1, o1, g1, _⟩ := h.blk p B p1
    obtain ⟨b2, o2, g2, _⟩ := h.blk q C q1
    have e1 := p2 _ g1
    have e2 := q2 _ g2
    rw [h4] at e1
    rw [h5] at e2
    simp at e1 e2
    have := h.dist p q B C b1 o1 _ b2 o2 _ p1 q1 h3 g1 g2 (by omega)
    subst this
    rcases p3 with ⟨a1, a2⟩ | ⟨a1, a2⟩ <;> rcases q3 with ⟨c1, c2⟩ | ⟨c1, c2⟩
    · omega
    · have := geI_get hge c2
      omega
    · have := geI_get hge a2
      omega
    · have := nodupI_inj hd a2 c2
      omega
  · obtain ⟨i, k1, k2, k3, k4⟩ := from_ e
    obtain ⟨b, o, C, n, cs, g1, g2, g⟩ := h.room i B k1 r
    exact ⟨b, o, C, n, cs, k2 _ g1, k4 r _ g2, g⟩
end

theorem Next.sound {w0 w : World} {ρ : List Loc} {n0 : Nat} {keep : List Bool} {Q : List AV → Heap → Prop} {t : List AV} {H : Heap} {a : Act} (hT : TR ρ t a) (hR : Rel w0 ρ H w) (hn : n0 ≤ H.length) (h : Next n0 keep Q t H) :
    ∃ t' ρ' H', ρ.take n0 <+: ρ' ∧ TR ρ' t' a ∧ Rel w0 ρ' H' w ∧ Q t' H' := by
  have hlen := hR.len
  unfold Next at h
  generalize hσ : keptI n0 keep t [] = σ at h
  have hex : ∀ j, ∃ x, ∀ v, a.tmps.toList[j]? = some v → R (ρ.take n0 ++ mapρ ρ σ) x v := fun j => by
    obtain ⟨x, hx⟩ := R.some_of (ρ.take n0 ++ mapρ ρ σ) _ (a.tmps.toList.getD j undef) (Nat.le_refl _)
    refine ⟨x, fun v hv => ?_⟩
    rw [List.getD_eq_getElem?_getD, hv] at hx
    exact hx
  obtain ⟨js, hjs⟩ : ∃ js : Nat → AV, ∀ j v, a.tmps.toList[j]? = some v → R (ρ.take n0 ++ mapρ ρ σ) (js j) v := ⟨fun j => (hex j).choose, fun j => (hex j).choose_spec⟩
  have h := h js
  split at h
  · rename_i t' ht'
    rw [asr_iff] at h
    obtain ⟨hb, hl, hq⟩ := h
    simp only [Bool.and_eq_true] at hb
    refine ⟨t', _, _, List.prefix_append _ _, canT_sound (by omega) hT (fun j v hv => by simpa using hjs j v hv) ht', hR.canon hn hb.1.1 hb.1.2 hb.2 hl, hq⟩
  · exact h.elim

/-- A loop by an invariant with a measure. -/
def loopI (F : List AV → Heap → KE → Prop) (t : List AV) (H : Heap) (K : KE) : Prop :=
  ∃ (keep : List Bool) (I : Nat → List AV → Heap → Prop), (∃ n, I n t H) ∧ ∀ n t1 H1, I n t1 H1 → F t1 H1 fun e t' H' => match e with
    | .normal => Next H.length keep (fun t2 H2 => ∃ m, m < n ∧ I m t2 H2) t' H'
    | e => K e t' H'

def loopW (F : List AV → Heap → KE → Prop) (U : Nat) (t : List AV) (H : Heap) (K : KE) : Prop :=
  match U with
  | 0 => loopI F t H K
  | U + 1 => iterW F (U + 1) t H K

def W (Γ : Gam) (U : Nat) : MC → List AV → Heap → KE → Prop
  | .skip, t, H, K => K .normal t H
  | .ops l, t, H, K => steps Γ l t H (K .normal)
  | .dr s, t, H, K => WS H.length Γ s t H (K .normal)
  | .seq a b, t, H, K => W Γ U a t H fun e t' H' => match e with
    | .normal => W Γ U b t' H' K
    | e => K e t' H'
  | .cond x a b, t, H, K => match x with
    | .t s => match t.getD s undefA with
      | .b c => br c fun y => _root_.cond y (W Γ U a (t.set s (.b y)) H K) (W Γ U b (t.set s (.b y)) H K)
      | _ => False
    | .c (.b c) => _root_.cond c (W Γ U a t H K) (W Γ U b t H K)
    | _ => False
  | .block id a, t, H, K => W Γ U a t H fun e t' H' => match e with
    | .exit i => _root_.cond (i.beq id) (K .normal t' H') (K (.exit i) t' H')
    | e => K e t' H'
  | .loop a, t, H, K => loopW (W Γ U a) U t H K
  | .exit id, t, H, K => K (.exit id) t H
  | .ret, t, H, K => K .ret t H

def compC (P : Program) (eqs : TypeId → Option (List SK)) (neut qf : TypeId → Bool) : Code → Option MC
  | .skip => some .skip
  | .region _ ops false => (compL P eqs neut ops ops.toList).map .ops
  | .region _ ops true => match compL P eqs neut ops ops.toList with
    | some mops => (sched qf ops mops ops.size (Array.replicate ops.size false)).map .dr
    | none => none
  | .seq a b => match compC P eqs neut qf a, compC P eqs neut qf b with
    | some a, some b => some (.seq a b)
    | _, _ => none
  | .cond c a b => match cop c, compC P eqs neut qf a, compC P eqs neut qf b with
    | some c, some a, some b => some (.cond c a b)
    | _, _, _ => none
  | .block id a => (compC P eqs neut qf a).map (.block id)
  | .loop a => (compC P eqs neut qf a).map .loop
  | .exit id => some (.exit id)
  | .ret => some .ret
  | .scope a => compC P eqs neut qf a
  | .label _ => some .skip
  | _ => none

def QK (w0 : World) (ρ : List Loc) (K : KE) (df : List Deferred) : Exit → Act → World → Prop
  | .normal, a, w => Post w0 ρ (K .normal) df a w
  | .exit id, a, w => Post w0 ρ (K (.exit id)) df a w
  | .ret, a, w => Post w0 ρ (K .ret) df a w
  | _, _, _ => False

theorem QK.of_prefix {w0 : World} {ρ ρ' : List Loc} {K : KE} {df : List Deferred} (hp : ρ <+: ρ') : ∀ e a w, QK w0 ρ' K df e a w → QK w0 ρ K df e a w := by
  intro e a w h
  cases e <;> simp only [QK] at h ⊢ <;> first | exact h.of_prefix hp | exact h

theorem W_sound {P : Program} {eqs : TypeId → Option (List SK)} {neut qf : TypeId → Bool} {Γ : Gam} {U : Nat} (hq : ∀ f, qf f = true → DetN (Γ.n f)) (hmix : P.follows .mixedOrders = true) (hΓ : Γ.ok P) (hE : ∀ ty ks, eqs ty = some ks → EqOK P ty ks) {w0 : World} {df : List Deferred} :
    ∀ (c : Code) (mc : MC), compC P eqs neut qf c = some mc → ∀ {t : List AV} {a : Act} {w : World} {ρ : List Loc} {H : Heap} {K : KE}, TR ρ t a → Rel w0 ρ H w → a.defers = df → W Γ U mc t H K → c.wp P (QK w0 ρ K df) a w := by
  intro c
  induction c with
  | skip =>
    intro mc hc t a w ρ H K hT hR hd hv
    simp [compC] at hc; subst hc
    exact wp_skip ⟨t, ρ, H, List.prefix_refl _, hT, hR, hd, hv⟩
  | region id ops draw =>
    intro mc hc t a w ρ H K hT hR hd hv
    cases draw with
    | false =>
      simp only [compC] at hc
      obtain ⟨ms, h1, rfl⟩ := map_some hc
      simp only [W] at hv
      refine wp_region ?_
      have := steps_sound (Q := QK w0 ρ K df) hΓ hE ops.toList 0 ms h1 (fun j => by simp) hT hR hd hv (fun a' w' h => h)
      rw [List.range_eq_range']
      simpa using this
    | true =>
      simp only [compC] at hc
      split at hc
      · rename_i mops hm
        obtain ⟨s, h1, rfl⟩ := map_some hc
        simp only [W] at hv
        exact wp_region_any hmix (sched_sound hq hΓ hE hm ops.size _ s h1 hT hR.drew hd hv (fun a' w' h => h))
      · simp at hc
  | seq x y ihx ihy =>
    intro mc hc t a w ρ H K hT hR hd hv
    simp only [compC] at hc
    split at hc
    · rename_i mx my h1 h2
      simp at hc; subst hc
      simp only [W] at hv
      refine wp_seq (wp_mono (ihx mx h1 hT hR hd hv) fun e a' w' h => ?_)
      cases e <;> simp only [QK, Exit.then] at h ⊢ <;> first | exact h | skip
      obtain ⟨t', ρ', H', k1, k2, k3, k4, k5⟩ := h
      exact wp_mono (ihy my h2 k2 k3 k4 k5) (QK.of_prefix k1)
    · simp at hc
  | cond c x y ihx ihy =>
    intro mc hc t a w ρ H K hT hR hd hv
    simp only [compC] at hc
    split at hc
    · rename_i m mx my h0 h1 h2
      simp at hc; subst hc
      have hr := ev_sound hT h0
      cases m with
      | t s =>
        simp only [W] at hv
        split at hv
        · rename_i b hb
          rw [br_iff] at hv
          obtain ⟨hT', _⟩ := hT.setSame hb
          have hb' : ev t (.t s) = .b b := hb
          rw [hb'] at hr
          cases hr1 : a.eval c <;> rw [hr1] at hr <;> cases hr
          refine wp_cond hr1 ?_
          cases b
          · exact ihy my h2 hT' hR hd hv
          · exact ihx mx h1 hT' hR hd hv
        · exact hv.elim
      | c av =>
        cases av <;> simp only [W] at hv <;> first | exact hv.elim | skip
        rename_i b
        simp only [ev] at hr
        cases hr1 : a.eval c <;> rw [hr1] at hr <;> cases hr
        refine wp_cond hr1 ?_
        cases b
        · exact ihy my h2 hT hR hd hv
        · exact ihx mx h1 hT hR hd hv
    · simp at hc
  | block id x ih =>
    intro mc hc t a w ρ H K hT hR hd hv
    simp only [compC] at hc
    obtain ⟨mx, h1, rfl⟩ := map_some hc
    simp only [W] at hv
    refine wp_block (wp_mono (ih mx h1 hT hR hd hv) fun e a' w' h => ?_)
    cases e <;> simp only [QK, Exit.inBlock] at h ⊢ <;> first | exact h | skip
    rename_i i
    obtain ⟨t', ρ', H', k1, k2, k3, k4, k5⟩ := h
    by_cases hi : i = id
    · subst hi
      rw [if_pos rfl]
      simp at k5
      exact ⟨t', ρ', H', k1, k2, k3, k4, k5⟩
    · rw [if_neg hi]
      rw [beq_no hi] at k5
      exact ⟨t', ρ', H', k1, k2, k3, k4, k5⟩
  | loop x ih =>
    intro mc hc t a w ρ H K hT hR hd hv
    simp only [compC] at hc
    obtain ⟨mx, h1, rfl⟩ := map_some hc
    simp only [W] at hv
    cases U with
    | succ U =>
      have hv : iterW (W Γ (U + 1) mx) (U + 1) t H K := hv
      refine wp_loop_rounds (U + 1) ?_
      have gen : ∀ (n : Nat) {t : List AV} {a : Act} {w : World} {ρ : List Loc} {H : Heap}, TR ρ t a → Rel w0 ρ H w → a.defers = df → iterW (W Γ (U + 1) mx) n t H K → ∀ {ρ0 : List Loc}, ρ0 <+: ρ → Code.rounds P x (QK w0 ρ0 K df) n a w := by
        intro n
        induction n with
        | zero => intro t a w ρ H _ _ _ h; exact h.elim
        | succ n ihn =>
          intro t a w ρ H hT hR hd h ρ0 hp
          rw [rounds_succ]
          simp only [iterW] at h
          refine wp_mono (ih mx h1 hT hR hd h) fun e a' w' h => ?_
          cases e <;> simp only [QK, Exit.then] at h ⊢ <;> first | exact h | exact h.of_prefix hp | skip
          obtain ⟨t', ρ', H', k1, k2, k3, k4, k5⟩ := h
          exact ihn k2 k3 k4 k5 (hp.trans k1)
      exact gen _ hT hR hd hv (List.prefix_refl _)
    | zero =>
      obtain ⟨keep, I, ⟨n, hn⟩, hI⟩ := hv
      refine wp_loop_rounds (n + 1) ?_
      have hlen := hR.len
      have gen : ∀ (N : Nat) {n : Nat} {t1 : List AV} {a : Act} {w : World} {ρ1 : List Loc} {H1 : Heap}, n < N → ρ <+: ρ1 → TR ρ1 t1 a → Rel w0 ρ1 H1 w → a.defers = df → I n t1 H1 → Code.rounds P x (QK w0 ρ K df) N a w := by
        intro N
        induction N with
        | zero => intro n t1 a w ρ1 H1 hlt; omega
        | succ N ihN =>
          intro n t1 a w ρ1 H1 hlt hp hT hR hd hi
          rw [rounds_succ]
          refine wp_mono (ih mx h1 hT hR hd (hI n t1 H1 hi)) fun e a' w' h => ?_
          cases e <;> simp only [QK, Exit.then] at h ⊢ <;> first | exact h | exact h.of_prefix hp | skip
          obtain ⟨t', ρ', H', k1, k2, k3, k4, k5⟩ := h
          have hpp : ρ <+: ρ' := hp.trans k1
          have hle : H.length ≤ H'.length := by
            have := hpp.length_le
            have := k3.len
            omega
          obtain ⟨t2, ρ2, H2, q1, q2, q3, m, q4, q5⟩ := k5.sound k2 k3 hle
          have he : ρ'.take H.length = ρ := by
            obtain ⟨x, rfl⟩ := hpp
            rw [hlen]; simp
          rw [he] at q1
          exact ihN (by omega) q1 q2 q3 k4 q5
      exact gen (n + 1) (Nat.lt_succ_self n) (List.prefix_refl _) hT hR hd hn
  | exit id =>
    intro mc hc t a w ρ H K hT hR hd hv
    simp [compC] at hc; subst hc
    exact wp_exit ⟨t, ρ, H, List.prefix_refl _, hT, hR, hd, hv⟩
  | ret =>
    intro mc hc t a w ρ H K hT hR hd hv
    simp [compC] at hc; subst hc
    exact wp_ret ⟨t, ρ, H, List.prefix_refl _, hT, hR, hd, hv⟩
  | scope x ih =>
    intro mc hc t a w ρ H K hT hR hd hv
    simp only [compC] at hc
    refine wp_scope_straight (wp_mono (ih mc hc hT hR hd hv) fun e a' w' h => ?_)
    cases e <;> simp only [QK, Exit.noGoto] at h ⊢ <;> exact h
  | label l =>
    intro mc hc t a w ρ H K hT hR hd hv
    simp [compC] at hc; subst hc
    exact wp_label ⟨t, ρ, H, List.prefix_refl _, hT, hR, hd, hv⟩
  | _ => intro mc hc; simp [compC] at hc

/-! ### Functions -/
inductive RV where
  | tmp (t : Nat)
  | cell (t : Nat)
  | cells (t n : Nat)
  deriving Inhabited

structure FM where
  nt : Nat
  res : List RV
  mc : MC
  deriving Inhabited

def resW (r : RV) (t : List AV) (H : Heap) (K : AV → Prop) : Prop :=
  match r with
  | .tmp n => K (t.getD n undefA)
  | .cell n => match t.getD n undefA with
    | .ptr id ix c => blkAt H id fun B => asr (Nat.blt ix B.n) (match (B.f ix)[c]? with
      | some a => K a
      | none => False)
    | _ => False
  | .cells n k => match t.getD n undefA with
    | .ptr id ix c => blkAt H id fun B => asr (Nat.blt ix B.n) (asr (Nat.ble (c + k) (B.f ix).length) (K (.agg (((B.f ix).drop c).take k))))
    | _ => False

def ressW : List RV → List AV → Heap → (List AV → Prop) → Prop
  | [], _, _, K => K []
  | r :: rs, t, H, K => resW r t H fun a => ressW rs t H fun as => K (a :: as)

def tupA : List AV → AV
  | [a] => a
  | as => .tup as

def WF (Γ : Gam) (U : Nat) (fm : FM) : Spec := fun args H K =>
  W Γ U fm.mc (args ++ List.replicate (fm.nt - args.length) undefA) H fun e t' H' => match e with
    | .exit _ => False
    | _ => ressW fm.res t' H' fun as => K (tupA as) H'

def compR (P : Program) : ResultVar → Option RV
  | .tmp t => some (.tmp t)
  | .cell t ty => match P.underlying ty, szOf P ty with
    | some d, some n => some (_root_.cond (aggD d) (.cells t n) (.cell t))
    | _, _ => none

def compRs (P : Program) : List ResultVar → Option (List RV)
  | [] => some []
  | r :: rs => match compR P r, compRs P rs with
    | some a, some as => some (a :: as)
    | _, _ => none

def compF (P : Program) (eqs : TypeId → Option (List SK)) (neut qf : TypeId → Bool) (f : FuncId) : Option FM :=
  match P.funcs[f]? with
  | some fn => match fn.body, compRs P fn.results.toList with
    | some c, some rs => _root_.cond (fn.name == "runtime.NumGoroutine") none ((compC P eqs neut qf c).map fun mc => ⟨fn.ntmps, rs, mc⟩)
    | _, _ => none
  | none => none

theorem res_sound {P : Program} {w0 w : World} {ρ : List Loc} {t : List AV} {a : Act} {H : Heap} (hT : TR ρ t a) (hR : Rel w0 ρ H w) {r : ResultVar} {rv : RV} (hc : compR P r = some rv) {K : AV → Prop} (hv : resW rv t H K) :
    ∃ v av, ((match r with | .tmp t => pure (a.tmps.getD t undef) | .cell x t => do loadVar t (← asAddr (a.tmps.getD x undef))) : Sem Value).run P w = .ok v w ∧ R ρ av v ∧ K av := by
  cases r with
  | tmp n =>
    simp [compR] at hc; subst hc
    exact ⟨_, _, rfl, hT.get n, hv⟩
  | cell x ty =>
    simp only [compR] at hc
    split at hc
    · rename_i d n h2 h3
      simp at hc
      have hr := hT.get x
      cases hagg : aggD d with
      | true =>
        rw [hagg] at hc; simp only [cond_true] at hc; subst hc
        simp only [resW, undefA] at hv
        split at hv
        · rename_i id ix c he
          rw [he] at hr
          unfold blkAt at hv
          split at hv
          · rename_i B hB
            simp only [asr_iff] at hv
            obtain ⟨q1, q2, hk⟩ := hv
            cases hr1 : a.tmps.getD x undef <;> rw [hr1] at hr <;> cases hr
            rename_i b o' e' hρ
            obtain ⟨vs, g1, g2⟩ := load_cells (P := P) hR hB hρ (by simpa [Nat.blt_eq] using q1) (Nat.le_of_ble_eq_true q2)
            exact ⟨.agg vs.toArray, _, by simp only [hr1]; simp [asAddr, loadVar, run_agg h2, hagg, run_size h3, g1], .agg g2, hk⟩
          · exact hv.elim
        · exact hv.elim
      | false =>
        rw [hagg] at hc; simp only [cond_false] at hc; subst hc
        simp only [resW, undefA] at hv
        split at hv
        · rename_i id ix c he
          rw [he] at hr
          unfold blkAt at hv
          split at hv
          · rename_i B hB
            simp only [asr_iff] at hv
            obtain ⟨q1, hk⟩ := hv
            split at hk
            · rename_i av hav
              cases hr1 : a.tmps.getD x undef <;> rw [hr1] at hr <;> cases hr
              rename_i b o' e' hρ
              obtain ⟨b1, o1, k1, k2⟩ := hR.blk id B hB
              rw [hρ] at k1; simp at k1
              obtain ⟨rfl, rfl, rfl⟩ := k1
              obtain ⟨v, g1, g2⟩ := k2.cell ix c av (by simpa [Nat.blt_eq] using q1) hav
              exact ⟨v, av, by simp only [hr1]; simp [asAddr, loadVar, run_agg h2, hagg, g1], g2, hk⟩
            · exact hk.elim
          · exact hv.elim
        · exact hv.elim
    · simp at hc

theorem ress_sound {P : Program} {w0 w : World} {ρ : List Loc} {t : List AV} {a : Act} {H : Heap} (hT : TR ρ t a) (hR : Rel w0 ρ H w) : ∀ {rs : List ResultVar} {rvs : List RV}, compRs P rs = some rvs → ∀ {K : List AV → Prop}, ressW rvs t H K →
    ∃ vs avs, (rs.mapM (fun | .tmp t => pure (a.tmps.getD t undef) | .cell x t => do loadVar t (← asAddr (a.tmps.getD x undef))) : Sem (List Value)).run P w = .ok vs w ∧ RL ρ avs vs ∧ K avs
  | [], rvs, hc, K, hv => by simp [compRs] at hc; subst hc; exact ⟨[], [], rfl, .nil, hv⟩
  | r :: rs, rvs, hc, K, hv => by
    simp only [compRs] at hc
    split at hc
    · rename_i x xs h1 h2
      simp at hc; subst hc
      obtain ⟨v, av, k1, k2, k3⟩ := res_sound (P := P) hT hR h1 hv
      obtain ⟨vs, avs, g1, g2, g3⟩ := ress_sound hT hR h2 k3
      refine ⟨v :: vs, av :: avs, ?_, .cons k2 g2, g3⟩
      rw [List.mapM_cons]
      cases r with
      | tmp n =>
        simp only [Sem.run_bind] at k1 ⊢
        rw [k1]
        simp only [Result.andThen_ok, g1]
        rfl
      | cell n ty =>
        have k1' : (do loadVar ty (← asAddr (a.tmps.getD n undef)) : Sem Value).run P w = .ok v w := k1
        simp only [Sem.run_bind] at k1' ⊢
        rw [k1']
        simp only [Result.andThen_ok, g1]
        rfl
    · simp at hc

theorem WF_sound {P : Program} {eqs : TypeId → Option (List SK)} {neut qf : TypeId → Bool} {Γ : Gam} {U : Nat} (hq : ∀ f, qf f = true → DetN (Γ.n f)) (hmix : P.follows .mixedOrders = true) (hΓ : Γ.ok P) (hE : ∀ ty ks, eqs ty = some ks → EqOK P ty ks) {f : FuncId} {fm : FM} (hc : compF P eqs neut qf f = some fm) :
    SoundG P f (WF Γ U fm) := by
  intro args H K hv
  unfold compF at hc
  split at hc
  · rename_i fn hf
    split at hc
    · rename_i c rs hb hrs
      cases hname : (fn.name == "runtime.NumGoroutine") with
      | true => rw [hname] at hc; simp at hc
      | false =>
        rw [hname] at hc
        simp only [cond_false] at hc
        obtain ⟨mc, h1, rfl⟩ := map_some hc
        refine ⟨by simp [goesTo, hf, hb, hname], fun w0 ρ w vs hvs hR => ?_⟩
        refine calls_of_wp hf hb ?_
        have hT : TR ρ (args ++ List.replicate (fn.ntmps - args.length) undefA) { tmps := vs.toArray ++ Array.replicate (fn.ntmps - vs.toArray.size) undef, defers := [] } := by
          have := hvs.append (RL.replicate (undef_R (ρ := ρ)) (fn.ntmps - args.length))
          rw [hvs.length] at this ⊢
          simpa [TR, undefA] using this
        refine wp_mono (W_sound hq hmix hΓ hE c mc h1 hT hR rfl hv) fun e a' w' h => ?_
        have fin : ∀ {K' : KT}, Post w0 ρ K' [] a' w' → (∀ t H', K' t H' → ressW rs t H' fun as => K (tupA as) H') → a'.defers = [] ∧ ∃ v, (results fn a'.tmps).run P w' = .ok v w' ∧
            ∃ u av ρ' H', Ending.returned v = .returned u ∧ ρ <+: ρ' ∧ R ρ' av u ∧ Rel w0 ρ' H' w' ∧ K av H' := by
          intro K' hp hK
          obtain ⟨t', ρ', H', k1, k2, k3, k4, k5⟩ := hp
          obtain ⟨us, avs, g1, g2, g3⟩ := ress_sound (P := P) k2 k3 hrs (hK _ _ k5)
          refine ⟨k4, if h : us.toArray.size = 1 then us.toArray[0] else .tuple us.toArray, ?_, _, tupA avs, ρ', H', rfl, k1, ?_, k3, g3⟩
          · unfold results
            simp only [Sem.run_bind]
            rw [Array.mapM_eq_mapM_toList, Sem.run_map]
            erw [g1]
            rfl
          · cases g2 with
            | nil => simpa [tupA] using R.tup (ρ := ρ') .nil
            | cons h t =>
              cases t with
              | nil => simpa [tupA] using h
              | cons h2 t2 => simpa [tupA] using R.tup (.cons h (.cons h2 t2))
        cases e <;> simp only [QK, bodyPost] at h ⊢ <;> first | exact h.elim | skip
        · exact fin h (fun t H' hk => hk)
        · obtain ⟨_, _, _, _, _, _, _, hk⟩ := h; exact hk.elim
        · exact fin h (fun t H' hk => hk)
    · simp at hc
  · simp at hc
end Go.Proofs.Ytpfmnmcpffajeaa.V
