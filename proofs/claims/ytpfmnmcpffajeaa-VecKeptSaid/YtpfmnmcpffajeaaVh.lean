/-
  A second semantics of Go's operations. Part 8: regions, in the text's order or in any order.
-/
import Derived.Test.YtpfmnmcpffajeaaVg
set_option linter.unusedVariables false
set_option linter.unusedSimpArgs false
namespace Go.Proofs.Ytpfmnmcpffajeaa.V
open Go Go.RowKit

structure MOp where
  d : Option Nat
  g : Option (Nat × Bool)
  m : MI
  deriving Inhabited

def setD (t : List AV) (d : Option Nat) (a : AV) : List AV :=
  match d with
  | some n => t.set n a
  | none => t

def br (x : Bool) (k : Bool → Prop) : Prop := cond x (k true) (k false)
theorem br_iff {x : Bool} {k : Bool → Prop} : br x k ↔ k x := by cases x <;> rfl

abbrev KT := List AV → Heap → Prop

/-- A step: an instruction under its guard; 'h0': a load reads one of the first h0 blocks. -/
def valL (h0 : Option Nat) (Γ : Gam) (m : MI) (t : List AV) (H : Heap) (K : K1) : Prop :=
  match h0, m with
  | some n, .load x => (match ev t x with
    | .ptr id _ _ => asr (Nat.blt id n) (val Γ m t H K)
    | _ => False)
  | some n, .loadn _ x => (match ev t x with
    | .ptr id _ _ => asr (Nat.blt id n) (val Γ m t H K)
    | _ => False)
  | _, _ => val Γ m t H K

def isTup : Value → Bool
  | .tuple _ => true
  | _ => false

def stepO (h0 : Option Nat) (Γ : Gam) (m : MOp) (t : List AV) (H : Heap) (K : KT) : Prop :=
  match m.g with
  | none => valL h0 Γ m.m t H fun a H' => K (setD t m.d a) H'
  | some (s, want) => match t.getD s undefA with
    | .b x => br x fun y => cond (y == want) (valL h0 Γ m.m (t.set s (.b y)) H fun a H' => K (setD (t.set s (.b y)) m.d a) H') (K (setD (t.set s (.b y)) m.d undefA) H)
    | .v x => asr (isTup x) (K (setD t m.d undefA) H)
    | _ => False

def compO (P : Program) (eqs : TypeId → Option (List SK)) (neut : TypeId → Bool) (ops : Array Oper) (o : Oper) : Option MOp :=
  match compM P eqs neut o, o.guard with
  | some m, none => some ⟨o.dst, none, m⟩
  | some m, some (j, want) => match (ops[j]?).bind (·.dst) with
    | some s => some ⟨o.dst, some (s, want), m⟩
    | none => none
  | none, _ => none

theorem set_same {α : Type} : ∀ {l : List α} {n : Nat} {a : α}, l[n]? = some a → l.set n a = l
  | [], n, a, h => by simp at h
  | x :: l, 0, a, h => by simp at h; simp [h]
  | x :: l, n + 1, a, h => by simp at h; simp [set_same h]

theorem TR.setSame {ρ : List Loc} {t : List AV} {a : Act} (h : TR ρ t a) {s : Nat} {x : Bool} (he : t.getD s undefA = .b x) : TR ρ (t.set s (.b x)) a ∧ a.tmps[s]? = some (.bool x) := by
  have e1 : t[s]? = some (.b x) := by
    rw [List.getD_eq_getElem?_getD] at he
    cases e : t[s]? with
    | none => rw [e] at he; simp [undefA] at he
    | some y => rw [e] at he; simp at he; rw [he]
  obtain ⟨v, h1, h2⟩ := RL.get h e1
  cases h2
  exact ⟨by rw [set_same e1]; exact h, by simpa using h1⟩

theorem TR.put {ρ : List Loc} {t : List AV} {a : Act} (h : TR ρ t a) {d : Option Nat} {x : AV} {v : Value} (hr : R ρ x v) : TR ρ (setD t d x) (a.put d v) := by
  cases d with
  | none => exact h
  | some n =>
    unfold TR Act.put setD
    simp only [Array.toList_setIfInBounds]
    exact RL.set hr n h

theorem OpOK.wp {P : Program} {o : Oper} {a : Act} {w0 w : World} {ρ : List Loc} {H : Heap} {nd : Bool} {K : K1} {next : Act → World → Prop} {Q : Exit → Act → World → Prop} (h : OpOK P o a w0 ρ H nd w K)
    (hn : ∀ v w', Done w0 ρ H nd K v w' → next (a.put o.dst v) w') : o.wp P a w next Q := by
  unfold OpOK at h
  unfold Oper.wp
  generalize (execOp a.eval o).run P w = r at h
  cases r with
  | ok n w' =>
    cases n <;> simp only [OutOK] at h <;> first | exact h.elim | skip
    case value v => exact hn v w' h
    case skip => exact hn undef w' h
    case enter f args =>
      exact h.mono fun e w'' ⟨v, he, hd⟩ => by subst he; exact hn v w'' hd
  | halt x w' => exact h.elim

theorem valL_val {h0 : Option Nat} {Γ : Gam} {m : MI} {t : List AV} {H : Heap} {K : K1} (h : valL h0 Γ m t H K) : val Γ m t H K := by
  unfold valL at h
  split at h
  · split at h
    · exact (asr_iff.1 h).2
    · exact h.elim
  · split at h
    · exact (asr_iff.1 h).2
    · exact h.elim
  · exact h

/-- What holds behind one operation. -/
def After (w0 : World) (ρ : List Loc) (H : Heap) (nd : Bool) (K : KT) (df : List Deferred) (a' : Act) (w' : World) : Prop :=
  ∃ t' ρ' H', ρ <+: ρ' ∧ (nd = true → H <+: H') ∧ TR ρ' t' a' ∧ Rel w0 ρ' H' w' ∧ a'.defers = df ∧ K t' H'

theorem put_defers (a : Act) (d : Option Nat) (v : Value) : (a.put d v).defers = a.defers := by cases d <;> rfl

theorem yielded_tup {ρ : List Loc} {t : List AV} {a : Act} {ops : Array Oper} {j s : Nat} {x : Value} (hT : TR ρ t a) (hx : t.getD s undefA = .v x) (ht : isTup x = true) (hs : (ops[j]?).bind (·.dst) = some s) : yielded ops a.tmps j = none := by
  have hr := hT.get s
  have hx' : t.getD s (AV.v undef) = .v x := hx
  rw [hx'] at hr
  cases hr with
  | v _ =>
    unfold yielded
    rw [hs]
    simp only [Option.bind_some]
    cases hc : a.tmps[s]? with
    | none => rfl
    | some v =>
      simp [Array.getD_eq_getD_getElem?, hc] at ht
      cases v <;> first | rfl | simp [isTup] at ht

theorem stepO_sound {P : Program} {eqs : TypeId → Option (List SK)} {neut : TypeId → Bool} {Γ : Gam} (hΓ : Γ.ok P) (hE : ∀ ty ks, eqs ty = some ks → EqOK P ty ks) {ops : Array Oper} {Q : Exit → Act → World → Prop} {i : Nat} {o : Oper} {m : MOp} (hi : ops[i]? = some o)
    (hc : compO P eqs neut ops o = some m) {t : List AV} {a : Act} {w0 w : World} {ρ : List Loc} {H : Heap} {K : KT} {h0 : Option Nat} (hT : TR ρ t a) (hR : Rel w0 ρ H w) (hv : stepO h0 Γ m t H K) :
    wpOp P ops Q i (After w0 ρ H (keeps m.m) K a.defers) a w := by
  unfold wpOp
  simp only [hi]
  unfold compO at hc
  split at hc
  · rename_i mi hm hg
    simp at hc; subst hc
    have hw : Region.wanted o (yielded ops a.tmps) = true := by simp [Region.wanted, hg]
    rw [if_pos hw]
    refine .inl ((val_sound hΓ hE hm hT hR (valL_val hv)).wp fun v w' ⟨av, ρ', H', k1, k2, k3, k4, k5⟩ => ?_)
    exact ⟨_, ρ', H', k1, k2, TR.put (RL.mono k1 hT) k3, k4, put_defers .., k5⟩
  · rename_i mi j want hm hg
    split at hc
    · rename_i s hs
      simp at hc; subst hc
      simp only [stepO] at hv
      split at hv
      · rename_i x hx
        rw [br_iff] at hv
        obtain ⟨hT', hs'⟩ := hT.setSame hx
        have hy : yielded ops a.tmps j = some x := by simp [yielded, hs, hs']
        by_cases hxw : x = want
        · have hw : Region.wanted o (yielded ops a.tmps) = true := by simp [Region.wanted, hg, hy, hxw]
          rw [if_pos hw]
          simp only [hxw, beq_self_eq_true, cond_true] at hv
          rw [hxw] at hT'
          refine .inl ((val_sound hΓ hE hm hT' hR (valL_val hv)).wp fun v w' ⟨av, ρ', H', k1, k2, k3, k4, k5⟩ => ?_)
          exact ⟨_, ρ', H', k1, k2, TR.put (RL.mono k1 hT') k3, k4, put_defers .., k5⟩
        · have hw : ¬ Region.wanted o (yielded ops a.tmps) = true := by simp [Region.wanted, hg, hy, hxw]
          rw [if_neg hw]
          have hb : (x == want) = false := by simpa using hxw
          simp only [hb, cond_false] at hv
          exact ⟨_, ρ, H, List.prefix_refl _, fun _ => List.prefix_refl _, TR.put hT' undef_R, hR, put_defers .., hv⟩
      · rename_i x hx
        rw [asr_iff] at hv
        have hy : yielded ops a.tmps j = none := yielded_tup hT hx hv.1 hs
        have hw : ¬ Region.wanted o (yielded ops a.tmps) = true := by simp [Region.wanted, hg, hy]
        rw [if_neg hw]
        exact ⟨_, ρ, H, List.prefix_refl _, fun _ => List.prefix_refl _, TR.put hT undef_R, hR, put_defers .., hv.2⟩
      · exact hv.elim
    · simp at hc
  · simp at hc

/-! ### A region in the text's order -/
def steps (Γ : Gam) : List MOp → List AV → Heap → KT → Prop
  | [], t, H, K => K t H
  | m :: l, t, H, K => stepO none Γ m t H fun t' H' => steps Γ l t' H' K

def compL (P : Program) (eqs : TypeId → Option (List SK)) (neut : TypeId → Bool) (ops : Array Oper) : List Oper → Option (List MOp)
  | [] => some []
  | o :: l => match compO P eqs neut ops o, compL P eqs neut ops l with
    | some m, some r => some (m :: r)
    | _, _ => none

/-- What holds behind a piece of code. -/
def Post (w0 : World) (ρ : List Loc) (K : KT) (df : List Deferred) (a' : Act) (w' : World) : Prop :=
  ∃ t' ρ' H', ρ <+: ρ' ∧ TR ρ' t' a' ∧ Rel w0 ρ' H' w' ∧ a'.defers = df ∧ K t' H'

theorem Post.of_prefix {w0 : World} {ρ ρ' : List Loc} {K : KT} {df : List Deferred} {a' : Act} {w' : World} (hp : ρ <+: ρ') (h : Post w0 ρ' K df a' w') : Post w0 ρ K df a' w' := by
  obtain ⟨t, ρ2, H, k1, k2⟩ := h
  exact ⟨t, ρ2, H, hp.trans k1, k2⟩

theorem steps_sound {P : Program} {eqs : TypeId → Option (List SK)} {neut : TypeId → Bool} {Γ : Gam} (hΓ : Γ.ok P) (hE : ∀ ty ks, eqs ty = some ks → EqOK P ty ks) {ops : Array Oper} {Q : Exit → Act → World → Prop} {K : KT} {w0 : World} {df : List Deferred} :
    ∀ (l : List Oper) (k : Nat) (ms : List MOp), compL P eqs neut ops l = some ms → (∀ j, l[j]? = ops[k + j]?) →
    ∀ {t : List AV} {a : Act} {w : World} {ρ : List Loc} {H : Heap}, TR ρ t a → Rel w0 ρ H w → a.defers = df → steps Γ ms t H K → (∀ a' w', Post w0 ρ K df a' w' → Q .normal a' w') →
    wpOps P ops Q (List.range' k l.length) a w
  | [], k, ms, hc, hl, t, a, w, ρ, H, hT, hR, hd, hv, hQ => by
    simp [compL] at hc; subst hc
    exact hQ _ _ ⟨t, ρ, H, List.prefix_refl _, hT, hR, hd, hv⟩
  | o :: l, k, ms, hc, hl, t, a, w, ρ, H, hT, hR, hd, hv, hQ => by
    simp only [compL] at hc
    split at hc
    · rename_i m r h1 h2
      simp at hc; subst hc
      have hk : ops[k]? = some o := by simpa using (hl 0).symm
      rw [List.length_cons, List.range'_succ, wpOps_cons]
      refine wpOp_mono (fun a' w' hA => ?_) (stepO_sound hΓ hE hk h1 hT hR hv)
      obtain ⟨t', ρ', H', k1, k2, k3, k4, k5, k6⟩ := hA
      exact steps_sound hΓ hE l (k + 1) r h2 (fun j => by have := hl (j + 1); simpa [Nat.add_assoc, Nat.add_comm 1 j] using this) k3 k4 (k5.trans hd) k6 (fun a2 w2 hp => hQ a2 w2 (hp.of_prefix k1))
    · simp at hc

/-! ### A region in any order -/
def waitsB (ops : Array Oper) (d i : Nat) : Bool :=
  match ops[d]? with
  | some o => o.after.any fun e => Region.binds .any e && e.on == i
  | none => false

end Go.Proofs.Ytpfmnmcpffajeaa.V
