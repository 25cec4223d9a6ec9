/-
  A second semantics of Go's operations. Part 14: functions that read their caller's memory and change none of it are contracts without memory too.
-/
import Derived.Test.YtpfmnmcpffajeaaVm
set_option linter.unusedVariables false
set_option linter.unusedSimpArgs false
namespace Go.Proofs.Ytpfmnmcpffajeaa.V
open Go Go.RowKit

theorem prefix_set {α : Type} {l l' : List α} (h : l <+: l') {i : Nat} (hi : l.length ≤ i) (x : α) : l <+: l'.set i x := by
  obtain ⟨t, rfl⟩ := h
  rw [List.set_append_right _ _ hi]
  exact List.prefix_append _ _

/-- Instructions that change no block below the floor. -/
def keepsR : MI → Bool
  | .store .. | .app .. => true
  | m => keeps m

theorem appW_congr {lo : Nat} {ty : TypeId} {sz bytes : Nat} {x y : AV} {H H0 : Heap} {K K' : K1} (hlo : H0.length ≤ lo) (hH : H0 <+: H) (hk : ∀ a H', H0 <+: H' → K a H' = K' a H') :
    appW lo ty sz bytes x y H K = appW lo ty sz bytes x y H K' := by
  have e1 : ∀ a, K a H = K' a H := fun a => hk a H hH
  have e2 : ∀ (a : AV) (l : Heap), K a (H ++ l) = K' a (H ++ l) := fun a l => hk a _ (hH.trans (List.prefix_append _ _))
  have e3 : ∀ (a : AV) (id : Nat) (l : Heap), lo ≤ id → K a (H.set id none ++ l) = K' a (H.set id none ++ l) := fun a id l h => hk a _ ((prefix_set hH (Nat.le_trans hlo h) none).trans (List.prefix_append _ _))
  unfold appW
  congr 1
  funext m news
  cases x <;> simp only [e1, e2]
  rename_i id l
  congr 1
  funext B
  cases hb : Nat.ble lo id with
  | false => rfl
  | true => rw [e3 _ _ _ (Nat.le_of_ble_eq_true hb)]

theorem val_congr {Γ : Gam} {m : MI} {t : List AV} {H H0 : Heap} {K K' : K1} (hlo : H0.length ≤ Γ.lo) (hm : keepsR m = true) (hH : H0 <+: H) (hk : ∀ a H', H0 <+: H' → K a H' = K' a H') : val Γ m t H K = val Γ m t H K' := by
  have e0 : (fun a => K a H) = fun a => K' a H := funext fun a => hk a H hH
  have e1 : ∀ a, K a H = K' a H := fun a => hk a H hH
  have e2 : ∀ (a : AV) (l : Heap), K a (H ++ l) = K' a (H ++ l) := fun a l => hk a _ (hH.trans (List.prefix_append _ _))
  have e3 : ∀ (a : AV) (id : Nat) (b : Option Blk), Γ.lo ≤ id → K a (H.set id b) = K' a (H.set id b) := fun a id b h => hk a _ (prefix_set hH (Nat.le_trans hlo h) b)
  cases m <;> first
    | (simp [keepsR, keeps] at hm; done)
    | (simp only [val, e0]; done)
    | (simp only [val, e1, e2]; done)
    | (simp only [val]; exact appW_congr hlo hH hk)
    | skip
  simp only [val]
  split
  · congr 1
    funext B
    rename_i id ix c he
    cases hb : Nat.ble Γ.lo id with
    | false => rfl
    | true => rw [e3 _ _ _ (Nat.le_of_ble_eq_true hb)]
  · rfl

theorem valL_congr {h0 : Option Nat} {Γ : Gam} {m : MI} {t : List AV} {H H0 : Heap} {K K' : K1} (hlo : H0.length ≤ Γ.lo) (hm : keepsR m = true) (hH : H0 <+: H) (hk : ∀ a H', H0 <+: H' → K a H' = K' a H') : valL h0 Γ m t H K = valL h0 Γ m t H K' := by
  have hv := val_congr (Γ := Γ) (t := t) hlo hm hH hk
  cases h0 with
  | none => simpa [valL] using hv
  | some n => cases m <;> simp only [valL] <;> first | exact hv | rw [hv]

theorem stepO_congr {h0 : Option Nat} {Γ : Gam} {m : MOp} {t : List AV} {H H0 : Heap} {K K' : KT} (hlo : H0.length ≤ Γ.lo) (hm : keepsR m.m = true) (hH : H0 <+: H) (hk : ∀ t H', H0 <+: H' → K t H' = K' t H') : stepO h0 Γ m t H K = stepO h0 Γ m t H K' := by
  have e : ∀ {u v : List AV}, valL h0 Γ m.m v H (fun a H' => K (setD u m.d a) H') = valL h0 Γ m.m v H fun a H' => K' (setD u m.d a) H' := fun {u v} =>
    valL_congr hlo hm hH fun a H' h => hk _ _ h
  unfold stepO
  cases m.g with
  | none => exact e
  | some p =>
    obtain ⟨s, want⟩ := p
    simp only
    split
    · rename_i x hx
      have e3 : (fun y => cond (y == want) (valL h0 Γ m.m (t.set s (.b y)) H fun a H' => K (setD (t.set s (.b y)) m.d a) H') (K (setD (t.set s (.b y)) m.d undefA) H)) =
          fun y => cond (y == want) (valL h0 Γ m.m (t.set s (.b y)) H fun a H' => K' (setD (t.set s (.b y)) m.d a) H') (K' (setD (t.set s (.b y)) m.d undefA) H) := by
        funext y
        rw [e, hk _ _ hH]
      rw [e3]
    · rw [hk _ _ hH]
    · rfl

def quietL (l : List MOp) : Bool := l.all fun m => keepsR m.m
def quietS : SchM → Bool
  | .done => true
  | .op m r | .ld m r => keepsR m.m && quietS r
  | .alt m r s => keepsR m.m && quietS r && quietS s
def quietC : MC → Bool
  | .skip | .exit _ | .ret => true
  | .ops l => quietL l
  | .dr s => quietS s
  | .seq a b => quietC a && quietC b
  | .cond _ a b => quietC a && quietC b
  | .block _ a | .loop a => quietC a

theorem steps_congr {Γ : Gam} {H0 : Heap} {K K' : KT} (hlo : H0.length ≤ Γ.lo) : ∀ {l : List MOp}, quietL l = true → ∀ {t : List AV} {H : Heap}, H0 <+: H → (∀ t H', H0 <+: H' → K t H' = K' t H') → steps Γ l t H K = steps Γ l t H K'
  | [], _, t, H, hH, hk => hk _ _ hH
  | m :: l, hq, t, H, hH, hk => by
    simp only [quietL, List.all_cons, Bool.and_eq_true] at hq
    exact stepO_congr hlo hq.1 hH fun t' H' h => steps_congr hlo (l := l) hq.2 h hk
theorem WS_congr {h0 : Nat} {Γ : Gam} {H0 : Heap} {K K' : KT} (hlo : H0.length ≤ Γ.lo) : ∀ {s : SchM}, quietS s = true → ∀ {t : List AV} {H : Heap}, H0 <+: H → (∀ t H', H0 <+: H' → K t H' = K' t H') → WS h0 Γ s t H K = WS h0 Γ s t H K'
  | .done, _, t, H, hH, hk => hk _ _ hH
  | .op m s, hq, t, H, hH, hk => by
    simp only [quietS, Bool.and_eq_true] at hq
    exact stepO_congr hlo hq.1 hH fun t' H' h => WS_congr hlo hq.2 h hk
  | .ld m s, hq, t, H, hH, hk => by
    simp only [quietS, Bool.and_eq_true] at hq
    exact stepO_congr hlo hq.1 hH fun t' H' h => WS_congr hlo hq.2 h hk
  | .alt m s s2, hq, t, H, hH, hk => by
    simp only [quietS, Bool.and_eq_true] at hq
    have h1 := stepO_congr (Γ := Γ) (h0 := none) (t := t) (K := fun t' H' => WS h0 Γ s t' H' K) (K' := fun t' H' => WS h0 Γ s t' H' K') hlo hq.1.1 hH fun t' H' h => WS_congr hlo hq.1.2 h hk
    have h2 := WS_congr (h0 := h0) (Γ := Γ) (t := t) hlo hq.2 hH hk
    show (_ ∧ _) = (_ ∧ _)
    rw [h1, h2]

theorem W_congr {Γ : Gam} {U : Nat} {H0 : Heap} (hU : 0 < U) (hlo : H0.length ≤ Γ.lo) : ∀ (c : MC), quietC c = true → ∀ {t : List AV} {H : Heap} {K K' : KE}, H0 <+: H → (∀ e t H', H0 <+: H' → K e t H' = K' e t H') → W Γ U c t H K = W Γ U c t H K' := by
  intro c
  induction c with
  | skip => intro _ t H K K' hH hk; exact hk _ _ _ hH
  | exit i => intro _ t H K K' hH hk; exact hk _ _ _ hH
  | ret => intro _ t H K K' hH hk; exact hk _ _ _ hH
  | ops l => intro hq t H K K' hH hk; exact steps_congr hlo hq hH fun t H' h => hk .normal t H' h
  | dr s => intro hq t H K K' hH hk; exact WS_congr hlo hq hH fun t H' h => hk .normal t H' h
  | seq a b iha ihb =>
    intro hq t H K K' hH hk
    simp only [quietC, Bool.and_eq_true] at hq
    refine iha hq.1 hH fun e t' H' h => ?_
    cases e
    · exact ihb hq.2 h hk
    · exact hk _ _ _ h
    · exact hk _ _ _ h
  | cond x a b iha ihb =>
    intro hq t H K K' hH hk
    simp only [quietC, Bool.and_eq_true] at hq
    have ea : ∀ u, W Γ U a u H K = W Γ U a u H K' := fun u => iha hq.1 hH hk
    have eb : ∀ u, W Γ U b u H K = W Γ U b u H K' := fun u => ihb hq.2 hH hk
    simp only [W, ea, eb]
  | block id a ih =>
    intro hq t H K K' hH hk
    simp only [quietC] at hq
    refine ih hq hH fun e t' H' h => ?_
    cases e with
    | normal => exact hk _ _ _ h
    | exit i =>
      simp only
      rw [hk _ _ _ h, hk _ _ _ h]
    | ret => exact hk _ _ _ h
  | loop a ih =>
    intro hq t H K K' hH hk
    simp only [quietC] at hq
    have gen : ∀ n {t : List AV} {H : Heap}, H0 <+: H → iterW (W Γ U a) n t H K = iterW (W Γ U a) n t H K' := by
      intro n
      induction n with
      | zero => intro t H _; rfl
      | succ n ihn =>
        intro t H hH
        refine ih hq hH fun e t' H' h => ?_
        cases e
        · exact ihn h
        · exact hk _ _ _ h
        · exact hk _ _ _ h
    simp only [W]
    unfold loopW
    cases U with
    | zero => exact absurd hU (Nat.lt_irrefl 0)
    | succ U => exact gen (U + 1) hH

theorem resW_congr {r : RV} {t : List AV} {H : Heap} {K K' : AV → Prop} (hk : K = K') : resW r t H K = resW r t H K' := by rw [hk]

/-- A function whose code changes no block: what it comes to, with the caller's blocks as they were. -/
theorem WF_quiet {Γ : Gam} {U : Nat} {fm : FM} (hU : 0 < U) (hq : quietC fm.mc = true) {args : List AV} {H : Heap} {K : K1} (hlo : H.length ≤ Γ.lo) (h : WF Γ U fm args H K) : WF Γ U fm args H fun a H' => H <+: H' ∧ K a H' := by
  unfold WF at h ⊢
  rw [← W_congr (H0 := H) hU hlo fm.mc hq (List.prefix_refl H) (fun e t' H' hp => ?_)]
  · exact h
  · have : (fun as => H <+: H' ∧ K (tupA as) H') = fun as => K (tupA as) H' := funext fun as => propext ⟨fun x => x.2, fun x => ⟨hp, x⟩⟩
    cases e <;> simp only [this]

theorem pre_get {ρ ρ' : List Loc} (p : ρ <+: ρ') {id : Nat} {L L' : Loc} (h : ρ[id]? = some L) (h' : ρ'[id]? = some L') : ρ[id]? = some L' := by
  obtain ⟨l, rfl⟩ := p
  rw [List.getElem?_append_left (List.getElem?_eq_some_iff.1 h).1] at h'; exact h'
theorem R.narrow {ρ ρ' : List Loc} (p : ρ <+: ρ') {a : AV} {v v' : Value} (h : R ρ a v) : R ρ' a v' → R ρ a v' := by
  refine R.rec (motive_1 := fun a v _ => ∀ v', R ρ' a v' → R ρ a v') (motive_2 := fun as vs _ => ∀ vs', RL ρ' as vs' → RL ρ as vs') ?_ ?_ ?_ ?_ ?_ ?_ ?_ ?_ ?_ ?_ ?_ ?_ ?_ ?_ h v'
  · intro k n v' h; cases h; exact .i k n
  · intro x v' h; cases h; exact .b x
  · intro x v' h; cases h; exact .s x
  · intro id ix c b o e h v' h'; cases h' with | ptr h' => exact .ptr (pre_get p h h')
  · intro id ix c l cap b o e h v' h'; cases h' with | slc h' => exact .slc (pre_get p h h')
  · intro id ix l cap b o e h v' h'; cases h' with | sls h' => exact .sls (pre_get p h h')
  · intro id l b o e C h hc hl v' h'; cases h' with | sla h' hc' hl' => exact .sla (pre_get p h h') (pre_get p hc hc') hl'
  · intro v' h; cases h; exact .nslc
  · intro f caps vs h ih v' h'; cases h' with | fn h' => exact .fn (ih _ h')
  · intro cs vs h ih v' h'; cases h' with | agg h' => exact .agg (ih _ h')
  · intro cs vs h ih v' h'; cases h' with | tup h' => exact .tup (ih _ h')
  · intro x hx v' h'; cases h' with | v h' => exact .v h'
  · intro vs' h; cases h; exact .nil
  · intro a v as vs h t ih1 ih2 vs' h'; cases h' with | cons h1 h2 => exact .cons (ih1 _ h1) (ih2 _ h2)

theorem Rel.cut {w0 w w' : World} {ρ ρ' : List Loc} {H H' : Heap} (hρ : ρ <+: ρ') (hH : H <+: H') (hR : Rel w0 ρ H w) (h : Rel w0 ρ' H' w') : Rel w0 ρ H w' := by
  have hg : ∀ (id : Nat) (B : Blk), H[id]? = some (some B) → H'[id]? = some (some B) := fun id B e => by
    obtain ⟨l, rfl⟩ := hH
    rw [List.getElem?_append_left (List.getElem?_eq_some_iff.1 e).1]; exact e
  have hr' : ∀ (id : Nat) (L : Loc), ρ[id]? = some L → ρ'[id]? = some L := fun id L e => by
    obtain ⟨l, rfl⟩ := hρ
    rw [List.getElem?_append_left (List.getElem?_eq_some_iff.1 e).1]; exact e
  refine ⟨hR.len, h.below, fun id B e => ?_, fun i j B C b o e b' o' e' h1 h2 h3 h4 h5 h6 => h.dist i j B C b o e b' o' e' (hg _ _ h1) (hg _ _ h2) h3 (hr' _ _ h4) (hr' _ _ h5) h6, fun id B e r => ?_⟩
  rotate_left
  · obtain ⟨b, o, C, n, cs, g1, g2, g3, g⟩ := h.room id B (hg id B e) r
    obtain ⟨b', o', C', n', cs', g1', g2', _⟩ := hR.room id B e r
    exact ⟨b, o, C, n, cs, pre_get hρ g1' g1, pre_get hρ g2' g2, g3, g⟩
  obtain ⟨b, o, k1, k2⟩ := h.blk id B (hg id B e)
  obtain ⟨b1, o1, q1, q2⟩ := hR.blk id B e
  refine ⟨b, o, pre_get hρ q1 k1, ⟨fun ix c a hx ha => ?_, k2.wide, k2.own, k2.old, k2.one⟩⟩
  obtain ⟨v, g1, g2⟩ := k2.cell ix c a hx ha
  obtain ⟨v0, _, g0⟩ := q2.cell ix c a hx ha
  exact ⟨v, g1, g0.narrow hρ g2⟩

theorem soundN_quiet {P : Program} {f : FuncId} {S : Nat → Spec} (hG : ∀ lo, SoundG P f (S lo)) (hq : ∀ args H K, S H.length args H K → S H.length args H fun a H' => H <+: H' ∧ K a H') :
    SoundN P f fun args H K => S H.length args H fun a _ => asr (plainA a) (K a) := by
  intro args H K hs
  obtain ⟨hg, hcall⟩ := hG H.length args H _ (hq _ _ _ hs)
  refine ⟨hg, fun w0 ρ w vs hvs hR => ?_⟩
  refine (hcall w0 ρ w vs hvs hR).mono fun e w' ⟨v, av, ρ', H', k1, k2, k3, k4, k5, k6⟩ => ?_
  rw [asr_iff] at k6
  exact ⟨v, av, k1, k3.plain k6.1, Rel.cut k2 k5 hR k4, k6.2⟩

/-- A function that changes no block of its caller's, entered. -/
noncomputable def nOfR (D : Nat) (Γ : Gam) (U : Nat) (fm : FM) : NSpec := fun args H K => WFQ D (Γ.at H.length) U fm args H fun a _ => asr (plainA a) (K a)
theorem nOfR_ok {P : Program} {f : FuncId} {D : Nat} {Γ : Gam} {U : Nat} {fm : FM} (hG : ∀ lo, SoundG P f (WF (Γ.at lo) U fm)) (hq : quietC fm.mc = true) : SoundN P f (nOfR D Γ U fm) :=
  fun args H K h => by
    have hU : 0 < U := by
      unfold nOfR WFQ at h
      rw [asr_iff] at h
      simp only [Bool.and_eq_true] at h
      simpa [Nat.blt_eq] using h.1.2
    exact soundN_quiet (S := fun lo => WF (Γ.at lo) U fm) hG (fun args H K h => WF_quiet hU hq (Nat.le_refl _) h) args H K (WFQ_imp h)

/-! ### Loops: what a printer of contracts leans on -/
theorem next_of {n0 : Nat} {keep : List Bool} {Q : List AV → Heap → Prop} {t : List AV} {H : Heap} {σ : List Nat} (hσ : keptI n0 keep t [] = σ) (f : (Nat → AV) → List AV) (hc : ∀ js, canT n0 σ js keep t 0 = some (f js))
    (hb : (nodupI σ && geI n0 σ && endOK n0 H) = true) (H2 : Heap) (hH : H.take n0 ++ mapH H σ = H2) (hl : lowH n0 H2) (hq : ∀ js, Q (f js) H2) : Next n0 keep Q t H := by
  intro js
  rw [hσ, hc js, hH]
  simp only [asr_iff]
  exact ⟨hb, hl, hq js⟩
def kSeq (Γ : Gam) (U : Nat) (b : MC) (K : KE) : KE := fun e t H => match e with
  | .normal => W Γ U b t H K
  | e => K e t H
def kBlock (id : Nat) (K : KE) : KE := fun e t H => match e with
  | .exit i => _root_.cond (i.beq id) (K .normal t H) (K (.exit i) t H)
  | e => K e t H
def kFin (res : List RV) (K : K1) : KE := fun e t H => match e with
  | .exit _ => False
  | _ => ressW res t H fun as => K (tupA as) H

/-! ### Readers: contracts for functions that only read the rows their arguments point to -/
def roB (B : Blk) : Option Blk := some { B with own := false, room := 0 }
/-- The rows that 'σ' names, to be read. -/
def roH (H : Heap) : List Nat → Option Heap
  | [] => some []
  | i :: σ => match H[i]?, roH H σ with
    | some (some B), some l => some (roB B :: l)
    | _, _ => none
theorem roH_get {H : Heap} : ∀ {σ : List Nat} {H0 : Heap}, roH H σ = some H0 → H0.length = σ.length ∧ ∀ (id : Nat) (X : Option Blk), H0[id]? = some X → ∃ i B, σ[id]? = some i ∧ H[i]? = some (some B) ∧ X = roB B
  | [], H0, h => by
    simp only [roH, Option.some.injEq] at h
    subst h
    exact ⟨rfl, fun id X e => by simp at e⟩
  | i :: σ, H0, h => by
    simp only [roH] at h
    split at h
    · rename_i B l e1 e2
      simp only [Option.some.injEq] at h
      subst h
      obtain ⟨g1, g2⟩ := roH_get e2
      refine ⟨by simp [g1], fun id X e => ?_⟩
      cases id with
      | zero =>
        simp only [List.getElem?_cons_zero, Option.some.injEq] at e
        exact ⟨i, B, rfl, e1, e.symm⟩
      | succ id => exact g2 id X (by simpa using e)
    · cases h
theorem RL.ren0 {ρ : List Loc} {σ : List Nat} : ∀ {as bs : List AV} {vs : List Value}, RL ρ as vs → renL 0 σ as = some bs → RL (mapρ ρ σ) bs vs
  | [], bs, _, h, hb => by
    cases h
    simp only [renL, Option.some.injEq] at hb
    subst hb
    exact .nil
  | a :: as, bs, _, h, hb => by
    cases h with
    | cons h t =>
      simp only [renL] at hb
      split at hb
      · rename_i b l e1 e2
        simp only [Option.some.injEq] at hb
        subst hb
        exact .cons (by have := h.ren (n0 := 0) (Nat.zero_le _) e1; simpa using this) (RL.ren0 t e2)
      · cases hb
theorem plainL_get : ∀ {l : List AV} {c : Nat} {a : AV}, plainL l = true → l[c]? = some a → plainA a = true
  | [], c, a, _, e => by simp at e
  | x :: l, c, a, h, e => by
    simp only [plainL, Bool.and_eq_true] at h
    cases c with
    | zero => simp at e; subst e; exact h.1
    | succ c => exact plainL_get h.2 (by simpa using e)
theorem roRel {w0 w : World} {ρ : List Loc} {H H0 : Heap} {σ : List Nat} (hR : Rel w0 ρ H w) (hH : roH H σ = some H0) (hpl : ∀ (id : Nat) (B : Blk), H0[id]? = some (some B) → ∀ ix, plainL (B.f ix) = true) : Rel w (mapρ ρ σ) H0 w := by
  obtain ⟨g1, g2⟩ := roH_get hH
  have own0 : ∀ (id : Nat) (B : Blk), H0[id]? = some (some B) → B.own = false ∧ B.room = 0 := fun id B e => by
    obtain ⟨i, C, _, _, hx⟩ := g2 id _ e
    simp only [roB, Option.some.injEq] at hx
    subst hx
    exact ⟨rfl, rfl⟩
  refine ⟨by simp [g1, mapρ], Below.refl _ _, fun id B e => ?_, fun i j B C b o e b' o' e' h1 _ h3 => ?_, fun id B e r => ?_⟩
  · have hpl' := hpl id B e
    obtain ⟨i, C, hi, hC, hx⟩ := g2 id _ e
    simp only [roB, Option.some.injEq] at hx
    obtain ⟨b, o, k1, k2⟩ := hR.blk i C hC
    refine ⟨b, o, ?_, ?_⟩
    · subst hx
      simp only [mapρ, List.getElem?_map, hi, Option.map_some, List.getD_eq_getElem?_getD, k1, Option.getD_some]
    · subst hx
      refine ⟨fun ix c a hix ha => ?_, k2.wide, (fun h => nomatch h), (fun _ => k2.lt hR), k2.one⟩
      obtain ⟨v, e1, e2⟩ := k2.cell ix c a hix ha
      exact ⟨v, e1, e2.plain (plainL_get (hpl' ix) ha)⟩
  · rw [(own0 i B h1).1] at h3; cases h3
  · rw [(own0 id B e).2] at r; omega
theorem soundRd_of {P : Program} {f : FuncId} {S : Spec} {S' : NSpec} (hG : SoundG P f S)
    (h : ∀ args H K, S' args H K → ∃ σ args' H0, renL 0 σ args = some args' ∧ roH H σ = some H0 ∧ (∀ (id : Nat) (B : Blk), H0[id]? = some (some B) → ∀ ix, plainL (B.f ix) = true) ∧ S args' H0 fun a _ => plainA a = true ∧ K a) : SoundN P f S' := by
  intro args H K hs
  obtain ⟨σ, args', H0, ha, hH, hpl, hS⟩ := h args H K hs
  obtain ⟨hg, hcall⟩ := hG args' H0 _ hS
  refine ⟨hg, fun w0 ρ w vs hvs hR => ?_⟩
  refine (hcall w (mapρ ρ σ) w vs (hvs.ren0 ha) (roRel hR hH hpl)).mono fun e w' ⟨v, av, ρ', H', k1, k2, k3, k4, k5, k6⟩ => ?_
  exact ⟨v, av, k1, k3.plain k5, hR.below' k4.below, k6⟩

end Go.Proofs.Ytpfmnmcpffajeaa.V
