/-
  A second semantics of Go's operations. Part 15: registers in a tree, over values that aren't known: behind a branch the register that it asked has its value.
-/
import Derived.Test.YtpfmnmcpffajeaaVn
import Derived.Test.YtpfmnmcpffajeaaVm
set_option linter.unusedVariables false
set_option linter.unusedSimpArgs false
namespace Go.Proofs.Ytpfmnmcpffajeaa.V
open Go Go.RowKit

noncomputable def stepR (N h : Nat) (h0 : Option Nat) (Γ : Gam) (m : MOp) (r : RQ) (H : Heap) (K : KQT) : Prop :=
  match m.g with
  | none => valLQ h0 Γ (evq N h r) m.m H fun a H' => K (setDQ N h r m.d a) H'
  | some (s, want) => match evq N h r (.t s) with
    | .b x => br x fun y => cond (y == want) (valLQ h0 Γ (evq N h (setDQ N h r (some s) (.b y))) m.m H fun a H' => K (setDQ N h (setDQ N h r (some s) (.b y)) m.d a) H') (K (setDQ N h (setDQ N h r (some s) (.b y)) m.d undefA) H)
    | .v x => asr (isTup x) (K (setDQ N h r m.d undefA) H)
    | _ => False

theorem stepR_eq {D N : Nat} {h0 : Option Nat} {Γ : Gam} {m : MOp} {r : RQ} {t : List AV} {H : Heap} {K : KT} {Kq : KQT} (hr : Rq D N r t) (hK : ∀ r t H, Rq D N r t → Kq r H = K t H) :
    stepR N (half D) h0 Γ m r H Kq = stepO h0 Γ m t H K := by
  have key : ∀ {r : RQ} {t : List AV}, Rq D N r t → (valLQ h0 Γ (evq N (half D) r) m.m H fun a H' => Kq (setDQ N (half D) r m.d a) H') = valL h0 Γ m.m t H fun a H' => K (setD t m.d a) H' := by
    intro r t hr
    have e1 : (fun a H' => Kq (setDQ N (half D) r m.d a) H') = fun a H' => K (setD t m.d a) H' := by
      funext a H'
      exact hK _ _ _ (hr.set m.d a)
    rw [valLQ_eq (t := t) (fun x => hr.ev x), e1]
  unfold stepR stepO
  cases hg : m.g with
  | none => exact key hr
  | some p =>
    obtain ⟨s, want⟩ := p
    simp only
    rw [hr.ev]
    have hev : ev t (.t s) = t.getD s undefA := rfl
    rw [hev]
    cases hs : t.getD s undefA <;> simp only
    rotate_left
    · rw [hK _ _ _ (hr.set m.d undefA)]
    rename_i x
    congr 1
    funext y
    have hr2 : Rq D N (setDQ N (half D) r (some s) (.b y)) (t.set s (.b y)) := hr.set (some s) (.b y)
    rw [key hr2, hK _ _ _ (hr2.set m.d undefA)]

noncomputable def stepsR (N h : Nat) (Γ : Gam) (l : List MOp) : RQ → Heap → KQT → Prop :=
  List.rec (motive := fun _ => RQ → Heap → KQT → Prop) (fun r H K => K r H) (fun m _ ih r H K => stepR N h none Γ m r H fun r' H' => ih r' H' K) l
theorem stepsR_eq {D N : Nat} {Γ : Gam} : ∀ {l : List MOp} {r : RQ} {t : List AV} {H : Heap} {K : KT} {Kq : KQT}, Rq D N r t → (∀ r t H, Rq D N r t → Kq r H = K t H) →
    stepsR N (half D) Γ l r H Kq = steps Γ l t H K
  | [], r, t, H, K, Kq, hr, hK => hK _ _ _ hr
  | m :: l, r, t, H, K, Kq, hr, hK => stepR_eq (K := fun t' H' => steps Γ l t' H' K) hr fun r' t' H' hr' => stepsR_eq hr' hK

noncomputable def WSR (N h h0 : Nat) (Γ : Gam) (s : SchM) : RQ → Heap → KQT → Prop :=
  SchM.rec (motive := fun _ => RQ → Heap → KQT → Prop) (fun r H K => K r H) (fun m _ ih r H K => stepR N h none Γ m r H fun r' H' => ih r' H' K)
    (fun m _ ih r H K => stepR N h (some h0) Γ m r H fun r' H' => ih r' H' K) (fun m _ _ ih ih2 r H K => (stepR N h none Γ m r H fun r' H' => ih r' H' K) ∧ ih2 r H K) s
theorem WSR_eq {D N h0 : Nat} {Γ : Gam} : ∀ {s : SchM} {r : RQ} {t : List AV} {H : Heap} {K : KT} {Kq : KQT}, Rq D N r t → (∀ r t H, Rq D N r t → Kq r H = K t H) →
    WSR N (half D) h0 Γ s r H Kq = WS h0 Γ s t H K
  | .done, r, t, H, K, Kq, hr, hK => hK _ _ _ hr
  | .op m s, r, t, H, K, Kq, hr, hK => stepR_eq (K := fun t' H' => WS h0 Γ s t' H' K) hr fun r' t' H' hr' => WSR_eq hr' hK
  | .ld m s, r, t, H, K, Kq, hr, hK => stepR_eq (K := fun t' H' => WS h0 Γ s t' H' K) hr fun r' t' H' hr' => WSR_eq hr' hK
  | .alt m s s2, r, t, H, K, Kq, hr, hK => by
    have h1 := stepR_eq (m := m) (h0 := none) (Γ := Γ) (H := H) (K := fun t' H' => WS h0 Γ s t' H' K) (Kq := fun r' H' => WSR N (half D) h0 Γ s r' H' Kq) hr fun r' t' H' hr' => WSR_eq hr' hK
    have h2 := WSR_eq (s := s2) (h0 := h0) (Γ := Γ) (H := H) hr hK
    exact congr (congrArg And h1) h2

noncomputable def qCondR (N h : Nat) (x : MO) (a b : FQ) : FQ := fun r H K => match x with
  | .t s => match evq N h r (.t s) with
    | .b c => br c fun y => cond y (a (setDQ N h r (some s) (.b y)) H K) (b (setDQ N h r (some s) (.b y)) H K)
    | _ => False
  | .c (.b c) => cond c (a r H K) (b r H K)
  | _ => False

noncomputable def WR (N h : Nat) (Γ : Gam) (U : Nat) (c : MC) : FQ :=
  MC.rec (motive := fun _ => FQ) qSkip (fun l r H K => stepsR N h Γ l r H (K .normal)) (fun s r H K => WSR N h H.length Γ s r H (K .normal))
    (fun _ _ a b => qSeq a b) (fun x _ _ a b => qCondR N h x a b) (fun id _ a => qBlock id a) (fun _ a => qLoop U a) qExit qRet c

theorem WR_imp {D N : Nat} {Γ : Gam} {U : Nat} : ∀ (c : MC) {r : RQ} {t : List AV} {H : Heap} {K : KE} {Kq : KQ}, Rq D N r t → (∀ e r t H, Rq D N r t → Kq e r H = K e t H) → 0 < U →
    WR N (half D) Γ U c r H Kq = W Γ U c t H K := by
  intro c
  induction c with
  | skip => intro r t H K Kq hr hK hU; exact hK _ _ _ _ hr
  | ops l => intro r t H K Kq hr hK hU; exact stepsR_eq hr fun r t H hr => hK .normal r t H hr
  | dr s => intro r t H K Kq hr hK hU; exact WSR_eq hr fun r t H hr => hK .normal r t H hr
  | seq a b iha ihb =>
    intro r t H K Kq hr hK hU
    refine iha hr (fun e r' t' H' hr' => ?_) hU
    cases e
    · exact ihb hr' hK hU
    · exact hK _ _ _ _ hr'
    · exact hK _ _ _ _ hr'
  | cond x a b iha ihb =>
    intro r t H K Kq hr hK hU
    show qCondR N (half D) x (WR N (half D) Γ U a) (WR N (half D) Γ U b) r H Kq = _
    cases x with
    | t s =>
      have hev : ev t (.t s) = t.getD s undefA := rfl
      simp only [qCondR, W]
      rw [hr.ev, hev]
      cases hs : t.getD s undefA <;> simp only
      rename_i c
      congr 1
      funext y
      have hr2 : Rq D N (setDQ N (half D) r (some s) (.b y)) (t.set s (.b y)) := hr.set (some s) (.b y)
      rw [iha hr2 hK hU, ihb hr2 hK hU]
    | c av =>
      cases av <;> simp only [qCondR, W]
      rw [iha hr hK hU, ihb hr hK hU]
  | block id a ih =>
    intro r t H K Kq hr hK hU
    refine ih hr (fun e r' t' H' hr' => ?_) hU
    cases e with
    | normal => exact hK _ _ _ _ hr'
    | exit i =>
      show _root_.cond (i.beq id) (Kq .normal r' H') (Kq (.exit i) r' H') = _root_.cond (i.beq id) (K .normal t' H') (K (.exit i) t' H')
      rw [hK _ _ _ _ hr', hK _ _ _ _ hr']
    | ret => exact hK _ _ _ _ hr'
  | loop a ih =>
    intro r t H K Kq hr hK hU
    have gen : ∀ n {r : RQ} {t : List AV} {H : Heap}, Rq D N r t → iterQ (WR N (half D) Γ U a) n r H Kq = iterW (W Γ U a) n t H K := by
      intro n
      induction n with
      | zero => intro r t H hr; rfl
      | succ n ihn =>
        intro r t H hr
        refine ih hr (fun e r' t' H' hr' => ?_) hU
        cases e
        · exact ihn hr'
        · exact hK _ _ _ _ hr'
        · exact hK _ _ _ _ hr'
    have := gen U (H := H) hr
    show iterQ (WR N (half D) Γ U a) U r H Kq = loopW (W Γ U a) U t H K
    rw [this]
    cases U with
    | zero => exact absurd hU (by omega)
    | succ U => rfl
  | exit i => intro r t H K Kq hr hK hU; exact hK _ _ _ _ hr
  | ret => intro r t H K Kq hr hK hU; exact hK _ _ _ _ hr

noncomputable def WFR (D : Nat) (Γ : Gam) (U : Nat) (fm : FM) : Spec := fun args H K =>
  asr (Nat.ble (args.length + (fm.nt - args.length)) (2 ^ D) && Nat.blt 0 U) (WR (args.length + (fm.nt - args.length)) (half D) Γ U fm.mc (ofQ D (args ++ List.replicate (fm.nt - args.length) undefA)) H fun e r H' =>
    Ex.rec (ressQ (evq (args.length + (fm.nt - args.length)) (half D) r) fm.res H' fun as => K (tupA as) H') (fun _ => False) (ressQ (evq (args.length + (fm.nt - args.length)) (half D) r) fm.res H' fun as => K (tupA as) H') e)

theorem WFR_imp {D : Nat} {Γ : Gam} {U : Nat} {fm : FM} {args : List AV} {H : Heap} {K : K1} (h : WFR D Γ U fm args H K) : WF Γ U fm args H K := by
  unfold WFR at h
  rw [asr_iff] at h
  obtain ⟨h1, h2⟩ := h
  simp only [Bool.and_eq_true] at h1
  have hN := Nat.le_of_ble_eq_true h1.1
  have hU : 0 < U := by simpa [Nat.blt_eq] using h1.2
  have hr : Rq D (args.length + (fm.nt - args.length)) (ofQ D (args ++ List.replicate (fm.nt - args.length) undefA)) (args ++ List.replicate (fm.nt - args.length) undefA) :=
    ⟨ofQ_full D _, by simp, hN, fun n hn => getQ_of D _ n (Nat.lt_of_lt_of_le hn hN)⟩
  unfold WF
  rw [← WR_imp fm.mc hr ?_ hU]
  · exact h2
  · intro e r t H' hr'
    have hk : ressQ (evq (args.length + (fm.nt - args.length)) (half D) r) fm.res H' (fun as => K (tupA as) H') = ressW fm.res t H' fun as => K (tupA as) H' := ressQ_eq (fun m => hr'.ev m) H' _ _
    cases e
    · exact hk
    · rfl
    · exact hk
end Go.Proofs.Ytpfmnmcpffajeaa.V
