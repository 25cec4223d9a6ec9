/-
  A second semantics of Go's operations. Part 10: code and functions.
-/
import Derived.Test.YticohnaagigmoaaVi
set_option linter.unusedVariables false
set_option linter.unusedSimpArgs false
namespace Go.Proofs.Yticohnaagigmoaa.V
open Go Go.RowKit

inductive MC where
  | skip
  | ops (l : List MOp)
  | dr (s : SchM)
  | seq (a b : MC)
  | cond (x : MO) (a b : MC)
  | block (id : Nat) (a : MC)
  | loop (a : MC)
  | exit (id : Nat)
  | ret
  deriving Inhabited

inductive Ex where
  | normal
  | exit (id : Nat)
  | ret

abbrev KE := Ex → List AV → Heap → Prop

def iterW (F : List AV → Heap → KE → Prop) : Nat → List AV → Heap → KE → Prop
  | 0, _, _, _ => False
  | n + 1, t, H, K => F t H fun e t' H' => match e with
    | .normal => iterW F n t' H' K
    | e => K e t' H'

def loopW (F : List AV → Heap → KE → Prop) (U : Nat) (t : List AV) (H : Heap) (K : KE) : Prop :=
  match U with
  | 0 => ∃ n, iterW F n t H K
  | U + 1 => iterW F (U + 1) t H K

def W (Γ : Gam) (U : Nat) : MC → List AV → Heap → KE → Prop
  | .skip, t, H, K => K .normal t H
  | .ops l, t, H, K => steps Γ l t H (K .normal)
  | .dr s, t, H, K => WS H.length Γ s t H (K .normal)
  | .seq a b, t, H, K => W Γ U a t H fun e t' H' => match e with
    | .normal => W Γ U b t' H' K
    | e => K e t' H'
  | .cond x a b, t, H, K => match x with
    | .t s => match t.getD s undefA with
      | .b c => br c fun y => _root_.cond y (W Γ U a (t.set s (.b y)) H K) (W Γ U b (t.set s (.b y)) H K)
      | _ => False
    | .c (.b c) => _root_.cond c (W Γ U a t H K) (W Γ U b t H K)
    | _ => False
  | .block id a, t, H, K => W Γ U a t H fun e t' H' => match e with
    | .exit i => _root_.cond (i.beq id) (K .normal t' H') (K (.exit i) t' H')
    | e => K e t' H'
  | .loop a, t, H, K => loopW (W Γ U a) U t H K
  | .exit id, t, H, K => K (.exit id) t H
  | .ret, t, H, K => K .ret t H

def compC (P : Program) (eqs : TypeId → Option (List SK)) (neut : TypeId → Bool) : Code → Option MC
  | .skip => some .skip
  | .region _ ops false => (compL P eqs neut ops ops.toList).map .ops
  | .region _ ops true => match compL P eqs neut ops ops.toList with
    | some mops => _root_.cond (Region.noSelect ops) ((sched ops mops (dirtyL mops) ops.size (Array.replicate ops.size false)).map .dr) none
    | none => none
  | .seq a b => match compC P eqs neut a, compC P eqs neut b with
    | some a, some b => some (.seq a b)
    | _, _ => none
  | .cond c a b => match cop c, compC P eqs neut a, compC P eqs neut b with
    | some c, some a, some b => some (.cond c a b)
    | _, _, _ => none
  | .block id a => (compC P eqs neut a).map (.block id)
  | .loop a => (compC P eqs neut a).map .loop
  | .exit id => some (.exit id)
  | .ret => some .ret
  | _ => none

def QK (w0 : World) (ρ : List Loc) (K : KE) (df : List Deferred) : Exit → Act → World → Prop
  | .normal, a, w => Post w0 ρ (K .normal) df a w
  | .exit id, a, w => Post w0 ρ (K (.exit id)) df a w
  | .ret, a, w => Post w0 ρ (K .ret) df a w
  | _, _, _ => False

theorem QK.of_prefix {w0 : World} {ρ ρ' : List Loc} {K : KE} {df : List Deferred} (hp : ρ <+: ρ') : ∀ e a w, QK w0 ρ' K df e a w → QK w0 ρ K df e a w := by
  intro e a w h
  cases e <;> simp only [QK] at h ⊢ <;> first | exact h.of_prefix hp | exact h

theorem W_sound {P : Program} {eqs : TypeId → Option (List SK)} {neut : TypeId → Bool} {Γ : Gam} {U : Nat} (hmix : P.follows .mixedOrders = true) (hΓ : Γ.ok P) (hE : ∀ ty ks, eqs ty = some ks → EqOK P ty ks) {w0 : World} {df : List Deferred} :
    ∀ (c : Code) (mc : MC), compC P eqs neut c = some mc → ∀ {t : List AV} {a : Act} {w : World} {ρ : List Loc} {H : Heap} {K : KE}, TR ρ t a → Rel w0 ρ H w → a.defers = df → W Γ U mc t H K → c.wp P (QK w0 ρ K df) a w := by
  intro c
  induction c with
  | skip =>
    intro mc hc t a w ρ H K hT hR hd hv
    simp [compC] at hc; subst hc
    exact wp_skip ⟨t, ρ, H, List.prefix_refl _, hT, hR, hd, hv⟩
  | region id ops draw =>
    intro mc hc t a w ρ H K hT hR hd hv
    cases draw with
    | false =>
      simp only [compC] at hc
      obtain ⟨ms, h1, rfl⟩ := map_some hc
      simp only [W] at hv
      refine wp_region ?_
      have := steps_sound (Q := QK w0 ρ K df) hΓ hE ops.toList 0 ms h1 (fun j => by simp) hT hR hd hv (fun a' w' h => h)
      rw [List.range_eq_range']
      simpa using this
    | true =>
      simp only [compC] at hc
      split at hc
      · rename_i mops hm
        cases hsel : Region.noSelect ops with
        | false => rw [hsel] at hc; simp at hc
        | true =>
          rw [hsel] at hc
          simp only [cond_true] at hc
          obtain ⟨s, h1, rfl⟩ := map_some hc
          simp only [W] at hv
          refine wp_region_any hmix (wpAny_of_X _ _ _ _ (S := Stand w0 ρ H) (ds := dirtyL mops) ?_)
          exact sched_sound hΓ hE hm hsel (fun _ _ _ _ _ h => h) ⟨w, hR⟩ ops.size _ s h1 hT hR.drew hd (List.prefix_refl _) (fun _ => List.prefix_refl _) hv (fun a' w' h => h)
      · simp at hc
  | seq x y ihx ihy =>
    intro mc hc t a w ρ H K hT hR hd hv
    simp only [compC] at hc
    split at hc
    · rename_i mx my h1 h2
      simp at hc; subst hc
      simp only [W] at hv
      refine wp_seq (wp_mono (ihx mx h1 hT hR hd hv) fun e a' w' h => ?_)
      cases e <;> simp only [QK, Exit.then] at h ⊢ <;> first | exact h | skip
      obtain ⟨t', ρ', H', k1, k2, k3, k4, k5⟩ := h
      exact wp_mono (ihy my h2 k2 k3 k4 k5) (QK.of_prefix k1)
    · simp at hc
  | cond c x y ihx ihy =>
    intro mc hc t a w ρ H K hT hR hd hv
    simp only [compC] at hc
    split at hc
    · rename_i m mx my h0 h1 h2
      simp at hc; subst hc
      have hr := ev_sound hT h0
      cases m with
      | t s =>
        simp only [W] at hv
        split at hv
        · rename_i b hb
          rw [br_iff] at hv
          obtain ⟨hT', _⟩ := hT.setSame hb
          have hb' : ev t (.t s) = .b b := hb
          rw [hb'] at hr
          cases hr1 : a.eval c <;> rw [hr1] at hr <;> cases hr
          refine wp_cond hr1 ?_
          cases b
          · exact ihy my h2 hT' hR hd hv
          · exact ihx mx h1 hT' hR hd hv
        · exact hv.elim
      | c av =>
        cases av <;> simp only [W] at hv <;> first | exact hv.elim | skip
        rename_i b
        simp only [ev] at hr
        cases hr1 : a.eval c <;> rw [hr1] at hr <;> cases hr
        refine wp_cond hr1 ?_
        cases b
        · exact ihy my h2 hT hR hd hv
        · exact ihx mx h1 hT hR hd hv
    · simp at hc
  | block id x ih =>
    intro mc hc t a w ρ H K hT hR hd hv
    simp only [compC] at hc
    obtain ⟨mx, h1, rfl⟩ := map_some hc
    simp only [W] at hv
    refine wp_block (wp_mono (ih mx h1 hT hR hd hv) fun e a' w' h => ?_)
    cases e <;> simp only [QK, Exit.inBlock] at h ⊢ <;> first | exact h | skip
    rename_i i
    obtain ⟨t', ρ', H', k1, k2, k3, k4, k5⟩ := h
    by_cases hi : i = id
    · subst hi
      rw [if_pos rfl]
      simp at k5
      exact ⟨t', ρ', H', k1, k2, k3, k4, k5⟩
    · rw [if_neg hi]
      rw [beq_no hi] at k5
      exact ⟨t', ρ', H', k1, k2, k3, k4, k5⟩
  | loop x ih =>
    intro mc hc t a w ρ H K hT hR hd hv
    simp only [compC] at hc
    obtain ⟨mx, h1, rfl⟩ := map_some hc
    simp only [W] at hv
    have hn : ∃ n, iterW (W Γ U mx) n t H K := by
      unfold loopW at hv
      split at hv
      · exact hv
      · exact ⟨_, hv⟩
    obtain ⟨n, hn⟩ := hn
    refine wp_loop_rounds n ?_
    have gen : ∀ (n : Nat) {t : List AV} {a : Act} {w : World} {ρ : List Loc} {H : Heap}, TR ρ t a → Rel w0 ρ H w → a.defers = df → iterW (W Γ U mx) n t H K → ∀ {ρ0 : List Loc}, ρ0 <+: ρ → Code.rounds P x (QK w0 ρ0 K df) n a w := by
      intro n
      induction n with
      | zero => intro t a w ρ H _ _ _ h; exact h.elim
      | succ n ihn =>
        intro t a w ρ H hT hR hd h ρ0 hp
        rw [rounds_succ]
        simp only [iterW] at h
        refine wp_mono (ih mx h1 hT hR hd h) fun e a' w' h => ?_
        cases e <;> simp only [QK, Exit.then] at h ⊢ <;> first | exact h | exact h.of_prefix hp | skip
        obtain ⟨t', ρ', H', k1, k2, k3, k4, k5⟩ := h
        exact ihn k2 k3 k4 k5 (hp.trans k1)
    exact gen n hT hR hd hn (List.prefix_refl _)
  | exit id =>
    intro mc hc t a w ρ H K hT hR hd hv
    simp [compC] at hc; subst hc
    exact wp_exit ⟨t, ρ, H, List.prefix_refl _, hT, hR, hd, hv⟩
  | ret =>
    intro mc hc t a w ρ H K hT hR hd hv
    simp [compC] at hc; subst hc
    exact wp_ret ⟨t, ρ, H, List.prefix_refl _, hT, hR, hd, hv⟩
  | _ => intro mc hc; simp [compC] at hc

/-! ### Functions -/
inductive RV where
  | tmp (t : Nat)
  | cell (t : Nat)
  | cells (t n : Nat)
  deriving Inhabited

structure FM where
  nt : Nat
  res : List RV
  mc : MC
  deriving Inhabited

def resW (r : RV) (t : List AV) (H : Heap) (K : AV → Prop) : Prop :=
  match r with
  | .tmp n => K (t.getD n undefA)
  | .cell n => match t.getD n undefA with
    | .ptr id ix c => blkAt H id fun B => asr (Nat.blt ix B.n) (match (B.f ix)[c]? with
      | some a => K a
      | none => False)
    | _ => False
  | .cells n k => match t.getD n undefA with
    | .ptr id ix c => blkAt H id fun B => asr (Nat.blt ix B.n) (asr (Nat.ble (c + k) (B.f ix).length) (K (.agg (((B.f ix).drop c).take k))))
    | _ => False

def ressW : List RV → List AV → Heap → (List AV → Prop) → Prop
  | [], _, _, K => K []
  | r :: rs, t, H, K => resW r t H fun a => ressW rs t H fun as => K (a :: as)

def tupA : List AV → AV
  | [a] => a
  | as => .tup as

def WF (Γ : Gam) (U : Nat) (fm : FM) : Spec := fun args H K =>
  W Γ U fm.mc (args ++ List.replicate (fm.nt - args.length) undefA) H fun e t' H' => match e with
    | .exit _ => False
    | _ => ressW fm.res t' H' fun as => K (tupA as) H'

def compR (P : Program) : ResultVar → Option RV
  | .tmp t => some (.tmp t)
  | .cell t ty => match P.underlying ty, szOf P ty with
    | some d, some n => some (_root_.cond (aggD d) (.cells t n) (.cell t))
    | _, _ => none

def compRs (P : Program) : List ResultVar → Option (List RV)
  | [] => some []
  | r :: rs => match compR P r, compRs P rs with
    | some a, some as => some (a :: as)
    | _, _ => none

def compF (P : Program) (eqs : TypeId → Option (List SK)) (neut : TypeId → Bool) (f : FuncId) : Option FM :=
  match P.funcs[f]? with
  | some fn => match fn.body, compRs P fn.results.toList with
    | some c, some rs => _root_.cond (fn.name == "runtime.NumGoroutine") none ((compC P eqs neut c).map fun mc => ⟨fn.ntmps, rs, mc⟩)
    | _, _ => none
  | none => none

theorem res_sound {P : Program} {w0 w : World} {ρ : List Loc} {t : List AV} {a : Act} {H : Heap} (hT : TR ρ t a) (hR : Rel w0 ρ H w) {r : ResultVar} {rv : RV} (hc : compR P r = some rv) {K : AV → Prop} (hv : resW rv t H K) :
    ∃ v av, ((match r with | .tmp t => pure (a.tmps.getD t undef) | .cell x t => do loadVar t (← asAddr (a.tmps.getD x undef))) : Sem Value).run P w = .ok v w ∧ R ρ av v ∧ K av := by
  cases r with
  | tmp n =>
    simp [compR] at hc; subst hc
    exact ⟨_, _, rfl, hT.get n, hv⟩
  | cell x ty =>
    simp only [compR] at hc
    split at hc
    · rename_i d n h2 h3
      simp at hc
      have hr := hT.get x
      cases hagg : aggD d with
      | true =>
        rw [hagg] at hc; simp only [cond_true] at hc; subst hc
        simp only [resW, undefA] at hv
        split at hv
        · rename_i id ix c he
          rw [he] at hr
          unfold blkAt at hv
          split at hv
          · rename_i B hB
            simp only [asr_iff] at hv
            obtain ⟨q1, q2, hk⟩ := hv
            cases hr1 : a.tmps.getD x undef <;> rw [hr1] at hr <;> cases hr
            rename_i b o' e' hρ
            obtain ⟨vs, g1, g2⟩ := load_cells (P := P) hR hB hρ (by simpa [Nat.blt_eq] using q1) (Nat.le_of_ble_eq_true q2)
            exact ⟨.agg vs.toArray, _, by simp only [hr1]; simp [asAddr, loadVar, run_agg h2, hagg, run_size h3, g1], .agg g2, hk⟩
          · exact hv.elim
        · exact hv.elim
      | false =>
        rw [hagg] at hc; simp only [cond_false] at hc; subst hc
        simp only [resW, undefA] at hv
        split at hv
        · rename_i id ix c he
          rw [he] at hr
          unfold blkAt at hv
          split at hv
          · rename_i B hB
            simp only [asr_iff] at hv
            obtain ⟨q1, hk⟩ := hv
            split at hk
            · rename_i av hav
              cases hr1 : a.tmps.getD x undef <;> rw [hr1] at hr <;> cases hr
              rename_i b o' e' hρ
              obtain ⟨b1, o1, k1, k2⟩ := hR.blk id B hB
              rw [hρ] at k1; simp at k1
              obtain ⟨rfl, rfl, rfl⟩ := k1
              obtain ⟨v, g1, g2⟩ := k2.cell ix c av (by simpa [Nat.blt_eq] using q1) hav
              exact ⟨v, av, by simp only [hr1]; simp [asAddr, loadVar, run_agg h2, hagg, g1], g2, hk⟩
            · exact hk.elim
          · exact hv.elim
        · exact hv.elim
    · simp at hc

theorem ress_sound {P : Program} {w0 w : World} {ρ : List Loc} {t : List AV} {a : Act} {H : Heap} (hT : TR ρ t a) (hR : Rel w0 ρ H w) : ∀ {rs : List ResultVar} {rvs : List RV}, compRs P rs = some rvs → ∀ {K : List AV → Prop}, ressW rvs t H K →
    ∃ vs avs, (rs.mapM (fun | .tmp t => pure (a.tmps.getD t undef) | .cell x t => do loadVar t (← asAddr (a.tmps.getD x undef))) : Sem (List Value)).run P w = .ok vs w ∧ RL ρ avs vs ∧ K avs
  | [], rvs, hc, K, hv => by simp [compRs] at hc; subst hc; exact ⟨[], [], rfl, .nil, hv⟩
  | r :: rs, rvs, hc, K, hv => by
    simp only [compRs] at hc
    split at hc
    · rename_i x xs h1 h2
      simp at hc; subst hc
      obtain ⟨v, av, k1, k2, k3⟩ := res_sound (P := P) hT hR h1 hv
      obtain ⟨vs, avs, g1, g2, g3⟩ := ress_sound hT hR h2 k3
      refine ⟨v :: vs, av :: avs, ?_, .cons k2 g2, g3⟩
      rw [List.mapM_cons]
      cases r with
      | tmp n =>
        simp only [Sem.run_bind] at k1 ⊢
        rw [k1]
        simp only [Result.andThen_ok, g1]
        rfl
      | cell n ty =>
        have k1' : (do loadVar ty (← asAddr (a.tmps.getD n undef)) : Sem Value).run P w = .ok v w := k1
        simp only [Sem.run_bind] at k1' ⊢
        rw [k1']
        simp only [Result.andThen_ok, g1]
        rfl
    · simp at hc

theorem WF_sound {P : Program} {eqs : TypeId → Option (List SK)} {neut : TypeId → Bool} {Γ : Gam} {U : Nat} (hmix : P.follows .mixedOrders = true) (hΓ : Γ.ok P) (hE : ∀ ty ks, eqs ty = some ks → EqOK P ty ks) {f : FuncId} {fm : FM} (hc : compF P eqs neut f = some fm) :
    SoundG P f (WF Γ U fm) := by
  intro args H K hv
  unfold compF at hc
  split at hc
  · rename_i fn hf
    split at hc
    · rename_i c rs hb hrs
      cases hname : (fn.name == "runtime.NumGoroutine") with
      | true => rw [hname] at hc; simp at hc
      | false =>
        rw [hname] at hc
        simp only [cond_false] at hc
        obtain ⟨mc, h1, rfl⟩ := map_some hc
        refine ⟨by simp [goesTo, hf, hb, hname], fun w0 ρ w vs hvs hR => ?_⟩
        refine calls_of_wp hf hb ?_
        have hT : TR ρ (args ++ List.replicate (fn.ntmps - args.length) undefA) { tmps := vs.toArray ++ Array.replicate (fn.ntmps - vs.toArray.size) undef, defers := [] } := by
          have := hvs.append (RL.replicate (undef_R (ρ := ρ)) (fn.ntmps - args.length))
          rw [hvs.length] at this ⊢
          simpa [TR, undefA] using this
        refine wp_mono (W_sound hmix hΓ hE c mc h1 hT hR rfl hv) fun e a' w' h => ?_
        have fin : ∀ {K' : KT}, Post w0 ρ K' [] a' w' → (∀ t H', K' t H' → ressW rs t H' fun as => K (tupA as) H') → a'.defers = [] ∧ ∃ v, (results fn a'.tmps).run P w' = .ok v w' ∧
            ∃ u av ρ' H', Ending.returned v = .returned u ∧ ρ <+: ρ' ∧ R ρ' av u ∧ Rel w0 ρ' H' w' ∧ K av H' := by
          intro K' hp hK
          obtain ⟨t', ρ', H', k1, k2, k3, k4, k5⟩ := hp
          obtain ⟨us, avs, g1, g2, g3⟩ := ress_sound (P := P) k2 k3 hrs (hK _ _ k5)
          refine ⟨k4, if h : us.toArray.size = 1 then us.toArray[0] else .tuple us.toArray, ?_, _, tupA avs, ρ', H', rfl, k1, ?_, k3, g3⟩
          · unfold results
            simp only [Sem.run_bind]
            rw [Array.mapM_eq_mapM_toList, Sem.run_map]
            erw [g1]
            rfl
          · cases g2 with
            | nil => simpa [tupA] using R.tup (ρ := ρ') .nil
            | cons h t =>
              cases t with
              | nil => simpa [tupA] using h
              | cons h2 t2 => simpa [tupA] using R.tup (.cons h (.cons h2 t2))
        cases e <;> simp only [QK, bodyPost] at h ⊢ <;> first | exact h.elim | skip
        · exact fin h (fun t H' hk => hk)
        · obtain ⟨_, _, _, _, _, _, _, hk⟩ := h; exact hk.elim
        · exact fin h (fun t H' hk => hk)
    · simp at hc
  · simp at hc
end Go.Proofs.Yticohnaagigmoaa.V
