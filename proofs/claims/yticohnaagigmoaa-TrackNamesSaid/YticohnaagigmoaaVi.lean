/-
  A second semantics of Go's operations. Part 9: a schedule for a region that draws its order.
-/
import Derived.Test.YticohnaagigmoaaVh
set_option linter.unusedVariables false
set_option linter.unusedSimpArgs false
namespace Go.Proofs.Yticohnaagigmoaa.V
open Go Go.RowKit

inductive SchM where
  | done
  | op (m : MOp) (r : SchM)
  | ld (m : MOp) (r : SchM)
  | alt (m : MOp) (r : SchM) (rest : SchM)
  deriving Inhabited

def WS (h0 : Nat) (Γ : Gam) : SchM → List AV → Heap → KT → Prop
  | .done, t, H, K => K t H
  | .op m r, t, H, K => stepO none Γ m t H fun t' H' => WS h0 Γ r t' H' K
  | .ld m r, t, H, K => stepO (some h0) Γ m t H fun t' H' => WS h0 Γ r t' H' K
  | .alt m r rest, t, H, K => (stepO none Γ m t H fun t' H' => WS h0 Γ r t' H' K) ∧ WS h0 Γ rest t H K

def isLd : MI → Bool
  | .load _ | .loadn .. => true
  | _ => false

def dirtyL (mops : List MOp) : List Nat := (List.range mops.length).filter fun i => match mops[i]? with
  | some m => !keeps m.m
  | none => false

def takeable (ops : Array Oper) (mops : List MOp) (ds : List Nat) (listed : Array Bool) (i : Nat) : Bool :=
  Region.free .any ops listed i && match mops[i]? with
    | some m => pureM m.m || (isLd m.m && noneOf ds listed && ds.all fun d => waitsB ops d i)
    | none => false

def alts (mops : List MOp) (f : Nat → Option SchM) : List Nat → Option SchM
  | [] => none
  | [i] => match mops[i]?, f i with
    | some m, some r => some (.op m r)
    | _, _ => none
  | i :: rest => match mops[i]?, f i, alts mops f rest with
    | some m, some r, some s => some (.alt m r s)
    | _, _, _ => none

def sched (ops : Array Oper) (mops : List MOp) (ds : List Nat) : Nat → Array Bool → Option SchM
  | 0, listed => match Region.ready .any ops listed with
    | [] => some .done
    | _ => none
  | fuel + 1, listed =>
    let rs := Region.ready .any ops listed
    match rs.find? (takeable ops mops ds listed) with
    | some i => match mops[i]?, sched ops mops ds fuel (listed.setIfInBounds i true) with
      | some m, some r => some (cond (pureM m.m) (.op m r) (.ld m r))
      | _, _ => none
    | none => match rs with
      | [] => some .done
      | rs => alts mops (fun i => sched ops mops ds fuel (listed.setIfInBounds i true)) rs

/-- Two values that stand for one. -/
theorem R.det {ρ : List Loc} {a : AV} {v : Value} (h : R ρ a v) : ∀ {v' : Value}, R ρ a v' → v = v' :=
  R.rec (motive_1 := fun a v _ => ∀ {v'}, R ρ a v' → v = v') (motive_2 := fun as vs _ => ∀ {vs'}, RL ρ as vs' → vs = vs')
    (fun k n v' h' => by cases h'; rfl) (fun x v' h' => by cases h'; rfl) (fun x v' h' => by cases h'; rfl)
    (fun h v' h' => by cases h' with | ptr k => rw [h] at k; simp at k; obtain ⟨rfl, rfl, rfl⟩ := k; rfl)
    (fun h v' h' => by cases h' with | slc k => rw [h] at k; simp at k; obtain ⟨rfl, rfl, rfl⟩ := k; rfl)
    (fun h v' h' => by cases h' with | sls k => rw [h] at k; simp at k; obtain ⟨rfl, rfl⟩ := k; rfl)
    (fun h hc v' h' => by cases h' with | sla k kc => rw [h] at k; rw [hc] at kc; simp at k kc; obtain ⟨rfl, rfl, _⟩ := k; subst kc; rfl)
    (fun h' => by cases h'; rfl)
    (fun _ ih v' h' => by cases h' with | fn k => rw [ih k])
    (fun _ ih v' h' => by cases h' with | agg k => rw [ih k])
    (fun _ ih v' h' => by cases h' with | tup k => rw [ih k])
    (fun _ v' h' => by cases h'; rfl)
    (fun h' => by cases h'; rfl)
    (fun _ _ ih1 ih2 vs' h' => by cases h' with | cons k l => rw [ih1 k, ih2 l]) h

theorem RL.det {ρ : List Loc} : ∀ {as : List AV} {vs vs' : List Value}, RL ρ as vs → RL ρ as vs' → vs = vs'
  | [], _, _, h, h' => by cases h; cases h'; rfl
  | _ :: _, _, _, h, h' => by cases h with | cons h t => cases h' with | cons h' t' => rw [h.det h', RL.det t t']

/-- The blocks that stood as the region began stand. -/
def Stand (w0 : World) (ρ0 : List Loc) (H0 : Heap) (w' : World) : Prop :=
  ∃ ρ' : List Loc, ρ0 <+: ρ' ∧ ∀ (id : Nat) (B : Blk), H0[id]? = some (some B) → ∃ b o, ρ'[id]? = some (b, o, B.esz) ∧ Holds w0 ρ' B b o w'

theorem Stand.of_rel {w0 w' : World} {ρ0 ρ : List Loc} {H0 H : Heap} (h : Rel w0 ρ H w') (hp : ρ0 <+: ρ) (hH : H0 <+: H) : Stand w0 ρ0 H0 w' :=
  ⟨ρ, hp, fun id B e => h.blk id B (by obtain ⟨x, rfl⟩ := hH; rw [List.getElem?_append_left (List.getElem?_eq_some_iff.1 e).1]; exact e)⟩

theorem prefix_get {α : Type} {l l' : List α} (h : l <+: l') {i : Nat} {x : α} (e : l[i]? = some x) : l'[i]? = some x := by
  obtain ⟨t, rfl⟩ := h
  rw [List.getElem?_append_left (List.getElem?_eq_some_iff.1 e).1]
  exact e
theorem prefix_get' {α : Type} {l l' : List α} (h : l <+: l') {i : Nat} (hi : i < l.length) : l'[i]? = l[i]? := by
  obtain ⟨t, rfl⟩ := h
  rw [List.getElem?_append_left hi]

/-- A load of one of the first blocks yields in every world in which they stand. -/
theorem load_yields {P : Program} {eqs : TypeId → Option (List SK)} {neut : TypeId → Bool} {Γ : Gam} {o : Oper} {mi : MI} {t : List AV} {a : Act} {w0 w : World} {ρ0 ρ : List Loc} {H0 H : Heap} {K : K1}
    (hR0 : ∃ w1, Rel w0 ρ0 H0 w1) (hc : compM P eqs neut o = some mi) (hld : isLd mi = true) (hT : TR ρ t a) (hR : Rel w0 ρ H w) (hp : ρ0 <+: ρ) (hH : H0 <+: H) (hv : valL (some H0.length) Γ mi t H K) :
    ∃ v av, (∀ w', Stand w0 ρ0 H0 w' → (execOp a.eval o).run P w' = .ok (.value v) w') ∧ R ρ av v ∧ K av H := by
  obtain ⟨w1, hR0⟩ := hR0
  -- a cell of an old block is the same in every such world
  have cell0 : ∀ {id ix c : Nat} {B : Blk} {av : AV} {b o' : Nat}, H0[id]? = some (some B) → ix < B.n → (B.f ix)[c]? = some av → ρ0[id]? = some (b, o', B.esz) →
      ∃ v, R ρ0 av v ∧ ∀ w', Stand w0 ρ0 H0 w' → w'.cell? ⟨b, o' + ix * B.esz + c, none⟩ = some v := fun {id ix c B av b o'} hB hix hav hρ => by
    obtain ⟨b1, o1, k1, k2⟩ := hR0.blk id B hB
    rw [hρ] at k1; simp at k1
    obtain ⟨rfl, rfl⟩ := k1
    obtain ⟨v, g1, g2⟩ := k2.cell ix c av hix hav
    refine ⟨v, g2, fun w' ⟨ρ', hp', hS⟩ => ?_⟩
    obtain ⟨b2, o2, q1, q2⟩ := hS id B hB
    rw [prefix_get hp' hρ] at q1; simp at q1
    obtain ⟨rfl, rfl⟩ := q1
    obtain ⟨v', r1, r2⟩ := q2.cell ix c av hix hav
    rw [r1, (g2.mono hp').det r2]
  have hlen : H0.length = ρ0.length := hR0.len
  rcases compM_cases hc with rfl | hc
  · simp [isLd] at hld
  unfold compM0 at hc
  split at hc
  case h_1 ty x ho =>
    split at hc
    · rename_i m d n h1 h2 h3
      simp at hc
      have hr := ev_sound hT h1
      cases hagg : aggD d with
      | true =>
        rw [hagg] at hc
        simp only [cond_true] at hc
        subst hc
        simp only [valL] at hv
        split at hv
        · rename_i id ix c he
          rw [asr_iff] at hv
          obtain ⟨q0, hv⟩ := hv
          have q0 : id < H0.length := by simpa [Nat.blt_eq] using q0
          simp only [val, he] at hv
          rw [he] at hr
          unfold blkAt at hv
          split at hv
          · rename_i B hB
            simp only [asr_iff] at hv
            obtain ⟨q1, q2, hk⟩ := hv
            cases hr1 : a.eval x <;> rw [hr1] at hr <;> cases hr
            rename_i b o' e' hρ
            have q1 : ix < B.n := by simpa [Nat.blt_eq] using q1
            have q2 := Nat.le_of_ble_eq_true q2
            have hB0 : H0[id]? = some (some B) := by rw [← prefix_get' hH q0]; exact hB
            obtain ⟨b1, o1, k1, k2⟩ := hR0.blk id B hB0
            have k1' := prefix_get hp k1
            rw [hρ] at k1'; simp at k1'
            obtain ⟨rfl, rfl, rfl⟩ := k1'
            -- the row's values
            obtain ⟨vs, g1, g2⟩ := load_cells (P := P) hR0 hB0 k1 q1 q2
            refine ⟨.agg vs.toArray, _, fun w' hS => ?_, .agg (RL.mono hp g2), hk⟩
            have hcells : (loadCells ⟨b, o' + ix * B.esz + c, none⟩ n).run P w' = .ok vs.toArray w' := by
              have hl : vs.length = n := by
                have := g2.length
                simp at this; omega
              have := run_loadCells_list (P := P) w' ⟨b, o' + ix * B.esz + c, none⟩ vs (fun j v hj => by
                have hjn : j < n := by rw [← hl]; exact (List.getElem?_eq_some_iff.1 hj).1
                have hlt : c + j < (B.f ix).length := by omega
                obtain ⟨u, u1, u2⟩ := cell0 hB0 q1 (List.getElem?_eq_getElem hlt) k1
                rw [add_at]
                have := u2 w' hS
                rw [← Nat.add_assoc] at this
                rw [this]
                have hav : (((B.f ix).drop c).take n)[j]? = some (B.f ix)[c + j] := by
                  rw [List.getElem?_take_of_lt hjn, List.getElem?_drop, List.getElem?_eq_getElem hlt]
                obtain ⟨v2, e1, e2⟩ := g2.get hav
                rw [hj] at e1; simp at e1; subst e1
                rw [u1.det e2])
              rw [hl] at this
              exact this
            simp [execOp, ho, hr1, Instr.loadAt, Instr.sureAddr, loadVar, run_agg h2, hagg, run_size h3, hcells]
          · exact hv.elim
        · exact hv.elim
      | false =>
        rw [hagg] at hc
        simp only [cond_false] at hc
        subst hc
        simp only [valL] at hv
        split at hv
        · rename_i id ix c he
          rw [asr_iff] at hv
          obtain ⟨q0, hv⟩ := hv
          have q0 : id < H0.length := by simpa [Nat.blt_eq] using q0
          simp only [val, he] at hv
          rw [he] at hr
          unfold blkAt at hv
          split at hv
          · rename_i B hB
            simp only [asr_iff] at hv
            obtain ⟨q1, hk⟩ := hv
            split at hk
            · rename_i av hav
              cases hr1 : a.eval x <;> rw [hr1] at hr <;> cases hr
              rename_i b o' e' hρ
              have q1 : ix < B.n := by simpa [Nat.blt_eq] using q1
              have hB0 : H0[id]? = some (some B) := by rw [← prefix_get' hH q0]; exact hB
              obtain ⟨b1, o1, k1, k2⟩ := hR0.blk id B hB0
              have k1' := prefix_get hp k1
              rw [hρ] at k1'; simp at k1'
              obtain ⟨rfl, rfl, rfl⟩ := k1'
              obtain ⟨v, u1, u2⟩ := cell0 hB0 q1 hav k1
              refine ⟨v, av, fun w' hS => ?_, u1.mono hp, hk⟩
              simp [execOp, ho, hr1, Instr.loadAt, Instr.sureAddr, loadVar, run_agg h2, hagg, u2 w' hS]
            · exact hk.elim
          · exact hv.elim
        · exact hv.elim
    · simp at hc
  all_goals exfalso
  case h_2 => split at hc <;> simp at hc; subst hc; simp [isLd] at hld
  case h_3 => obtain ⟨_, _, rfl⟩ := map_some hc; simp [isLd] at hld
  case h_4 => obtain ⟨_, _, rfl⟩ := map_some hc; simp [isLd] at hld
  case h_5 ty len parts ho =>
    split at hc
    · split at hc
      · rename_i s zs hs hz
        cases hzero : (len.beq 0 && parts.toList.isEmpty) with
        | true =>
          rw [hzero] at hc
          simp only [cond_true, Option.some.injEq] at hc
          subst hc
          simp [isLd] at hld
        | false =>
        rw [hzero] at hc
        simp only [cond_false] at hc
        cases hcnd : (Nat.ble (len * s) 16777216 && Nat.blt 0 (len * s) && Nat.blt 0 zs.length) with
        | false => rw [hcnd] at hc; simp at hc
        | true =>
          simp only [hcnd, cond_true] at hc
          obtain ⟨_, _, rfl⟩ := map_some hc
          simp [isLd] at hld
      · simp at hc
    · simp at hc
  case h_6 f args ats ho =>
    obtain ⟨_, _, rfl⟩ := map_some hc
    unfold callM at hld
    split at hld
    · simp [isLd] at hld
    cases hn : neut f <;> rw [hn] at hld <;> simp [isLd] at hld
  case h_7 => obtain ⟨_, _, rfl⟩ := map_some hc; simp [isLd] at hld
  case h_8 =>
    (repeat' split at hc) <;> first
      | (simp at hc; done)
      | (generalize hb : (_ && _ : Bool) = b at hc
         cases b <;> simp at hc
         subst hc
         simp [isLd] at hld)
  case h_9 =>
    (repeat' split at hc) <;> first
      | (simp at hc; done)
      | (generalize hb : (_ && _ : Bool) = b at hc
         cases b <;> simp at hc
         subst hc
         simp [isLd] at hld)
  case h_10 =>
    have := compP_pure hc
    cases mi <;> simp [isLd, pureM] at hld this

/-- What a taken operation does. -/
theorem take_sound {P : Program} {eqs : TypeId → Option (List SK)} {neut : TypeId → Bool} {Γ : Gam} (hE : ∀ ty ks, eqs ty = some ks → EqOK P ty ks) {ops : Array Oper} {o : Oper} {m : MOp}
    (hc : compO P eqs neut ops o = some m) {t : List AV} {a : Act} {w0 w : World} {ρ0 ρ : List Loc} {H0 H : Heap} {K : KT} (hR0 : ∃ w1, Rel w0 ρ0 H0 w1) (hT : TR ρ t a) (hR : Rel w0 ρ H w) (hp : ρ0 <+: ρ)
    {ld : Bool} (hld : cond ld (isLd m.m) (pureM m.m) = true) (hH : ld = true → H0 <+: H) (hv : stepO (cond ld (some H0.length) none) Γ m t H K) :
    ∃ v t', YieldsIf P ops (fun w => ld = true → Stand w0 ρ0 H0 w) o v a ∧ TR ρ t' (a.put o.dst v) ∧ K t' H := by
  -- what the instruction itself yields
  have key : ∀ {t1 : List AV} {K1' : K1} {mi : MI}, compM P eqs neut o = some mi → cond ld (isLd mi) (pureM mi) = true → TR ρ t1 a → valL (cond ld (some H0.length) none) Γ mi t1 H K1' →
      ∃ v av, (∀ w', (ld = true → Stand w0 ρ0 H0 w') → (execOp a.eval o).run P w' = .ok (.value v) w') ∧ R ρ av v ∧ K1' av H := by
    intro t1 K1' mi hm hl hT1 hv1
    cases ld with
    | true =>
      obtain ⟨v, av, k1, k2, k3⟩ := load_yields hR0 hm hl hT1 hR hp (hH rfl) hv1
      exact ⟨v, av, fun w' h => k1 w' (h rfl), k2, k3⟩
    | false =>
      have hv2 := val_pure hl (valL_val hv1)
      have hcp : compP P eqs o = some mi := by
        rcases compM_cases hm with rfl | hm
        · simp [pureM] at hl
        unfold compM0 at hm
        split at hm
        case h_10 => exact hm
        all_goals exfalso
        case h_1 =>
          split at hm
          · rename_i d n _ _ _
            simp at hm; subst hm
            cases hd : aggD d <;> rw [hd] at hl <;> simp [pureM] at hl
          · simp at hm
        case h_2 => split at hm <;> simp at hm; subst hm; simp [pureM] at hl
        case h_3 => obtain ⟨_, _, rfl⟩ := map_some hm; simp [pureM] at hl
        case h_4 => obtain ⟨_, _, rfl⟩ := map_some hm; simp [pureM] at hl
        case h_5 ty len parts ho =>
          split at hm
          · split at hm
            · rename_i s zs hs hz
              cases hzero : (len.beq 0 && parts.toList.isEmpty) with
              | true =>
                rw [hzero] at hm
                simp only [cond_true, Option.some.injEq] at hm
                subst hm
                simp [pureM] at hl
              | false =>
              rw [hzero] at hm
              simp only [cond_false] at hm
              cases hcnd : (Nat.ble (len * s) 16777216 && Nat.blt 0 (len * s) && Nat.blt 0 zs.length) with
              | false => rw [hcnd] at hm; simp at hm
              | true =>
                simp only [hcnd, cond_true] at hm
                obtain ⟨_, _, rfl⟩ := map_some hm
                simp [pureM] at hl
            · simp at hm
          · simp at hm
        case h_6 f args ats ho =>
          obtain ⟨_, _, rfl⟩ := map_some hm
          unfold callM at hl
          split at hl
          · simp [pureM] at hl
          cases hn : neut f <;> rw [hn] at hl <;> simp [pureM] at hl
        case h_7 => obtain ⟨_, _, rfl⟩ := map_some hm; simp [pureM] at hl
        case h_8 =>
          (repeat' split at hm) <;> first
            | (simp at hm; done)
            | (generalize hb : (_ && _ : Bool) = b at hm
               cases b <;> simp at hm
               subst hm
               simp [pureM] at hl)
        case h_9 =>
          (repeat' split at hm) <;> first
            | (simp at hm; done)
            | (generalize hb : (_ && _ : Bool) = b at hm
               cases b <;> simp at hm
               subst hm
               simp [pureM] at hl)
      obtain ⟨v, av, k1, k2, k3⟩ := pure_sound hE hcp hT1 hv2
      exact ⟨v, av, fun w' _ => k1 w', k2, k3⟩
  unfold compO at hc
  split at hc
  · rename_i mi hm hg
    simp at hc; subst hc
    obtain ⟨v, av, k1, k2, k3⟩ := key hm hld hT hv
    exact ⟨v, _, .inl ⟨by simp [Region.wanted, hg], fun w' h => k1 w' h⟩, TR.put hT k2, k3⟩
  · rename_i mi j want hm hg
    split at hc
    · rename_i s hs
      simp at hc; subst hc
      simp only [stepO] at hv
      split at hv
      · rename_i x hx
        rw [br_iff] at hv
        obtain ⟨hT', hs'⟩ := hT.setSame hx
        have hy : yielded ops a.tmps j = some x := by simp [yielded, hs, hs']
        by_cases hxw : x = want
        · simp only [hxw, beq_self_eq_true, cond_true] at hv
          rw [hxw] at hT'
          obtain ⟨v, av, k1, k2, k3⟩ := key hm hld hT' hv
          exact ⟨v, _, .inl ⟨by simp [Region.wanted, hg, hy, hxw], fun w' h => k1 w' h⟩, TR.put hT' k2, k3⟩
        · have hb : (x == want) = false := by simpa using hxw
          simp only [hb, cond_false] at hv
          exact ⟨undef, _, .inr ⟨by simp [Region.wanted, hg, hy, hxw], rfl⟩, TR.put hT' undef_R, hv⟩
      · rename_i x hx
        rw [asr_iff] at hv
        have hy : yielded ops a.tmps j = none := yielded_tup hT hx hv.1 hs
        exact ⟨undef, _, .inr ⟨by simp [Region.wanted, hg, hy], rfl⟩, TR.put hT undef_R, hv.2⟩
      · exact hv.elim
    · simp at hc
  · simp at hc

theorem compL_get {P : Program} {eqs : TypeId → Option (List SK)} {neut : TypeId → Bool} {ops : Array Oper} : ∀ {l : List Oper} {ms : List MOp}, compL P eqs neut ops l = some ms → ∀ {i : Nat} {m : MOp}, ms[i]? = some m → ∃ o, l[i]? = some o ∧ compO P eqs neut ops o = some m
  | [], ms, h, i, m, e => by simp [compL] at h; subst h; simp at e
  | o :: l, ms, h, i, m, e => by
    simp only [compL] at h
    split at h
    · rename_i m' r h1 h2
      simp at h; subst h
      cases i with
      | zero => simp at e; subst e; exact ⟨o, rfl, h1⟩
      | succ i => simp at e; obtain ⟨o', k1, k2⟩ := compL_get h2 e; exact ⟨o', by simpa using k1, k2⟩
    · simp at h

theorem sched_sound {P : Program} {eqs : TypeId → Option (List SK)} {neut : TypeId → Bool} {Γ : Gam} (hΓ : Γ.ok P) (hE : ∀ ty ks, eqs ty = some ks → EqOK P ty ks) {ops : Array Oper} {mops : List MOp} (hm : compL P eqs neut ops ops.toList = some mops) (hsel : Region.noSelect ops = true)
    {Q : Exit → Act → World → Prop} (hQp : ∀ c a w o v, Q (.panic c) (a.put o v) w → Q (.panic c) a w) {K : KT} {w0 : World} {df : List Deferred} {ρ0 : List Loc} {H0 : Heap} (hR0 : ∃ w1, Rel w0 ρ0 H0 w1) :
    ∀ (fuel : Nat) (listed : Array Bool) (s : SchM), sched ops mops (dirtyL mops) fuel listed = some s →
    ∀ {t : List AV} {a : Act} {w : World} {ρ : List Loc} {H : Heap}, TR ρ t a → Rel w0 ρ H w → a.defers = df → ρ0 <+: ρ → (noneOf (dirtyL mops) listed = true → H0 <+: H) →
      WS H0.length Γ s t H K → (∀ a' w', Post w0 ρ0 K df a' w' → Q .normal a' w') → wpAnyX P ops Q (Stand w0 ρ0 H0) (dirtyL mops) fuel listed a w := by
  have memD : ∀ {i : Nat} {m : MOp}, mops[i]? = some m → (i ∈ dirtyL mops ↔ keeps m.m = false) := fun {i m} e => by
    unfold dirtyL
    rw [List.mem_filter]
    obtain ⟨h1, h2⟩ := List.getElem?_eq_some_iff.1 e
    simp only [List.mem_range, h1, true_and, e]
    cases keeps m.m <;> simp
  intro fuel
  induction fuel with
  | zero =>
    intro listed s hs t a w ρ H hT hR hd hp hc hv hQ
    simp only [sched] at hs
    split at hs
    · rename_i hr
      simp at hs; subst hs
      exact wpAnyX_done hr (hQ _ _ ⟨t, ρ, H, hp, hT, hR, hd, hv⟩) 0
    · simp at hs
  | succ fuel ih =>
    intro listed s hs t a w ρ H hT hR hd hp hc hv hQ
    -- one operation carried out
    have one : ∀ {i : Nat} {m : MOp} {r : SchM}, i ∈ Region.ready .any ops listed → mops[i]? = some m → sched ops mops (dirtyL mops) fuel (listed.setIfInBounds i true) = some r →
        (stepO none Γ m t H fun t' H' => WS H0.length Γ r t' H' K) →
        wpOp P ops Q i (fun a' w' => (noneOf (dirtyL mops) (listed.setIfInBounds i true) = true → Stand w0 ρ0 H0 w') ∧ wpAnyX P ops Q (Stand w0 ρ0 H0) (dirtyL mops) fuel (listed.setIfInBounds i true) a' w') a w := by
      intro i m r hi em er hst
      obtain ⟨o, e1, e2⟩ := compL_get hm em
      have hoi : ops[i]? = some o := by simpa using e1
      refine wpOp_mono (fun a' w' hA => ?_) (stepO_sound hΓ hE hoi e2 hT hR hst)
      obtain ⟨t', ρ', H', k1, k2, k3, k4, k5, k6⟩ := hA
      have hH' : noneOf (dirtyL mops) (listed.setIfInBounds i true) = true → H0 <+: H' := fun hn => by
        have hids : i ∉ dirtyL mops := fun hmem => by
          unfold noneOf at hn
          have := List.all_eq_true.1 hn i hmem
          have hlt : i < listed.size := by
            have h0 := (mem_ready.1 hi).1
            rcases Nat.lt_or_ge i listed.size with h | h
            · exact h
            · simp [Array.getElem?_eq_none h] at h0
          simp [hlt] at this
        have hkp : keeps m.m = true := by
          cases hk : keeps m.m with
          | true => rfl
          | false => exact absurd ((memD em).2 hk) hids
        rw [noneOf_set hids] at hn
        exact (hc hn).trans (k2 hkp)
      exact ⟨fun hn => Stand.of_rel k4 (hp.trans k1) (hH' hn), ih _ r er k3 k4 (k5.trans hd) (hp.trans k1) hH' k6 hQ⟩
    simp only [sched] at hs
    split at hs
    · rename_i i hfind
      split at hs
      · rename_i m r em er
        simp at hs
        have hmem : i ∈ Region.ready .any ops listed := List.mem_of_find?_eq_some hfind
        have htk := List.find?_some hfind
        simp only [takeable, em, Bool.and_eq_true, Bool.or_eq_true] at htk
        obtain ⟨hfree, htk⟩ := htk
        obtain ⟨o, e1, e2⟩ := compL_get hm em
        have hoi : ops[i]? = some o := by simpa using e1
        -- 'ld' says whether it is taken as a load
        have main : ∀ ld : Bool, cond ld (isLd m.m) (pureM m.m) = true → (ld = true → noneOf (dirtyL mops) listed = true ∧ ∀ d ∈ dirtyL mops, waitsB ops d i = true) →
            stepO (cond ld (some H0.length) none) Γ m t H (fun t' H' => WS H0.length Γ r t' H' K) → wpAnyX P ops Q (Stand w0 ρ0 H0) (dirtyL mops) (fuel + 1) listed a w := by
          intro ld hld hw hst
          obtain ⟨v, t', k1, k2, k3⟩ := take_sound hE e2 hR0 hT hR hp hld (fun h => hc (hw h).1) hst
          have hids : i ∉ dirtyL mops := fun hmem => by
            have := (memD em).1 hmem
            cases hm' : m.m <;> rw [hm'] at this hld <;> cases ld <;> simp [keeps, isLd, pureM] at this hld
          refine wpAnyX_take (ld := ld) hoi (Region.noSelect_spec hsel) (fun c a w h => hQp c a w _ _ h) hids (fun h => (hw h).2) fuel listed a w (Region.free_spec hoi hfree) hmem (fun h => (hw h).1) k1
            (fun hn => Stand.of_rel hR hp (hc hn)) ?_
          exact ih _ r er k2 hR (by rw [put_defers]; exact hd) hp (fun hn => hc (by rw [noneOf_set hids] at hn; exact hn)) k3 hQ
        cases hpm : pureM m.m with
        | true =>
          rw [hpm] at hs
          simp only [cond_true] at hs
          subst hs
          exact main false hpm (fun h => by simp at h) hv
        | false =>
          rw [hpm] at hs htk
          simp only [cond_false] at hs
          subst hs
          simp at htk
          obtain ⟨⟨g1, g2⟩, g3⟩ := htk
          exact main true g1 (fun _ => ⟨g2, g3⟩) hv
      · simp at hs
    · split at hs
      · rename_i hr
        simp at hs; subst hs
        exact wpAnyX_done hr (hQ _ _ ⟨t, ρ, H, hp, hT, hR, hd, hv⟩) _
      · rename_i hr
        refine wpAnyX_all hr ?_
        have gen : ∀ (l : List Nat) (s : SchM), (∀ i ∈ l, i ∈ Region.ready .any ops listed) → alts mops (fun i => sched ops mops (dirtyL mops) fuel (listed.setIfInBounds i true)) l = some s → WS H0.length Γ s t H K →
            ∀ i ∈ l, wpOp P ops Q i (fun a' w' => (noneOf (dirtyL mops) (listed.setIfInBounds i true) = true → Stand w0 ρ0 H0 w') ∧ wpAnyX P ops Q (Stand w0 ρ0 H0) (dirtyL mops) fuel (listed.setIfInBounds i true) a' w') a w := by
          intro l
          induction l with
          | nil => intro s _ _ _ i hi; simp at hi
          | cons j l ihl =>
            intro s hl ha hv i hi
            cases l with
            | nil =>
              simp only [alts] at ha
              split at ha
              · rename_i m r em er
                simp at ha; subst ha
                have : i = j := by simpa using hi
                subst this
                exact one (hl i (by simp)) em er hv
              · simp at ha
            | cons j2 l2 =>
              simp only [alts] at ha
              split at ha
              · rename_i m r s' em er ha'
                simp at ha; subst ha
                obtain ⟨hv1, hv2⟩ := hv
                rcases List.mem_cons.1 hi with rfl | hi
                · exact one (hl i (by simp)) em er hv1
                · exact ihl s' (fun i hi => hl i (by simp [hi])) ha' hv2 i hi
              · simp at ha
        exact gen _ s (fun i hi => hi) hs hv
end Go.Proofs.Yticohnaagigmoaa.V
