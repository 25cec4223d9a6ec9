/-
  A second semantics of Go's operations. Part 4: the instructions that leave memory alone are sound.
-/
import Derived.Test.YtpfmnmcpffajeaaVc
set_option linter.unusedVariables false
set_option linter.unusedSimpArgs false
namespace Go.Proofs.Ytpfmnmcpffajeaa.V
open Go Go.RowKit

theorem cop_some {o : Operand} {f : MO → MI} {mi : MI} (h : (cop o).map f = some mi) : ∃ m, cop o = some m ∧ f m = mi := by
  cases e : cop o with
  | none => simp [e] at h
  | some m => simp [e] at h; exact ⟨m, rfl, h⟩

theorem beq_no {a b : Nat} (h : ¬ a = b) : a.beq b = false := by
  cases e : a.beq b with
  | false => rfl
  | true => exact absurd (Nat.eq_of_beq_eq_true e) h

theorem add_at (b o n : Nat) : Addr.add ⟨b, o, none⟩ n = ⟨b, o + n, none⟩ := by
  unfold Addr.add; split <;> simp_all

/-- Bounds of a slice expression. -/
theorem bnd_lo {P : Program} {ρ : List Loc} {t : List AV} {a : Act} (hT : TR ρ t a) {x : Option Operand} {m : Option MO} (hm : optM x = some m) {h : Nat} {K : Nat → Prop} {code : BoundsCode}
    (hv : bnd t m 0 h K) : ∃ l, l ≤ h ∧ K l ∧ ∀ w, (match x.map a.eval with | some v => Instr.sliceBound v h code | none => pure 0 : Sem Nat).run P w = .ok l w := by
  cases x with
  | none => simp [optM] at hm; subst hm; exact ⟨0, Nat.zero_le _, hv, fun w => rfl⟩
  | some x =>
    simp only [optM] at hm
    cases e : cop x with
    | none => simp [e] at hm
    | some mo =>
      simp [e] at hm; subst hm
      have hr := ev_sound hT e
      simp only [bnd] at hv
      split at hv
      · rename_i k n he
        rw [he] at hr
        simp only [asr_iff, Bool.and_eq_true, decide_eq_true_eq] at hv
        obtain ⟨⟨h0, h1⟩, hk⟩ := hv
        refine ⟨n.toNat, by omega, hk, fun w => ?_⟩
        simp only [Option.map_some]
        generalize a.eval x = vv at hr
        cases hr
        exact run_sliceBound (P := P) w k n h code h0 h1
      · exact hv.elim

theorem bnd_hi {P : Program} {ρ : List Loc} {t : List AV} {a : Act} (hT : TR ρ t a) {x : Option Operand} {m : Option MO} (hm : optM x = some m) {d top : Nat} {K : Nat → Prop} {code : BoundsCode}
    (hv : bnd t m d top K) : ∃ l, K l ∧ ∀ w, (match x.map a.eval with | some v => Instr.sliceBound v top code | none => pure d : Sem Nat).run P w = .ok l w := by
  cases x with
  | none => simp [optM] at hm; subst hm; exact ⟨d, hv, fun w => rfl⟩
  | some x =>
    simp only [optM] at hm
    cases e : cop x with
    | none => simp [e] at hm
    | some mo =>
      simp [e] at hm; subst hm
      have hr := ev_sound hT e
      simp only [bnd] at hv
      split at hv
      · rename_i k n he
        rw [he] at hr
        simp only [asr_iff, Bool.and_eq_true, decide_eq_true_eq] at hv
        obtain ⟨⟨h0, h1⟩, hk⟩ := hv
        refine ⟨n.toNat, hk, fun w => ?_⟩
        simp only [Option.map_some]
        generalize a.eval x = vv at hr
        cases hr
        exact run_sliceBound (P := P) w k n top code h0 h1
      · exact hv.elim

theorem optM_map {x : Option Operand} {m : Option MO} (h : optM x = some m) : (x = none ∧ m = none) ∨ ∃ y z, x = some y ∧ cop y = some z ∧ m = some z := by
  cases x with
  | none => simp [optM] at h; exact .inl ⟨rfl, h.symm⟩
  | some y =>
    simp only [optM] at h
    cases e : cop y with
    | none => simp [e] at h
    | some z => simp [e] at h; exact .inr ⟨y, z, rfl, e, h.symm⟩

/-- The three bounds without a third index. -/
theorem bounds2 {P : Program} {ρ : List Loc} {t : List AV} {a : Act} (hT : TR ρ t a) {lo hi : Option Operand} {l h : Option MO} (hl : optM lo = some l) (hh : optM hi = some h) (isS : Bool) {len cap : Nat}
    {K : Nat → Nat → Prop} (hv : bnd t h len cap fun h => bnd t l 0 h fun l => K h l) :
    ∃ x y, K x y ∧ ∀ w, (Instr.sliceBounds isS len cap (lo.map a.eval) (hi.map a.eval) none).run P w = .ok (y, x, cap) w := by
  obtain ⟨x, hk, h1⟩ := bnd_hi (P := P) (code := (if isS then BoundsCode.sliceAcap else BoundsCode.sliceAlen)) hT hh hv
  obtain ⟨y, _, hk, h2⟩ := bnd_lo (P := P) (code := .sliceB) hT hl hk
  refine ⟨x, y, hk, fun w => ?_⟩
  simp only [Instr.sliceBounds, Sem.run_bind, Sem.run_pure, Result.andThen_ok, Option.isSome_none, Bool.false_eq_true, if_false]
  have e1 := h1 w
  have e2 := h2 w
  cases hi <;> cases lo <;> simp_all

theorem bounds3 {P : Program} {ρ : List Loc} {t : List AV} {a : Act} (hT : TR ρ t a) {lo hi mx : Option Operand} {l : Option MO} {h m : MO} (hl : optM lo = some l) (hh : optM hi = some (some h)) (hm : optM mx = some (some m)) {len cap : Nat}
    {K : Nat → Nat → Nat → Prop} (hv : bnd t (some m) cap cap fun m => bnd t (some h) len m fun h => bnd t l 0 h fun l => K m h l) :
    ∃ z x y, K z x y ∧ ∀ w, (Instr.sliceBounds true len cap (lo.map a.eval) (hi.map a.eval) (mx.map a.eval)).run P w = .ok (y, x, z) w := by
  obtain ⟨z, hk, h0⟩ := bnd_hi (P := P) (code := .slice3Acap) hT hm hv
  obtain ⟨x, hk, h1⟩ := bnd_hi (P := P) (code := .slice3B) hT hh hk
  obtain ⟨y, _, hk, h2⟩ := bnd_lo (P := P) (code := .slice3C) hT hl hk
  refine ⟨z, x, y, hk, fun w => ?_⟩
  have e0 := h0 w
  have e1 := h1 w
  have e2 := h2 w
  rcases optM_map hm with ⟨_, h⟩ | ⟨mo, _, rfl, _, _⟩
  · simp at h
  rcases optM_map hh with ⟨_, h⟩ | ⟨ho, _, rfl, _, _⟩
  · simp at h
  simp only [Option.map_some] at e0 e1
  cases lo <;> simp_all [Instr.sliceBounds]

theorem slA_sound {P : Program} {ρ : List Loc} {t : List AV} {a : Act} (hT : TR ρ t a) {o : Oper} {ty e s n : Nat} {x : Operand} {m : MO} {lo hi : Option Operand} {l h : Option MO}
    (ho : o.op = .slice ty x lo hi none) (hu : P.underlying ty = some (.array n e)) (hs : szOf P e = some s) (hx : cop x = some m) (hl : optM lo = some l) (hh : optM hi = some h) {K : AV → Prop}
    (hv : pval (.slA n s m l h) t K) : Yv P o a ρ K := by
  have hr := ev_sound hT hx
  simp only [pval] at hv
  split at hv
  · rename_i id ix c he
    rw [he] at hr
    obtain ⟨hh', ll, hk, hb⟩ := bounds2 (P := P) (K := fun h l => K (.slc id ix (cond (n.beq l) c (c + l * s)) (h - l) (n - l))) hT hl hh false (len := n) (cap := n) hv
    cases hr' : a.eval x <;> rw [hr'] at hr <;> cases hr
    rename_i b o' e' hρ
    refine Yv.mk (v := .slice (some (if n = ll then ⟨b, o' + ix * e' + c, none⟩ else Addr.add ⟨b, o' + ix * e' + c, none⟩ (ll * s))) (hh' - ll) (n - ll)) (fun w => ?_) ?_ hk
    · simp [execOp, ho, Instr.sliceAt, run_underlying hu, hr', Instr.sureAddr, hb w, run_size hs]
    · by_cases hnl : n = ll
      · simp only [hnl, if_true]
        rw [show ll.beq ll = true from by simp]
        exact .slc hρ
      · simp only [if_neg hnl, add_at]
        rw [show n.beq ll = false from beq_no hnl]
        have := R.slc (ρ := ρ) (id := id) (ix := ix) (c := c + ll * s) (l := hh' - ll) (cap := n - ll) hρ
        simpa [Nat.add_assoc] using this
  · exact hv.elim

theorem bnd_top {t : List AV} {x : Option MO} {d top top' : Nat} {K : Nat → Prop} (h : bnd t x d top K) (hd : d ≤ top) (ht : top ≤ top') : bnd t x d top' fun n => n ≤ top ∧ K n := by
  unfold bnd at h ⊢
  split at h
  · exact ⟨hd, h⟩
  · split at h
    · simp only [asr_iff, Bool.and_eq_true, decide_eq_true_eq] at h ⊢
      obtain ⟨⟨h1, h2⟩, h3⟩ := h
      exact ⟨⟨h1, by omega⟩, by omega, h3⟩
    · exact h.elim

theorem slS_sound {P : Program} {ρ : List Loc} {t : List AV} {a : Act} (hT : TR ρ t a) {o : Oper} {ty e s : Nat} {x : Operand} {m : MO} {lo hi mx : Option Operand} {l h mm : Option MO}
    (ho : o.op = .slice ty x lo hi mx) (hu : P.underlying ty = some (.slice e)) (hs : szOf P e = some s) (hx : cop x = some m) (hl : optM lo = some l) (hh : optM hi = some h)
    (hm : optM mx = some mm) (hmh : mm = none ∨ ∃ z y, mm = some z ∧ h = some y) {K : AV → Prop}
    (hv : pval (.slS s m l h mm) t K) : Yv P o a ρ K := by
  have hr := ev_sound hT hx
  have key : ∀ (len cap : Nat) (K' : Nat → Nat → Nat → Prop), (bnd t mm cap cap fun m => bnd t h len m fun h => bnd t l 0 h fun l => K' m h l) →
      ∃ z x y, K' z x y ∧ ∀ w, (Instr.sliceBounds true len cap (lo.map a.eval) (hi.map a.eval) (mx.map a.eval)).run P w = .ok (y, x, z) w := by
    intro len cap K' hv
    rcases hmh with rfl | ⟨z, y, rfl, rfl⟩
    · rcases optM_map hm with ⟨rfl, _⟩ | ⟨_, _, _, _, h⟩
      · obtain ⟨x, y, h1, h2⟩ := bounds2 (P := P) (K := fun h l => K' cap h l) hT hl hh true hv
        exact ⟨cap, x, y, h1, h2⟩
      · simp at h
    · exact bounds3 (P := P) hT hl hh hm hv
  simp only [pval] at hv
  split at hv
  · rename_i id ix c len cap he
    rw [he] at hr
    obtain ⟨z, hh', ll, hk, hb⟩ := key len cap (fun m h l => K (.slc id ix (cond (m.beq l) c (c + l * s)) (h - l) (m - l))) hv
    cases hr' : a.eval x <;> rw [hr'] at hr <;> cases hr
    rename_i b o' e' hρ
    refine Yv.mk (v := .slice (if z = ll then some ⟨b, o' + ix * e' + c, none⟩ else (some (Addr.add ⟨b, o' + ix * e' + c, none⟩ (ll * s)))) (hh' - ll) (z - ll)) (fun w => ?_) ?_ hk
    · simp [execOp, ho, Instr.sliceAt, run_underlying hu, hr', Instr.slice, hb w, run_size hs]
    · by_cases hnl : z = ll
      · simp only [hnl, if_true]
        rw [show ll.beq ll = true from by simp]
        exact .slc hρ
      · simp only [if_neg hnl, add_at]
        rw [show z.beq ll = false from beq_no hnl]
        have := R.slc (ρ := ρ) (id := id) (ix := ix) (c := c + ll * s) (l := hh' - ll) (cap := z - ll) hρ
        simpa [Nat.add_assoc] using this
  · rename_i id ix e1 len cap he
    rw [he] at hr
    obtain ⟨z, hh', ll, hk, hb⟩ := key len cap (fun m h l => asr (e1.beq s) (K (.sls id (cond (m.beq l) ix (ix + l)) e1 (h - l) (m - l)))) hv
    simp only [asr_iff] at hk
    obtain ⟨hes, hk⟩ := hk
    have hes : e1 = s := by simpa using hes
    subst hes
    cases hr' : a.eval x <;> rw [hr'] at hr <;> cases hr
    rename_i b o' hρ
    refine Yv.mk (v := .slice (if z = ll then some ⟨b, o' + ix * e1, none⟩ else (some (Addr.add ⟨b, o' + ix * e1, none⟩ (ll * e1)))) (hh' - ll) (z - ll)) (fun w => ?_) ?_ hk
    · simp [execOp, ho, Instr.sliceAt, run_underlying hu, hr', Instr.slice, hb w, run_size hs]
    · by_cases hnl : z = ll
      · simp only [hnl, if_true]
        rw [show ll.beq ll = true from by simp]
        exact .sls hρ
      · simp only [if_neg hnl, add_at]
        rw [show z.beq ll = false from beq_no hnl]
        have := R.sls (ρ := ρ) (id := id) (ix := ix + ll) (l := hh' - ll) (cap := z - ll) hρ
        simpa [Nat.add_assoc, Nat.add_mul] using this
  · rename_i id len he
    rw [he] at hr
    split at hv
    rotate_left
    · exact hv.elim
    cases hr' : a.eval x <;> rw [hr'] at hr <;> cases hr
    rename_i cap b o' e' hρ hc hlc
    obtain ⟨z, hh', ll, hk, hb⟩ := key len cap (fun m h l => m = cap ∧ h ≤ len ∧ asr (l.beq 0) (K (.sla id h))) (by
      show bnd t h len cap fun h' => bnd t l 0 h' fun l' => cap = cap ∧ h' ≤ len ∧ asr (l'.beq 0) (K (.sla id h'))
      have := bnd_top hv (Nat.le_refl _) hlc
      have e2 : ∀ n, (n ≤ len ∧ bnd t l 0 n fun l => asr (l.beq 0) (K (.sla id n))) → bnd t l 0 n fun l => cap = cap ∧ n ≤ len ∧ asr (l.beq 0) (K (.sla id n)) := fun n ⟨q1, q2⟩ => by
        obtain ⟨r, g1, g2⟩ : ∃ r, (asr (Nat.beq r 0) (K (.sla id n))) ∧ ∀ K' : Nat → Prop, K' r → bnd t l 0 n K' := by
          unfold bnd at q2 ⊢
          split at q2
          · exact ⟨_, q2, fun K' hk => hk⟩
          · split at q2
            · rw [asr_iff] at q2
              exact ⟨_, q2.2, fun K' hk => by simp only [asr_iff]; exact ⟨q2.1, hk⟩⟩
            · exact q2.elim
        exact g2 _ ⟨rfl, q1, g1⟩
      cases h with
      | none => exact e2 _ this
      | some m2 =>
        simp only [V.bnd.eq_def t (some m2)] at this ⊢
        split at this
        · rw [asr_iff] at this ⊢
          exact ⟨this.1, by have q := e2 _ this.2; simp only at q; exact q⟩
        · exact this.elim)
    obtain ⟨rfl, hle, hk⟩ := hk
    rw [asr_iff] at hk
    obtain rfl := Nat.eq_of_beq_eq_true hk.1
    refine Yv.mk (v := .slice (some ⟨b, o', none⟩) hh' z) (fun w => ?_) (.sla hρ hc (Nat.le_trans hle hlc)) hk.2
    simp [execOp, ho, Instr.sliceAt, run_underlying hu, hr', Instr.slice, hb w, run_size hs, add_at]
  · rename_i he
    rw [he] at hr
    obtain ⟨z, hh', ll, hk, hb⟩ := key 0 0 (fun m h l => asr (m.beq 0 && h.beq 0 && l.beq 0) (K .nslc)) hv
    simp only [asr_iff, Bool.and_eq_true] at hk
    obtain ⟨⟨⟨q1, q2⟩, q3⟩, hk⟩ := hk
    obtain rfl := Nat.eq_of_beq_eq_true q1
    obtain rfl := Nat.eq_of_beq_eq_true q2
    obtain rfl := Nat.eq_of_beq_eq_true q3
    cases hr' : a.eval x <;> rw [hr'] at hr <;> cases hr
    refine Yv.mk (v := .slice none 0 0) (fun w => ?_) .nslc hk
    simp [execOp, ho, Instr.sliceAt, run_underlying hu, hr', Instr.slice, hb w, run_size hs]
  · exact hv.elim

theorem slStr_sound {P : Program} {ρ : List Loc} {t : List AV} {a : Act} (hT : TR ρ t a) {o : Oper} {ty : Nat} {x : Operand} {m : MO} {lo hi : Option Operand} {l h : Option MO}
    (ho : o.op = .slice ty x lo hi none) (hu : P.underlying ty = some .string) (hx : cop x = some m) (hl : optM lo = some l) (hh : optM hi = some h) {K : AV → Prop}
    (hv : pval (.slStr m l h) t K) : Yv P o a ρ K := by
  have hr := ev_sound hT hx
  simp only [pval] at hv
  split at hv
  · rename_i s he
    rw [he] at hr
    obtain ⟨hh', ll, hk, hb⟩ := bounds2 (P := P) (K := fun h l => K (.s (s.extract l h))) hT hl hh false (len := s.size) (cap := s.size) hv
    cases hr' : a.eval x <;> rw [hr'] at hr <;> cases hr
    refine Yv.mk (v := .string (s.extract ll hh')) (fun w => ?_) (.s _) hk
    simp [execOp, ho, Instr.sliceAt, run_underlying hu, hr', Instr.slice, hb w]
  · exact hv.elim

theorem field_sound {P : Program} {ρ : List Loc} {t : List AV} {a : Act} (hT : TR ρ t a) {x : Operand} {m : MO} {ty off : Nat} {mi : MI} (hx : cop x = some m) (hm : fldM P ty off m = some mi) {K : AV → Prop}
    (hv : pval mi t K) : ∃ v av, (∀ w, (do part ty (← asAgg (a.eval x)) off : Sem Value).run P w = .ok v w) ∧ R ρ av v ∧ K av := by
  have hr := ev_sound hT hx
  simp only [fldM] at hm
  split at hm
  · rename_i d n hd hn
    simp at hm
    subst hm
    cases hagg : aggD d with
    | true =>
      simp only [hagg, cond_true, pval] at hv
      split at hv
      · rename_i cs he
        rw [he] at hr
        cases hr' : a.eval x <;> rw [hr'] at hr <;> cases hr
        rename_i vs hRL
        refine Yb.mk hv (R.agg ((hRL.drop off).take n)) fun w => ?_
        simp only [Sem.run_bind, asAgg, Sem.run_pure, Result.andThen_ok, run_part hd hn, hagg, if_true]
        congr 2
        apply Array.ext'
        simp [List.extract_eq_take_drop]
      · exact hv.elim
    | false =>
      simp only [hagg, cond_false, pval] at hv
      split at hv
      · rename_i cs he
        split at hv
        · rename_i x' hx'
          rw [he] at hr
          cases hr' : a.eval x <;> rw [hr'] at hr <;> cases hr
          rename_i vs hRL
          obtain ⟨v, h1, h2⟩ := hRL.get hx'
          refine Yb.mk hv h2 fun w => ?_
          simp [asAgg, run_part hd hn, hagg, h1]
        · exact hv.elim
      · exact hv.elim
  · simp at hm

theorem mnmx_sound {P : Program} {ρ : List Loc} {isMax : Bool} {K : AV → Prop} : ∀ {as : List AV} {vs : List Value} {x : AV} {v : Value}, RL ρ as vs → R ρ x v → mnmxV isMax x as K →
    ∃ u au, (∀ w, (vs.foldlM (if isMax then Builtin.max2 else Builtin.min2) v : Sem Value).run P w = .ok u w) ∧ R ρ au u ∧ K au
  | [], [], x, v, _, hx, hv => by
    cases x <;> exact ⟨_, _, fun w => rfl, hx, by simpa [mnmxV] using hv⟩
  | b :: as, u :: vs, x, v, h, hx, hv => by
    cases h with | cons hb ht =>
    unfold mnmxV at hv
    split at hv
    · rename_i e; cases e
    case h_3 => exact hv.elim
    rename_i k n k' n' l e
    cases e
    cases hx
    cases hb
    obtain ⟨u, au, h1, h2, h3⟩ := mnmx_sound (P := P) ht (.i k _) hv
    refine ⟨u, au, fun w => ?_, h2, h3⟩
    have e := h1 w
    cases isMax
    · simpa [List.foldlM, Builtin.min2, imin] using e
    · simpa [List.foldlM, Builtin.max2, imax] using e
  | [], _ :: _, _, _, h, _, _ => nomatch h
  | _ :: _, [], _, _, h, _, _ => nomatch h

/-! ### Struct and array literals -/
theorem RL.splice {ρ : List Loc} {as bs : List AV} {vs us : List Value} (h : RL ρ as vs) (k : RL ρ bs us) (c : Nat) : RL ρ (splice as c bs) (vs.take c ++ us ++ vs.drop (c + us.length)) := by
  unfold V.splice
  rw [k.length]
  exact ((h.take c).append k).append (h.drop _)

theorem foldl_set (l : List Value) : ∀ (cs : Array Value) (off : Nat), off + l.length ≤ cs.size →
    ((l.zipIdx.foldl (fun cs (p : Value × Nat) => cs.setIfInBounds (off + p.2) p.1) cs).toList) = cs.toList.take off ++ l ++ cs.toList.drop (off + l.length) := by
  have gen : ∀ (l : List Value) (k : Nat) (cs : Array Value) (off : Nat), off + k + l.length ≤ cs.size →
      ((l.zipIdx k).foldl (fun cs (p : Value × Nat) => cs.setIfInBounds (off + p.2) p.1) cs).toList = cs.toList.take (off + k) ++ l ++ cs.toList.drop (off + k + l.length) := by
    intro l
    induction l with
    | nil => intro k cs off _; simp
    | cons v l ih =>
      intro k cs off hle
      simp only [List.length_cons] at hle
      simp only [List.zipIdx_cons, List.foldl_cons]
      rw [ih (k + 1) _ off (by simp; omega)]
      simp only [Array.toList_setIfInBounds]
      apply List.ext_getElem?
      intro i
      simp only [List.getElem?_append, List.getElem?_take, List.length_take, List.length_set, List.getElem?_set, List.getElem?_drop, List.length_append, List.length_cons, Array.length_toList]
      rcases Nat.lt_trichotomy i (off + k) with h | h | h
      · simp only [show i < min (off + (k + 1)) cs.size + l.length from by omega, show i < min (off + (k + 1)) cs.size from by omega, if_true, show i < off + (k + 1) from by omega,
          show i < min (off + k) cs.size + (l.length + 1) from by omega, show i < min (off + k) cs.size from by omega, show i < off + k from h, show ¬ off + k = i from by omega, if_false]
      · subst h
        simp only [show off + k < min (off + (k + 1)) cs.size + l.length from by omega, show off + k < min (off + (k + 1)) cs.size from by omega, if_true, show off + k < off + (k + 1) from by omega,
          show off + k < min (off + k) cs.size + (l.length + 1) from by omega, show ¬ off + k < min (off + k) cs.size from by omega, if_false, show off + k < cs.size from by omega]
        rw [show off + k - min (off + k) cs.size = 0 from by omega]
        rfl
      · by_cases h2 : i < off + k + 1 + l.length
        · simp only [show i < min (off + (k + 1)) cs.size + l.length from by omega, show ¬ i < min (off + (k + 1)) cs.size from by omega, if_true, if_false,
            show i < min (off + k) cs.size + (l.length + 1) from by omega, show ¬ i < min (off + k) cs.size from by omega]
          rw [show i - min (off + k) cs.size = (i - min (off + (k + 1)) cs.size) + 1 from by omega, List.getElem?_cons_succ]
        · simp only [show ¬ i < min (off + (k + 1)) cs.size + l.length from by omega, if_false, show ¬ i < min (off + k) cs.size + (l.length + 1) from by omega]
          rw [if_neg (by omega)]
          congr 1
          omega
  intro cs off hle
  have := gen l 0 cs off (by simpa using hle)
  simpa using this

theorem fill_sound {ρ : List Loc} {place : Nat → Option (Nat × Nat)} {t : List AV} {a : Act} (hT : TR ρ t a) : ∀ {l : List (Nat × Operand)} {ps : List (Nat × Nat × MO)}, partsM place l = some ps →
    ∀ {cells : List AV} {cs : Array Value} {out : List AV}, RL ρ cells cs.toList → fillA cells (ps.map (evp t)) = some out →
    ∃ r, Instr.fill place cs (l.map fun (p : Nat × Operand) => (p.1, a.eval p.2)) = some r ∧ RL ρ out r.toList
  | [], ps, hp, cells, cs, out, hR, hf => by
    simp [partsM] at hp; subst hp
    simp [fillA] at hf; subst hf
    exact ⟨cs, rfl, hR⟩
  | (i, x) :: l, ps, hp, cells, cs, out, hR, hf => by
    simp only [partsM] at hp
    split at hp
    · rename_i o s m r h1 h2 h3
      simp at hp; subst hp
      simp only [List.map_cons, evp, fillA] at hf
      cases hc : ((cellsA (ev t m)).length.beq s && Nat.ble (o + s) cells.length) with
      | false => rw [hc] at hf; simp at hf
      | true =>
        rw [hc] at hf
        simp only [cond_true] at hf
        simp only [Bool.and_eq_true] at hc
        have hx := (ev_sound hT h2).cells
        have hlen := Nat.eq_of_beq_eq_true hc.1
        have hle := Nat.le_of_ble_eq_true hc.2
        have e1 := hx.length
        have e2 := hR.length
        simp at e1 e2
        have hsz : (a.eval x).cells.size = s := by omega
        have hgo := fill_sound (place := place) hT h3 (cells := splice cells o (cellsA (ev t m)))
          (cs := ((a.eval x).cells.toList.zipIdx.foldl (fun cs (p : Value × Nat) => cs.setIfInBounds (o + p.2) p.1) cs)) (out := out) (by
            rw [foldl_set _ _ _ (by simp; omega)]
            exact RL.splice hR hx o) hf
        obtain ⟨r', k1, k2⟩ := hgo
        refine ⟨r', ?_, k2⟩
        have hcond : ¬ ((a.eval x).cells.size ≠ s ∨ o + (a.eval x).cells.size > cs.size) := by
          rintro (h | h)
          · exact h hsz
          · omega
        simp only [List.map_cons, Instr.fill, h1]
        rw [if_neg (by simpa using hcond)]
        rw [← k1]
        congr 1
        rw [← Array.foldl_toList, Array.toList_zipIdx]
    · simp at hp

theorem run_places {P : Program} (fields : Array Field) (h : ∀ f ∈ fields.toList, ∃ n, szOf P f.type = some n) (w : World) :
    ∃ ps : Array (Nat × Nat), (fields.mapM fun f => do pure (f.offset, ← sizeOf f.type) : Sem (Array (Nat × Nat))).run P w = .ok ps w ∧ ∀ i : Nat, ps[i]? = (fields[i]?).map fun f => (f.offset, (szOf P f.type).getD 0) := by
  have gen : ∀ l : List Field, (∀ f ∈ l, ∃ n, szOf P f.type = some n) → ∃ ps : List (Nat × Nat), (l.mapM fun f => do pure (f.offset, ← sizeOf f.type) : Sem (List (Nat × Nat))).run P w = .ok ps w ∧ ps = l.map fun f => (f.offset, (szOf P f.type).getD 0) := by
    intro l
    induction l with
    | nil => intro _; exact ⟨[], rfl, rfl⟩
    | cons f l ih =>
      intro h
      obtain ⟨n, hn⟩ := h f (by simp)
      obtain ⟨ps, h1, h2⟩ := ih (fun g hg => h g (by simp [hg]))
      refine ⟨(f.offset, n) :: ps, ?_, by simp [hn, h2]⟩
      simp only [List.mapM_cons, Sem.run_bind, run_size hn, Result.andThen_ok, Sem.run_pure, h1]
  obtain ⟨ps, h1, h2⟩ := gen fields.toList h
  refine ⟨ps.toArray, ?_, fun i => by simp [h2]⟩
  rw [Array.mapM_eq_mapM_toList, Sem.run_map, h1]
  rfl

theorem build_sound {P : Program} {ρ : List Loc} {t : List AV} {a : Act} (hT : TR ρ t a) {o : Oper} {ty : Nat} {parts : Array (Nat × Operand)} {ps : List (Nat × Nat × MO)} {zs : List AV} {place : Nat → Option (Nat × Nat)}
    (ho : o.op = .build ty parts) (hz : zeroOf P ty = some zs) (hp : partsM place parts.toList = some ps) {K : AV → Prop}
    (hb : ∀ (cs : Array Value) (vs : List (Nat × Value)) (r : Array Value), Instr.fill place cs vs = some r → ∀ z : Value, (P.info? ty).bind (·.zero) = some z → z.cells = cs → ∀ w, (Instr.build ty vs.toArray).run P w = .ok (.agg r) w)
    (hv : pval (.build zs ps) t K) : Yv P o a ρ K := by
  simp only [pval] at hv
  split at hv
  · rename_i out hf
    unfold zeroOf at hz
    split at hz
    · rename_i z hz0
      obtain ⟨r, h1, h2⟩ := fill_sound hT hp (cavs_sound (ρ := ρ) hz) hf
      refine Yv.mk (v := .agg r) (fun w => ?_) (by simpa using R.agg h2) hv
      have := hb _ _ _ h1 z hz0 rfl w
      simp only [execOp, ho, Sem.run_bind]
      rw [show (parts.map fun (x : Nat × Operand) => (x.1, a.eval x.2)) = (parts.toList.map fun (p : Nat × Operand) => (p.1, a.eval p.2)).toArray from by apply Array.ext'; simp, this]
      rfl
    · simp at hz
  · exact hv.elim
end Go.Proofs.Ytpfmnmcpffajeaa.V
