/-
  A second semantics of Go's operations. Part 5: 'compP' is sound.
-/
import Derived.Test.YtpfmnmcpffajeaaVd
set_option linter.unusedVariables false
set_option linter.unusedSimpArgs false
namespace Go.Proofs.Ytpfmnmcpffajeaa.V
open Go Go.RowKit

theorem map_some {α β : Type} {x : Option α} {f : α → β} {b : β} (h : x.map f = some b) : ∃ a, x = some a ∧ f a = b := by
  cases x with
  | none => simp at h
  | some a => exact ⟨a, rfl, by simpa using h⟩

theorem equalIn_bool {P : Program} {ty : Nat} {p q : Bool} (hu : P.underlying ty = some .bool) (d : Nat) (w : World) : (Op.equalIn (d + 1) ty (.bool p) (.bool q)).run P w = .ok (p == q) w := by
  simp only [Op.equalIn, Sem.run_bind, run_underlying hu, Result.andThen_ok]
  rfl

theorem beq_sound {P : Program} {ρ : List Loc} {t : List AV} {a : Act} (hT : TR ρ t a) {o : Oper} {op : BinOp} {ty ty' : Nat} {x y : Operand} {mx my : MO} {neg : Bool} (ho : o.op = .binOp op ty x y ty')
    (hop : op = cond neg .neq .eql) (hu : P.underlying ty = some .bool) (hx : cop x = some mx) (hy : cop y = some my) {K : AV → Prop} (hv : pval (.beq neg mx my) t K) : Yv P o a ρ K := by
  have r1 := ev_sound hT hx
  have r2 := ev_sound hT hy
  simp only [pval] at hv
  split at hv
  · rename_i p q e1 e2
    rw [e1] at r1
    rw [e2] at r2
    cases h1 : a.eval x <;> rw [h1] at r1 <;> cases r1
    cases h2 : a.eval y <;> rw [h2] at r2 <;> cases r2
    refine Yv.mk (v := .bool (cond neg (!(p == q)) (p == q))) (fun w => ?_) (.b _) hv
    subst hop
    have heq : ∀ w, (Op.equal ty (.bool p) (.bool q)).run P w = .ok (p == q) w := fun w => equalIn_bool hu 9999 w
    cases neg
    · simp [execOp, ho, h1, h2, eqGuard_at_bool, binOp, heq w]
    · simp [execOp, ho, h1, h2, eqGuard_at_bool, binOp, heq w]
  · exact hv.elim

theorem equalIn_nil1 {P : Program} {ty e : Nat} (hu : P.underlying ty = some (.slice e)) (d : Nat) (w : World) : (Op.equalIn (d + 1) ty (.slice none 0 0) (.slice none 0 0)).run P w = .ok true w := by
  simp only [Op.equalIn, Sem.run_bind, run_underlying hu, Result.andThen_ok]
  rfl
theorem equalIn_nil2 {P : Program} {ty e : Nat} (hu : P.underlying ty = some (.slice e)) (d : Nat) (b : Addr) (l c : Nat) (w : World) : (Op.equalIn (d + 1) ty (.slice (some b) l c) (.slice none 0 0)).run P w = .ok false w := by
  simp only [Op.equalIn, Sem.run_bind, run_underlying hu, Result.andThen_ok]
  rfl

theorem snil_sound {P : Program} {ρ : List Loc} {t : List AV} {a : Act} (hT : TR ρ t a) {o : Oper} {op : BinOp} {ty ty' e : Nat} {x y : Operand} {mx : MO} {neg : Bool} (ho : o.op = .binOp op ty x y ty')
    (hop : op = cond neg .neq .eql) (hu : P.underlying ty = some (.slice e)) (hx : cop x = some mx) (hy : cop y = some (.c .nslc)) {K : AV → Prop} (hv : pval (.snil neg mx) t K) : Yv P o a ρ K := by
  have r1 := ev_sound hT hx
  have r2 := ev_sound hT hy
  simp only [ev] at r2
  have h2 : a.eval y = .slice none 0 0 := by cases hq : a.eval y <;> rw [hq] at r2 <;> cases r2; rfl
  have heq1 : ∀ w, (Op.equal ty (.slice none 0 0) (.slice none 0 0)).run P w = .ok true w := fun w => equalIn_nil1 hu 9999 w
  have heq2 : ∀ b l c w, (Op.equal ty (.slice (some b) l c) (.slice none 0 0)).run P w = .ok false w := fun b l c w => equalIn_nil2 hu 9999 b l c w
  have hno : ∀ {b : Addr} {l c : Nat}, a.eval x = .slice (some b) l c → K (.b neg) → Yv P o a ρ K := fun {b l c} h1 hk => by
    refine Yv.mk (v := .bool neg) (fun w => ?_) (.b _) hk
    subst hop
    cases neg
    · simp [execOp, ho, h1, h2, eqGuard, binOp, heq2 b l c w]
    · simp [execOp, ho, h1, h2, eqGuard, binOp, heq2 b l c w]
  simp only [pval] at hv
  split at hv
  · rename_i e1
    rw [e1] at r1
    have h1 : a.eval x = .slice none 0 0 := by cases hq : a.eval x <;> rw [hq] at r1 <;> cases r1; rfl
    refine Yv.mk (v := .bool (cond neg false true)) (fun w => ?_) (.b _) hv
    subst hop
    cases neg
    · simp [execOp, ho, h1, h2, eqGuard, binOp, heq1 w]
    · simp [execOp, ho, h1, h2, eqGuard, binOp, heq1 w]
  · rename_i e1
    rw [e1] at r1
    cases hq : a.eval x <;> rw [hq] at r1 <;> cases r1
    exact hno hq hv
  · rename_i e1
    rw [e1] at r1
    cases hq : a.eval x <;> rw [hq] at r1 <;> cases r1
    exact hno hq hv
  · rename_i e1
    rw [e1] at r1
    cases hq : a.eval x <;> rw [hq] at r1 <;> cases r1
    exact hno hq hv
  · exact hv.elim

theorem eqa_sound {P : Program} {ρ : List Loc} {t : List AV} {a : Act} (hT : TR ρ t a) {o : Oper} {op : BinOp} {ty ty' : Nat} {x y : Operand} {mx my : MO} {neg : Bool} {ks : List SK} (ho : o.op = .binOp op ty x y ty')
    (hop : op = cond neg .neq .eql) (hE : EqOK P ty ks) (hx : cop x = some mx) (hy : cop y = some my) {K : AV → Prop} (hv : pval (.eqa neg ks mx my) t K) : Yv P o a ρ K := by
  have r1 := ev_sound hT hx
  have r2 := ev_sound hT hy
  simp only [pval] at hv
  split at hv
  · rename_i p q e1 e2
    rw [e1] at r1
    rw [e2] at r2
    split at hv
    · rename_i r hr
      cases h1 : a.eval x <;> rw [h1] at r1 <;> cases r1
      rename_i vs hvs
      cases h2 : a.eval y <;> rw [h2] at r2 <;> cases r2
      rename_i us hus
      refine Yv.mk (v := .bool (cond neg (!r) r)) (fun w => ?_) (.b _) hv
      subst hop
      have heq := hE.2 ρ p q vs us r hvs hus hr
      have hg : ∀ w, (eqGuard (cond neg .neq .eql) ty x y (.agg vs.toArray) (.agg us.toArray)).run P w = .ok () w := fun w => by
        cases neg <;> simp [eqGuard, hE.1] <;> rfl
      cases neg
      · simp only [cond_false] at hg
        simp [execOp, ho, h1, h2, hg w, binOp, heq w]
      · simp only [cond_true] at hg
        simp [execOp, ho, h1, h2, hg w, binOp, heq w]
    · exact hv.elim
  · exact hv.elim

theorem build_struct {P : Program} {ty : Nat} {fields : Array Field} (hu : P.underlying ty = some (.struct fields)) (hall : (fields.toList.all fun f => (szOf P f.type).isSome) = true)
    (cs : Array Value) (vs : List (Nat × Value)) (r : Array Value) (hf : Instr.fill (fun i => (fields[i]?).map fun f => (f.offset, (szOf P f.type).getD 0)) cs vs = some r) (z : Value) (hz : (P.info? ty).bind (·.zero) = some z) (hc : z.cells = cs) (w : World) :
    (Instr.build ty vs.toArray).run P w = .ok (.agg r) w := by
  obtain ⟨ps, h1, h2⟩ := run_places (P := P) fields (fun f hf => by
    have := List.all_eq_true.1 hall f hf
    exact Option.isSome_iff_exists.1 this) w
  have hpl : (fun i : Nat => ps[i]?) = (fun i => (fields[i]?).map fun f => (f.offset, (szOf P f.type).getD 0)) := funext h2
  subst hc
  simp only [Instr.build, Sem.run_bind, run_zero hz, Result.andThen_ok, run_underlying hu, h1, List.toList_toArray, hpl, hf]
  rfl

theorem build_array {P : Program} {ty e n s : Nat} (hu : P.underlying ty = some (.array n e)) (hs : szOf P e = some s)
    (cs : Array Value) (vs : List (Nat × Value)) (r : Array Value) (hf : Instr.fill (fun i => some (i * s, s)) cs vs = some r) (z : Value) (hz : (P.info? ty).bind (·.zero) = some z) (hc : z.cells = cs) (w : World) :
    (Instr.build ty vs.toArray).run P w = .ok (.agg r) w := by
  subst hc
  simp only [Instr.build, Sem.run_bind, run_zero hz, Result.andThen_ok, run_underlying hu, run_size hs, List.toList_toArray, hf]
  rfl

theorem addr_sound {P : Program} {ρ : List Loc} {t : List AV} {a : Act} (hT : TR ρ t a) {o : Oper} {ty i n : Nat} {x : Operand} {m : MO} {fields : Array Field} {f : Field}
    (ho : o.op = .fieldAddr ty x i) (hu : P.underlying ty = some (.struct fields)) (hf : fields[i]? = some f) (hs : szOf P f.type = some (n + 1)) (hx : cop x = some m) {K : AV → Prop}
    (hv : pval (.faddr f.offset m) t K) : Yv P o a ρ K := by
  have hr := ev_sound hT hx
  simp only [pval] at hv
  split at hv
  · rename_i id ix c he
    rw [he] at hr
    cases hr' : a.eval x <;> rw [hr'] at hr <;> cases hr
    rename_i b o' e' hρ
    refine Yv.mk (v := .pointer (some (Addr.add ⟨b, o' + ix * e' + c, none⟩ f.offset))) (fun w => ?_) ?_ hv
    · simp [execOp, ho, Instr.fieldAt, run_underlying hu, hf, hr', Instr.sureAddr, fieldPlace, run_size hs]
    · rw [add_at]
      have := R.ptr (ρ := ρ) (id := id) (ix := ix) (c := c + f.offset) hρ
      simpa [Nat.add_assoc] using this
  · exact hv.elim

theorem iaddrA_sound {P : Program} {ρ : List Loc} {t : List AV} {a : Act} (hT : TR ρ t a) {o : Oper} {ty e n s : Nat} {x i : Operand} {m mi : MO}
    (ho : o.op = .indexAddr ty x i) (hu : P.underlying ty = some (.array n e)) (hs : szOf P e = some s) (hx : cop x = some m) (hi : cop i = some mi) {K : AV → Prop}
    (hv : pval (.iaddrA n s m mi) t K) : Yv P o a ρ K := by
  have r1 := ev_sound hT hx
  have r2 := ev_sound hT hi
  simp only [pval] at hv
  split at hv
  · rename_i id ix c k j e1 e2
    rw [e1] at r1
    rw [e2] at r2
    simp only [asr_iff, Bool.and_eq_true, decide_eq_true_eq] at hv
    obtain ⟨⟨h0, h1⟩, hk⟩ := hv
    cases hr1 : a.eval x <;> rw [hr1] at r1 <;> cases r1
    rename_i b o' e' hρ
    cases hr2 : a.eval i <;> rw [hr2] at r2 <;> cases r2
    refine Yv.mk (v := .pointer (some (Addr.add ⟨b, o' + ix * e' + c, none⟩ (j.toNat * s)))) (fun w => ?_) ?_ hk
    · simp [execOp, ho, Instr.indexAt, asIntOf, run_underlying hu, hr1, hr2, Instr.sureAddr, run_size hs, h0, h1]
    · rw [add_at]
      have := R.ptr (ρ := ρ) (id := id) (ix := ix) (c := c + j.toNat * s) hρ
      simpa [Nat.add_assoc] using this
  · exact hv.elim

theorem iaddrS_sound {P : Program} {ρ : List Loc} {t : List AV} {a : Act} (hT : TR ρ t a) {o : Oper} {ty e s : Nat} {x i : Operand} {m mi : MO}
    (ho : o.op = .indexAddr ty x i) (hu : P.underlying ty = some (.slice e)) (hs : szOf P e = some s) (hx : cop x = some m) (hi : cop i = some mi) {K : AV → Prop}
    (hv : pval (.iaddrS s m mi) t K) : Yv P o a ρ K := by
  have r1 := ev_sound hT hx
  have r2 := ev_sound hT hi
  simp only [pval] at hv
  split at hv
  · rename_i id ix c l cap k j e1 e2
    rw [e1] at r1
    rw [e2] at r2
    simp only [asr_iff, Bool.and_eq_true, decide_eq_true_eq] at hv
    obtain ⟨⟨h0, h1⟩, hk⟩ := hv
    cases hr1 : a.eval x <;> rw [hr1] at r1 <;> cases r1
    rename_i b o' e' hρ
    cases hr2 : a.eval i <;> rw [hr2] at r2 <;> cases r2
    refine Yv.mk (v := .pointer (some (Addr.add ⟨b, o' + ix * e' + c, none⟩ (j.toNat * s)))) (fun w => ?_) ?_ hk
    · simp [execOp, ho, Instr.indexAt, asIntOf, run_underlying hu, hr1, hr2, Instr.sureAddr, run_size hs, h0, h1]
    · rw [add_at]
      have := R.ptr (ρ := ρ) (id := id) (ix := ix) (c := c + j.toNat * s) hρ
      simpa [Nat.add_assoc] using this
  · rename_i id ix e1 l cap k j he1 he2
    rw [he1] at r1
    rw [he2] at r2
    simp only [asr_iff, Bool.and_eq_true, decide_eq_true_eq] at hv
    obtain ⟨⟨h0, h1⟩, hes, hk⟩ := hv
    obtain rfl := Nat.eq_of_beq_eq_true hes
    cases hr1 : a.eval x <;> rw [hr1] at r1 <;> cases r1
    rename_i b o' hρ
    cases hr2 : a.eval i <;> rw [hr2] at r2 <;> cases r2
    refine Yv.mk (v := .pointer (some (Addr.add ⟨b, o' + ix * e1, none⟩ (j.toNat * e1)))) (fun w => ?_) ?_ hk
    · simp [execOp, ho, Instr.indexAt, asIntOf, run_underlying hu, hr1, hr2, Instr.sureAddr, run_size hs, h0, h1]
    · rw [add_at]
      have := R.ptr (ρ := ρ) (id := id) (ix := ix + j.toNat) (c := 0) hρ
      simpa [Nat.add_assoc, Nat.add_mul] using this
  · rename_i id l k j he1 he2
    rw [he1] at r1
    rw [he2] at r2
    simp only [asr_iff, Bool.and_eq_true, decide_eq_true_eq] at hv
    obtain ⟨⟨h0, h1⟩, hk⟩ := hv
    cases hr1 : a.eval x <;> rw [hr1] at r1 <;> cases r1
    rename_i C b o' e' hρ hC hlC
    cases hr2 : a.eval i <;> rw [hr2] at r2 <;> cases r2
    refine Yv.mk (v := .pointer (some (Addr.add ⟨b, o', none⟩ (j.toNat * s)))) (fun w => ?_) ?_ hk
    · simp [execOp, ho, Instr.indexAt, asIntOf, run_underlying hu, hr1, hr2, Instr.sureAddr, run_size hs, h0, h1]
    · rw [add_at]
      have := R.ptr (ρ := ρ) (id := id) (ix := 0) (c := j.toNat * s) hρ
      simpa using this
  · exact hv.elim

theorem idx_sound {P : Program} {ρ : List Loc} {t : List AV} {a : Act} (hT : TR ρ t a) {o : Oper} {ty e n s : Nat} {d : TypeDesc} {x i : Operand} {m mi : MO} {mm : MI}
    (ho : o.op = .index ty x i) (hu : P.underlying ty = some (.array n e)) (hd : P.underlying e = some d) (hs : szOf P e = some s) (hx : cop x = some m) (hi : cop i = some mi) {K : AV → Prop}
    (hm : cond (aggD d) (some (MI.idxn n s m mi)) (cond (s.beq 1) (some (.idx n m mi)) none) = some mm) (hv : pval mm t K) : Yv P o a ρ K := by
  have r1 := ev_sound hT hx
  have r2 := ev_sound hT hi
  cases hagg : aggD d with
  | true =>
    simp only [hagg, cond_true, Option.some.injEq] at hm
    subst hm
    simp only [pval] at hv
    split at hv
    · rename_i cs k j e1 e2
      rw [e1] at r1
      rw [e2] at r2
      simp only [asr_iff, Bool.and_eq_true, decide_eq_true_eq] at hv
      obtain ⟨⟨h0, h1⟩, hk⟩ := hv
      cases hr1 : a.eval x <;> rw [hr1] at r1 <;> cases r1
      rename_i vs hvs
      cases hr2 : a.eval i <;> rw [hr2] at r2 <;> cases r2
      refine Yv.mk (v := .agg ((vs.drop (j.toNat * s)).take s).toArray) (fun w => ?_) (.agg ((hvs.drop _).take _)) hk
      simp only [execOp, ho, hr1, hr2, Instr.index, asIntOf, Sem.run_bind, Sem.run_pure, Result.andThen_ok, run_underlying hu, h0, h1, and_self, if_true, run_size hs, run_part hd hs, hagg]
      congr 3
      apply Array.ext'
      simp [List.extract_eq_take_drop]
    · exact hv.elim
  | false =>
    simp only [hagg, cond_false] at hm
    cases hs1 : s.beq 1 with
    | false => simp [hs1] at hm
    | true =>
      obtain rfl := Nat.eq_of_beq_eq_true hs1
      simp only [hs1, cond_true, Option.some.injEq] at hm
      subst hm
      simp only [pval] at hv
      split at hv
      · rename_i cs k j e1 e2
        rw [e1] at r1
        rw [e2] at r2
        simp only [asr_iff, Bool.and_eq_true, decide_eq_true_eq] at hv
        obtain ⟨⟨h0, h1⟩, hk⟩ := hv
        split at hk
        · rename_i av hav
          cases hr1 : a.eval x <;> rw [hr1] at r1 <;> cases r1
          rename_i vs hvs
          cases hr2 : a.eval i <;> rw [hr2] at r2 <;> cases r2
          obtain ⟨v, k1, k2⟩ := hvs.get hav
          refine Yv.mk (v := v) (fun w => ?_) k2 hk
          simp [execOp, ho, hr1, hr2, Instr.index, asIntOf, run_underlying hu, h0, h1, run_size hs, run_part hd hs, hagg, k1]
        · exact hk.elim
      · exact hv.elim

theorem sidx_sound {P : Program} {ρ : List Loc} {t : List AV} {a : Act} (hT : TR ρ t a) {o : Oper} {ty : Nat} {x i : Operand} {m mi : MO}
    (ho : o.op = .index ty x i) (hu : P.underlying ty = some .string) (hx : cop x = some m) (hi : cop i = some mi) {K : AV → Prop} (hv : pval (.sidx m mi) t K) : Yv P o a ρ K := by
  have r1 := ev_sound hT hx
  have r2 := ev_sound hT hi
  simp only [pval] at hv
  split at hv
  · rename_i s k j e1 e2
    rw [e1] at r1
    rw [e2] at r2
    simp only [asr_iff, Bool.and_eq_true, decide_eq_true_eq] at hv
    obtain ⟨⟨h0, h1⟩, hk⟩ := hv
    cases hr1 : a.eval x <;> rw [hr1] at r1 <;> cases r1
    cases hr2 : a.eval i <;> rw [hr2] at r2 <;> cases r2
    refine Yv.mk (v := .int .u8 (byteAt s j.toNat)) (fun w => ?_) (.i _ _) hk
    have hj : j.toNat < s.size := by omega
    have hg : s[j.toNat]? = some s[j.toNat] := by simp [hj]
    have hb : ((s[j.toNat]).toNat : Int) = byteAt s j.toNat := by
      unfold byteAt
      have : s.data.toList.getD j.toNat 0 = s[j.toNat] := by
        rw [List.getD_eq_getElem?_getD, List.getElem?_eq_getElem (by simpa using hj)]
        rfl
      rw [this]
    simp only [execOp, ho, hr1, hr2, Instr.index, asIntOf, Sem.run_bind, Sem.run_pure, Result.andThen_ok, run_underlying hu, h0, if_true, hg, hb]
  · exact hv.elim

theorem pure_sound {P : Program} {eqs : TypeId → Option (List SK)} {o : Oper} {mi : MI} {t : List AV} {a : Act} {ρ : List Loc} {K : AV → Prop} (hE : ∀ ty ks, eqs ty = some ks → EqOK P ty ks)
    (hc : compP P eqs o = some mi) (hT : TR ρ t a) (hv : pval mi t K) : Yv P o a ρ K := by
  unfold compP at hc
  split at hc
  case h_1 x ho =>
    obtain ⟨m, h1, rfl⟩ := map_some hc
    exact Yv.mk (fun w => by simp [execOp, ho]) (ev_sound hT h1) hv
  case h_2 x ho =>
    obtain ⟨m, h1, rfl⟩ := map_some hc
    exact Yv.mk (fun w => by simp [execOp, ho]) (ev_sound hT h1) hv
  case h_3 c x y ho =>
    split at hc
    · rename_i mc mx my h1 h2 h3
      simp at hc; subst hc
      simp only [pval] at hv
      split at hv
      · rename_i b hb
        have hr := ev_sound hT h1
        rw [hb] at hr
        cases hr1 : a.eval c <;> rw [hr1] at hr <;> cases hr
        cases b
        · exact Yv.mk (fun w => by simp [execOp, ho, hr1, asBool]) (ev_sound hT h3) hv
        · exact Yv.mk (fun w => by simp [execOp, ho, hr1, asBool]) (ev_sound hT h2) hv
      · exact hv.elim
    · simp at hc
  case h_4 op ty x ho =>
    obtain ⟨m, h1, rfl⟩ := map_some hc
    have hr := ev_sound hT h1
    simp only [pval] at hv
    split at hv
    · rename_i k n he
      rw [he] at hr
      cases hr1 : a.eval x <;> rw [hr1] at hr <;> cases hr
      exact Yv.mk (fun w => by simp [execOp, ho, hr1, Op.unary, Op.intArith]) (.i _ _) hv
    · rename_i n he
      rw [he] at hr
      cases hr1 : a.eval x <;> rw [hr1] at hr <;> cases hr
      exact Yv.mk (fun w => by simp [execOp, ho, hr1, Op.unary]) (.b _) hv
    · exact hv.elim
  case h_5 op ty x y ty' ho =>
    split at hc
    · rename_i mx my h1 h2
      have fin : ∀ {K : AV → Prop}, pval (.bin op mx my) t K → Yv P o a ρ K := fun {K} hv => by
        obtain ⟨v, av, k1, k2, k3⟩ := bin_sound (P := P) (op := op) (t := ty) (xo := x) (yo := y) (ev_sound hT h1) (ev_sound hT h2) hv
        exact ⟨v, av, fun w => by simp only [execOp, ho]; rw [Sem.run_bind, k1 w]; rfl, k2, k3⟩
      split at hc
      · simp at hc; subst hc; exact fin hv
      · simp at hc; subst hc; exact fin hv
      · rename_i hu
        split at hc
        · simp at hc; subst hc; exact beq_sound hT ho rfl hu h1 h2 hv
        · simp at hc; subst hc; exact beq_sound hT ho rfl hu h1 h2 hv
        · simp at hc
      · split at hc
        · rename_i he
          simp at hc; subst hc; exact eqa_sound hT ho rfl (hE _ _ he) h1 h2 hv
        · rename_i he
          simp at hc; subst hc; exact eqa_sound hT ho rfl (hE _ _ he) h1 h2 hv
        · simp at hc
      · split at hc
        · rename_i he
          simp at hc; subst hc; exact eqa_sound hT ho rfl (hE _ _ he) h1 h2 hv
        · rename_i he
          simp at hc; subst hc; exact eqa_sound hT ho rfl (hE _ _ he) h1 h2 hv
        · simp at hc
      · rename_i hu
        split at hc
        · simp at hc; subst hc; exact snil_sound hT ho rfl hu h1 h2 hv
        · simp at hc; subst hc; exact snil_sound hT ho rfl hu h1 h2 hv
        · simp at hc
      · simp at hc
    · simp at hc
  case h_6 src dst x ho =>
    split at hc
    · rename_i m k0 k h1 h2 h3
      simp at hc; subst hc
      have hr := ev_sound hT h1
      simp only [pval] at hv
      split at hv
      · rename_i k' n he
        rw [he] at hr
        cases hr1 : a.eval x <;> rw [hr1] at hr <;> cases hr
        exact Yv.mk (v := .int k (k.wrap n)) (fun w => by simp [execOp, ho, hr1, convert, run_underlying h2, run_underlying h3, Conv.intToInt]) (.i _ _) hv
      · exact hv.elim
    · simp at hc
  case h_7 ty parts ho =>
    split at hc
    · rename_i zs fields h1 h2
      cases hall : (fields.toList.all fun f => (szOf P f.type).isSome) with
      | false => simp [hall] at hc
      | true =>
        simp only [hall, cond_true] at hc
        obtain ⟨ps, h3, rfl⟩ := map_some hc
        exact build_sound hT ho h1 h3 (fun cs vs r hf z hz hzc w => build_struct h2 hall cs vs r hf z hz hzc w) hv
    · rename_i zs n e h1 h2
      split at hc
      · rename_i s hs
        obtain ⟨ps, h3, rfl⟩ := map_some hc
        exact build_sound hT ho h1 h3 (fun cs vs r hf z hz hzc w => build_array h2 hs cs vs r hf z hz hzc w) hv
      · simp at hc
    · simp at hc
  case h_8 ty x i ho =>
    split at hc
    · rename_i fields m h1 h2
      split at hc
      · rename_i f hf
        split at hc
        · rename_i n hn
          simp at hc; subst hc
          exact addr_sound hT ho h1 hf hn h2 hv
        · simp at hc
      · simp at hc
    · simp at hc
  case h_9 ty x i ho =>
    split at hc
    · rename_i fields m h1 h2
      split at hc
      · rename_i f hf
        obtain ⟨v, av, k1, k2, k3⟩ := field_sound (P := P) hT h2 hc hv
        exact ⟨v, av, fun w => by
          have := k1 w
          simp only [Sem.run_bind] at this
          simp only [execOp, ho, Instr.field, Sem.run_bind, run_underlying h1, Result.andThen_ok, hf, this]
          rfl, k2, k3⟩
      · simp at hc
    · simp at hc
  case h_10 ty x i ho =>
    split at hc
    · rename_i n e m mi h1 h2 h3
      split at hc
      · rename_i s hs
        simp at hc; subst hc
        exact iaddrA_sound hT ho h1 hs h2 h3 hv
      · simp at hc
    · rename_i e m mi h1 h2 h3
      split at hc
      · rename_i s hs
        simp at hc; subst hc
        exact iaddrS_sound hT ho h1 hs h2 h3 hv
      · simp at hc
    · simp at hc
  case h_11 ty x i ho =>
    split at hc
    · rename_i n e m mi h1 h2 h3
      split at hc
      · rename_i d s hd hs
        exact idx_sound hT ho h1 hd hs h2 h3 hc hv
      · simp at hc
    · rename_i m mi h1 h2 h3
      simp at hc; subst hc
      exact sidx_sound hT ho h1 h2 h3 hv
    · simp at hc
  case h_12 ty x lo hi mx ho =>
    split at hc
    · rename_i n e m l h h1 h2 h3 h4 h5
      split at hc
      · rename_i s hs
        simp at hc; subst hc
        rcases optM_map h5 with ⟨rfl, _⟩ | ⟨_, _, _, _, h⟩
        · exact slA_sound hT ho h1 hs h2 h3 h4 hv
        · simp at h
      · simp at hc
    · rename_i e m l h h1 h2 h3 h4 h5
      split at hc
      · rename_i s hs
        simp at hc; subst hc
        exact slS_sound hT ho h1 hs h2 h3 h4 h5 (.inl rfl) hv
      · simp at hc
    · rename_i e m l h mm h1 h2 h3 h4 h5
      split at hc
      · rename_i s hs
        simp at hc; subst hc
        exact slS_sound hT ho h1 hs h2 h3 h4 h5 (.inr ⟨_, _, rfl, rfl⟩) hv
      · simp at hc
    · rename_i m l h h1 h2 h3 h4 h5
      simp at hc; subst hc
      rcases optM_map h5 with ⟨rfl, _⟩ | ⟨_, _, _, _, h⟩
      · exact slStr_sound hT ho h1 h2 h3 h4 hv
      · simp at h
    · simp at hc
  case h_13 x i ho =>
    obtain ⟨m, h1, rfl⟩ := map_some hc
    have hr := ev_sound hT h1
    simp only [pval] at hv
    split at hv
    · rename_i vs he
      rw [he] at hr
      split at hv
      · rename_i av hav
        cases hr1 : a.eval x <;> rw [hr1] at hr <;> cases hr
        rename_i us hus
        obtain ⟨v, k1, k2⟩ := hus.get hav
        exact Yv.mk (v := v) (fun w => by simp [execOp, ho, hr1, Instr.extract, k1]) k2 hv
      · exact hv.elim
    · exact hv.elim
  case h_14 f first captured ho =>
    split at hc
    · rename_i caps h1 h2
      simp at hc; subst hc
      have hcs := cops_sound hT h2
      refine Yv.mk (v := .func (.func f) #[] (captured.toList.map a.eval).toArray) (fun w => ?_) (.fn hcs) hv
      have hf : first = #[] := by apply Array.ext'; simpa using h1
      simp only [execOp, ho, Instr.makeFunc, Sem.run_bind, Sem.run_pure, Result.andThen_ok, hf]
      rw [show (captured.toList.map a.eval).toArray = captured.map a.eval from by apply Array.ext'; simp, show (#[] : Array Operand).map a.eval = #[] from by simp]
    · simp at hc
  case h_15 x ho =>
    obtain ⟨m, h1, rfl⟩ := map_some hc
    have hr := ev_sound hT h1
    simp only [pval] at hv
    split at hv
    · rename_i id ix c he
      rw [he] at hr
      cases hr1 : a.eval x <;> rw [hr1] at hr <;> cases hr
      rename_i b o' e' hρ
      exact Yv.mk (v := .pointer (some ⟨b, o' + ix * e' + c, none⟩)) (fun w => by simp [execOp, ho, hr1]) (.ptr hρ) hv
    · rename_i f caps he
      rw [he] at hr
      cases hr1 : a.eval x <;> rw [hr1] at hr <;> cases hr
      rename_i vs hvs
      exact Yv.mk (v := .func (.func f) #[] vs.toArray) (fun w => by simp [execOp, ho, hr1]) (.fn hvs) hv
    · exact hv.elim
  case h_16 args ats ho =>
    split at hc
    · rename_i x ty hargs hats
      have ha : args = #[x] := by apply Array.ext'; simpa using hargs
      have ht : ats = #[ty] := by apply Array.ext'; simpa using hats
      subst ha; subst ht
      split at hc
      · rename_i m e h1 h2
        simp at hc; subst hc
        have hr := ev_sound hT h1
        simp only [pval] at hv
        split at hv
        · rename_i id ix c l cap he
          rw [he] at hr
          cases hr1 : a.eval x <;> rw [hr1] at hr <;> cases hr
          exact Yv.mk (v := .int .i64 l) (fun w => by simp [execOp, ho, resolve, invoke, builtin, hr1, Builtin.len_, run_underlying h2, goInt]) (.i _ _) hv
        · rename_i id ix e' l cap he
          rw [he] at hr
          cases hr1 : a.eval x <;> rw [hr1] at hr <;> cases hr
          exact Yv.mk (v := .int .i64 l) (fun w => by simp [execOp, ho, resolve, invoke, builtin, hr1, Builtin.len_, run_underlying h2, goInt]) (.i _ _) hv
        · rename_i id l he
          rw [he] at hr
          cases hr1 : a.eval x <;> rw [hr1] at hr <;> cases hr
          exact Yv.mk (v := .int .i64 l) (fun w => by simp [execOp, ho, resolve, invoke, builtin, hr1, Builtin.len_, run_underlying h2, goInt]) (.i _ _) hv
        · rename_i he
          rw [he] at hr
          cases hr1 : a.eval x <;> rw [hr1] at hr <;> cases hr
          exact Yv.mk (v := .int .i64 0) (fun w => by simp [execOp, ho, resolve, invoke, builtin, hr1, Builtin.len_, run_underlying h2, goInt]) (.i _ _) hv
        · exact hv.elim
      · rename_i m h1 h2
        simp at hc; subst hc
        have hr := ev_sound hT h1
        simp only [pval] at hv
        split at hv
        · rename_i s he
          rw [he] at hr
          cases hr1 : a.eval x <;> rw [hr1] at hr <;> cases hr
          exact Yv.mk (v := .int .i64 s.size) (fun w => by simp [execOp, ho, resolve, invoke, builtin, hr1, Builtin.len_, run_underlying h2, goInt]) (.i _ _) hv
        · exact hv.elim
      · rename_i m n e h1 h2
        simp at hc; subst hc
        exact Yv.mk (v := .int .i64 n) (fun w => by simp [execOp, ho, resolve, invoke, builtin, Builtin.len_, run_underlying h2, goInt]) (.i _ _) hv
      · simp at hc
    · simp at hc
  case h_17 args ats ho =>
    split at hc
    · rename_i x ty hargs hats
      have ha : args = #[x] := by apply Array.ext'; simpa using hargs
      have ht : ats = #[ty] := by apply Array.ext'; simpa using hats
      subst ha; subst ht
      split at hc
      · rename_i m e h1 h2
        simp at hc; subst hc
        have hr := ev_sound hT h1
        simp only [pval] at hv
        split at hv
        · rename_i id ix c l cap he
          rw [he] at hr
          cases hr1 : a.eval x <;> rw [hr1] at hr <;> cases hr
          exact Yv.mk (v := .int .i64 cap) (fun w => by simp [execOp, ho, resolve, invoke, builtin, hr1, Builtin.cap_, run_underlying h2, goInt]) (.i _ _) hv
        · rename_i id ix e' l cap he
          rw [he] at hr
          cases hr1 : a.eval x <;> rw [hr1] at hr <;> cases hr
          exact Yv.mk (v := .int .i64 cap) (fun w => by simp [execOp, ho, resolve, invoke, builtin, hr1, Builtin.cap_, run_underlying h2, goInt]) (.i _ _) hv
        · rename_i he
          rw [he] at hr
          cases hr1 : a.eval x <;> rw [hr1] at hr <;> cases hr
          exact Yv.mk (v := .int .i64 0) (fun w => by simp [execOp, ho, resolve, invoke, builtin, hr1, Builtin.cap_, run_underlying h2, goInt]) (.i _ _) hv
        · exact hv.elim
      · simp at hc
    · simp at hc
  case h_18 args ats ho =>
    split at hc
    · rename_i x xs h1
      simp at hc; subst hc
      have hcs := cops_sound hT h1
      simp only [List.map_cons] at hcs
      cases hl : args.toList.map a.eval with
      | nil => rw [hl] at hcs; cases hcs
      | cons v vs =>
        rw [hl] at hcs
        cases hcs with | cons h t =>
        simp only [pval] at hv
        obtain ⟨u, au, k1, k2, k3⟩ := mnmx_sound (P := P) t h hv
        refine Yv.mk (v := u) (fun w => ?_) k2 k3
        have hl2 : (args.map a.eval).toList = v :: vs := by simpa using hl
        have hk := k1 w
        simp only [if_true] at hk
        simp [execOp, ho, resolve, invoke, builtin, Builtin.max_, hl, hk]
    · simp at hc
  case h_19 args ats ho =>
    split at hc
    · rename_i x xs h1
      simp at hc; subst hc
      have hcs := cops_sound hT h1
      simp only [List.map_cons] at hcs
      cases hl : args.toList.map a.eval with
      | nil => rw [hl] at hcs; cases hcs
      | cons v vs =>
        rw [hl] at hcs
        cases hcs with | cons h t =>
        simp only [pval] at hv
        obtain ⟨u, au, k1, k2, k3⟩ := mnmx_sound (P := P) t h hv
        refine Yv.mk (v := u) (fun w => ?_) k2 k3
        have hl2 : (args.map a.eval).toList = v :: vs := by simpa using hl
        have hk := k1 w
        simp only [Bool.false_eq_true, if_false] at hk
        simp [execOp, ho, resolve, invoke, builtin, Builtin.min_, hl, hk]
    · simp at hc
  all_goals (simp at hc)
end Go.Proofs.Ytpfmnmcpffajeaa.V
