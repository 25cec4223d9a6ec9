/-
  A second semantics of Go's operations. Part 11: '==' of structs and arrays; contracts of functions that touch no memory; tables of contracts.
-/
import Derived.Test.YtpfmnmcpffajeaaVj
import Derived.Laws.StructEq
set_option linter.unusedVariables false
set_option linter.unusedSimpArgs false
namespace Go.Proofs.Ytpfmnmcpffajeaa.V
open Go Go.RowKit

/-! ### '==' -/
def flatFs (P : Program) (F : TypeId → Option (List SK)) (off : Nat) : List Field → Option (List SK)
  | [] => some []
  | f :: fs => match F f.type, szOf P f.type with
    | some ks, some n => cond (f.offset.beq off && n.beq ks.length && !(f.name == "_") && Nat.blt 0 ks.length) (match flatFs P F (off + ks.length) fs with
      | some r => some (ks ++ r)
      | none => none) none
    | _, _ => none

def repK (ks : List SK) : Nat → List SK
  | 0 => []
  | n + 1 => ks ++ repK ks n

def flatT (P : Program) : Nat → TypeId → Option (List SK)
  | 0, _ => none
  | d + 1, t => match P.underlying t with
    | some (.int k) => some [.i k]
    | some .bool => some [.b]
    | some .string => some [.s]
    | some (.struct fs) => cond (P.stoodInHeld t) none (flatFs P (flatT P d) 0 fs.toList)
    | some (.array n e) => match flatT P d e, szOf P e with
      | some ks, some s => cond (s.beq ks.length && Nat.blt 0 ks.length) (some (repK ks n)) none
      | _, _ => none
    | _ => none

def eqsP (P : Program) (t : TypeId) : Option (List SK) :=
  match P.underlying t with
  | some d => cond (aggD d) (cond (P.eqGuardType P.depth t) none (flatT P 20 t)) none
  | none => none

theorem eqO_cons {k : SK} {ks : List SK} {xs ys : List AV} {r : Bool} (h : eqO (k :: ks) xs ys = some r) :
    ∃ x xs' y ys' b r', xs = x :: xs' ∧ ys = y :: ys' ∧ eq1 k x y = some b ∧ eqO ks xs' ys' = some r' ∧ r = (b && r') := by
  unfold eqO at h
  split at h
  · rename_i e; exact absurd e (by simp)
  · rename_i k' ks' x xs' y ys' e
    cases e
    split at h
    · rename_i b r' h1 h2
      simp at h
      exact ⟨x, xs', y, ys', b, r', rfl, rfl, h1, h2, h.symm⟩
    · simp at h
  · simp at h

theorem eqO_nil {xs ys : List AV} {r : Bool} (h : eqO [] xs ys = some r) : xs = [] ∧ ys = [] ∧ r = true := by
  unfold eqO at h
  split at h
  · simp at h; exact ⟨rfl, rfl, h⟩
  · rename_i e; exact absurd e (by simp)
  · simp at h

theorem eq1_i {k : IntKind} {x y : AV} {b : Bool} (h : eq1 (.i k) x y = some b) : ∃ a c, x = .i k a ∧ y = .i k c ∧ b = (a == c) := by
  cases x <;> cases y <;> simp only [eq1] at h <;> first | (simp at h; done) | skip
  rename_i k1 a k2 c
  cases hk : (keq k1 k && keq k2 k) with
  | false => rw [hk] at h; simp at h
  | true =>
    rw [hk] at h
    simp at h
    simp [keq] at hk
    obtain ⟨rfl, rfl⟩ := hk
    exact ⟨a, c, rfl, rfl, h.symm⟩
theorem eq1_b {x y : AV} {b : Bool} (h : eq1 .b x y = some b) : ∃ a c, x = .b a ∧ y = .b c ∧ b = (a == c) := by
  cases x <;> cases y <;> simp only [eq1] at h <;> first | (simp at h; done) | skip
  rename_i a c
  simp at h
  exact ⟨a, c, rfl, rfl, h.symm⟩
theorem eq1_s {x y : AV} {b : Bool} (h : eq1 .s x y = some b) : ∃ a c, x = .s a ∧ y = .s c ∧ b = (a == c) := by
  cases x <;> cases y <;> simp only [eq1] at h <;> first | (simp at h; done) | skip
  rename_i a c
  simp at h
  exact ⟨a, c, rfl, rfl, h.symm⟩

theorem eqO_append : ∀ {ks1 ks2 : List SK} {xs ys : List AV} {r : Bool}, eqO (ks1 ++ ks2) xs ys = some r →
    ∃ r1 r2, eqO ks1 (xs.take ks1.length) (ys.take ks1.length) = some r1 ∧ eqO ks2 (xs.drop ks1.length) (ys.drop ks1.length) = some r2 ∧ r = (r1 && r2)
  | [], ks2, xs, ys, r, h => ⟨true, r, by simp [eqO], by simpa using h, by simp⟩
  | k :: ks1, ks2, xs, ys, r, h => by
    rw [List.cons_append] at h
    obtain ⟨x, xs', y, ys', b, r', rfl, rfl, h1, h2, rfl⟩ := eqO_cons h
    obtain ⟨r1, r2, e1, e2, rfl⟩ := eqO_append h2
    refine ⟨b && r1, r2, ?_, by simpa using e2, by rw [Bool.and_assoc]⟩
    simp only [List.length_cons, List.take_succ_cons, eqO, h1, e1]

theorem eqO_len : ∀ {ks : List SK} {xs ys : List AV} {r : Bool}, eqO ks xs ys = some r → xs.length = ks.length ∧ ys.length = ks.length
  | [], xs, ys, r, h => by obtain ⟨rfl, rfl, _⟩ := eqO_nil h; exact ⟨rfl, rfl⟩
  | k :: ks, xs, ys, r, h => by
    obtain ⟨x, xs', y, ys', b, r', rfl, rfl, h1, h2, rfl⟩ := eqO_cons h
    have := eqO_len h2
    simp [this.1, this.2]

/-- The value of a type with some cells. -/
def ofCells (agg : Bool) (vs : List Value) : Value := cond agg (.agg vs.toArray) (vs.headD undef)

/-- '==' at a type, told by its kinds. -/
def EqAt (P : Program) (D : Nat) (t : TypeId) (ks : List SK) : Prop :=
  ∃ d, P.underlying t = some d ∧ (aggD d = false → ks.length = 1) ∧ ∀ (ρ : List Loc) (xs ys : List AV) (vs us : List Value) (r : Bool), RL ρ xs vs → RL ρ ys us → eqO ks xs ys = some r →
    ∀ w, (Op.equalIn D t (ofCells (aggD d) vs) (ofCells (aggD d) us)).run P w = .ok r w

theorem run_part_of {P : Program} {t : TypeId} {d : TypeDesc} {n : Nat} (hd : P.underlying t = some d) (hs : szOf P t = some n) {vs : List Value} {off : Nat} (hl : off + n ≤ vs.length) (h1 : aggD d = false → n = 1) (w : World) :
    (part t vs.toArray off).run P w = .ok (ofCells (aggD d) ((vs.drop off).take n)) w := by
  rw [run_part hd hs]
  cases ha : aggD d with
  | true =>
    simp only [if_true, ofCells, cond_true]
    congr 2
    apply Array.ext'
    simp [List.extract_eq_take_drop]
  | false =>
    obtain rfl := h1 ha
    have hlt : off < vs.length := by omega
    simp only [Bool.false_eq_true, if_false, ofCells, cond_false]
    have : (vs.drop off).take 1 = [vs[off]] := by
      apply List.ext_getElem?
      intro j
      cases j with
      | zero => simp [hlt]
      | succ j => simp; omega
    rw [this]
    simp [hlt]

theorem eqFields_sound {P : Program} {D : Nat} {F : TypeId → Option (List SK)} (hF : ∀ t ks, F t = some ks → EqAt P D t ks) {ρ : List Loc} {xs ys : List AV} {vs us : List Value} (hx : RL ρ xs vs) (hy : RL ρ ys us) :
    ∀ (fs : List Field) (off : Nat) (ks : List SK), flatFs P F off fs = some ks → ∀ r, eqO ks (xs.drop off) (ys.drop off) = some r → ∀ w, (Op.eqFields D vs.toArray us.toArray fs).run P w = .ok r w
  | [], off, ks, h, r, he, w => by
    simp [flatFs] at h; subst h
    obtain ⟨_, _, rfl⟩ := eqO_nil he
    rfl
  | f :: fs, off, ks, h, r, he, w => by
    simp only [flatFs] at h
    split at h
    · rename_i k1 n hk1 hn
      cases hc : (f.offset.beq off && n.beq k1.length && !(f.name == "_") && Nat.blt 0 k1.length) with
      | false => rw [hc] at h; simp at h
      | true =>
        rw [hc] at h
        simp only [cond_true] at h
        split at h
        · rename_i k2 hk2
          simp at h; subst h
          simp only [Bool.and_eq_true] at hc
          obtain ⟨⟨⟨c1, c2⟩, c3⟩, c4⟩ := hc
          have c4 : 0 < k1.length := by simpa [Nat.blt_eq] using c4
          have c1 := Nat.eq_of_beq_eq_true c1
          have c2 := Nat.eq_of_beq_eq_true c2
          have c3 : f.name ≠ "_" := by simpa using c3
          obtain ⟨d, hd, hone, hE⟩ := hF _ _ hk1
          obtain ⟨l1, l2⟩ := eqO_len he
          obtain ⟨r1, r2, e1, e2, rfl⟩ := eqO_append he
          simp only [List.length_append, List.length_drop] at l1 l2
          have hvl := hx.length
          have hul := hy.length
          simp only [Op.eqFields]
          rw [if_pos c3]
          rw [c1]
          simp only [Sem.run_bind]
          have hone' : aggD d = false → n = 1 := fun ha => by rw [c2]; exact hone ha
          rw [run_part_of (P := P) hd hn (vs := vs) (off := off) (by omega) hone' w]
          simp only [Result.andThen_ok]
          rw [run_part_of (P := P) hd hn (vs := us) (off := off) (by omega) hone' w]
          simp only [Result.andThen_ok]
          rw [c2, hE ρ _ _ _ _ r1 ((hx.drop off).take _) ((hy.drop off).take _) e1 w]
          simp only [Result.andThen_ok]
          rw [List.drop_drop, List.drop_drop] at e2
          have ih := eqFields_sound hF hx hy fs (off + k1.length) k2 hk2 r2 e2 w
          cases r1
          · rfl
          · simpa using ih
        · simp at h
    · simp at h

theorem eqRow_sound {P : Program} {D e : Nat} {ks : List SK} (hs : szOf P e = some ks.length) (h0 : 0 < ks.length) (hE : EqAt P D e ks) {ρ : List Loc} {xs ys : List AV} {vs us : List Value} (hx : RL ρ xs vs) (hy : RL ρ ys us) :
    ∀ (m k : Nat) (r : Bool), eqO (repK ks m) (xs.drop (k * ks.length)) (ys.drop (k * ks.length)) = some r → ∀ w,
      (forIn (List.range' k m) ((none, ()) : Option Bool × Unit) fun i (s : Option Bool × Unit) => (do
        let a ← part e vs.toArray (i * ks.length)
        let b ← part e us.toArray (i * ks.length)
        let q ← Op.equalIn D e a b
        if (!q) = true then pure (ForInStep.done (some false, ())) else pure (ForInStep.yield (none, ())) : Sem (ForInStep (Option Bool × Unit)))).run P w = .ok (cond r (none, ()) (some false, ())) w
  | 0, k, r, he, w => by
    obtain ⟨_, _, rfl⟩ := eqO_nil he
    rfl
  | m + 1, k, r, he, w => by
    obtain ⟨d, hd, hone, hE'⟩ := hE
    obtain ⟨l1, l2⟩ := eqO_len he
    simp only [repK] at he l1 l2
    obtain ⟨r1, r2, e1, e2, rfl⟩ := eqO_append he
    simp only [List.length_append, List.length_drop] at l1 l2
    have hvl := hx.length
    have hul := hy.length
    rw [List.range'_succ, List.forIn_cons]
    simp only [Sem.run_bind]
    rw [run_part_of (P := P) hd hs (vs := vs) (off := k * ks.length) (by omega) hone w]
    simp only [Result.andThen_ok]
    rw [run_part_of (P := P) hd hs (vs := us) (off := k * ks.length) (by omega) hone w]
    simp only [Result.andThen_ok]
    rw [hE' ρ _ _ _ _ r1 ((hx.drop _).take _) ((hy.drop _).take _) e1 w]
    simp only [Result.andThen_ok]
    rw [List.drop_drop, List.drop_drop, show k * ks.length + ks.length = (k + 1) * ks.length from by rw [Nat.add_mul, Nat.one_mul]] at e2
    have ih := eqRow_sound hs h0 ⟨d, hd, hone, hE'⟩ hx hy m (k + 1) r2 e2 w
    cases r1
    · rfl
    · simpa using ih

theorem eqAt_of {P : Program} : ∀ (d : Nat) (t : TypeId) (ks : List SK), flatT P d t = some ks → ∀ D, d ≤ D → EqAt P D t ks
  | 0, t, ks, h, _, _ => by simp [flatT] at h
  | d + 1, t, ks, h, D, hD => by
    obtain ⟨D, rfl⟩ : ∃ m, D = m + 1 := ⟨D - 1, by omega⟩
    simp only [flatT] at h
    split at h
    · rename_i k hu
      simp at h; subst h
      refine ⟨_, hu, fun _ => rfl, fun ρ xs ys vs us r hx hy he w => ?_⟩
      obtain ⟨x, xs', y, ys', b, r', rfl, rfl, h1, h2, rfl⟩ := eqO_cons he
      obtain ⟨rfl, rfl, rfl⟩ := eqO_nil h2
      cases hx with | cons hx tx =>
      cases hy with | cons hy ty =>
      obtain ⟨a, c, rfl, rfl, rfl⟩ := eq1_i h1
      cases hx; cases hy
      simp only [aggD, ofCells, cond_false, List.headD_cons, Bool.and_true]
      exact run_equalIn_int w D t k k a c hu
    · rename_i hu
      simp at h; subst h
      refine ⟨_, hu, fun _ => rfl, fun ρ xs ys vs us r hx hy he w => ?_⟩
      obtain ⟨x, xs', y, ys', b, r', rfl, rfl, h1, h2, rfl⟩ := eqO_cons he
      obtain ⟨rfl, rfl, rfl⟩ := eqO_nil h2
      cases hx with | cons hx tx =>
      cases hy with | cons hy ty =>
      obtain ⟨a, c, rfl, rfl, rfl⟩ := eq1_b h1
      cases hx; cases hy
      simp only [aggD, ofCells, cond_false, List.headD_cons, Bool.and_true]
      exact equalIn_bool hu D w
    · rename_i hu
      simp at h; subst h
      refine ⟨_, hu, fun _ => rfl, fun ρ xs ys vs us r hx hy he w => ?_⟩
      obtain ⟨x, xs', y, ys', b, r', rfl, rfl, h1, h2, rfl⟩ := eqO_cons he
      obtain ⟨rfl, rfl, rfl⟩ := eqO_nil h2
      cases hx with | cons hx tx =>
      cases hy with | cons hy ty =>
      obtain ⟨a, c, rfl, rfl, rfl⟩ := eq1_s h1
      cases hx; cases hy
      simp only [aggD, ofCells, cond_false, List.headD_cons, Bool.and_true]
      rw [run_equalIn_string w D t a c hu, ← beq_toListBytes]
    · rename_i fs hu
      cases hst : P.stoodInHeld t with
      | true => rw [hst] at h; simp at h
      | false =>
        rw [hst] at h
        simp only [cond_false] at h
        refine ⟨_, hu, fun ha => by simp [aggD] at ha, fun ρ xs ys vs us r hx hy he w => ?_⟩
        simp only [aggD, ofCells, cond_true]
        have hfo : P.fieldsOf t = fs := by simp [Program.fieldsOf, hu]
        rw [run_equalIn_struct w D t _ _ (by rw [hfo]; exact hu) hst, hfo]
        exact eqFields_sound (fun t' ks' h' => eqAt_of d t' ks' h' D (by omega)) hx hy fs.toList 0 ks h r (by simpa using he) w
    · rename_i n e hu
      split at h
      · rename_i k1 s hk1 hs
        cases hc : (s.beq k1.length && Nat.blt 0 k1.length) with
        | false => rw [hc] at h; simp at h
        | true =>
          rw [hc] at h
          simp at h; subst h
          simp only [Bool.and_eq_true] at hc
          obtain rfl := Nat.eq_of_beq_eq_true hc.1
          have h0 : 0 < k1.length := by simpa [Nat.blt_eq] using hc.2
          refine ⟨_, hu, fun ha => by simp [aggD] at ha, fun ρ xs ys vs us r hx hy he w => ?_⟩
          simp only [aggD, ofCells, cond_true]
          have hrow := eqRow_sound hs h0 (eqAt_of d e k1 hk1 D (by omega)) hx hy n 0 r (by simpa using he) w
          simp only [Op.equalIn, Sem.run_bind, run_underlying hu, Result.andThen_ok, run_size hs]
          rw [Std.Legacy.Range.forIn_eq_forIn_range']
          rw [show List.range' (⟨0, n, 1, by decide⟩ : Std.Legacy.Range).start (⟨0, n, 1, by decide⟩ : Std.Legacy.Range).size (⟨0, n, 1, by decide⟩ : Std.Legacy.Range).step = List.range' 0 n from by simp [Std.Legacy.Range.size]]
          rw [hrow]
          cases r <;> rfl
      · simp at h
    · simp at h

theorem eqsP_ok {P : Program} (t : TypeId) (ks : List SK) (h : eqsP P t = some ks) : EqOK P t ks := by
  unfold eqsP at h
  split at h
  · rename_i d hd
    cases ha : aggD d with
    | false => rw [ha] at h; simp at h
    | true =>
      rw [ha] at h
      cases hg : P.eqGuardType P.depth t with
      | true => rw [hg] at h; simp at h
      | false =>
        rw [hg] at h
        simp only [cond_true, cond_false] at h
        obtain ⟨d', hd', _, hE⟩ := eqAt_of 20 t ks h 10000 (by omega)
        rw [hd] at hd'
        simp at hd'; subst hd'
        refine ⟨hg, fun ρ xs ys vs us r hx hy he w => ?_⟩
        have := hE ρ xs ys vs us r hx hy he w
        simpa [ha, ofCells, Op.equal, Op.maxDepth] using this
  · simp at h

/-! ### Functions that touch no memory -/
mutual
def plainA : AV → Bool
  | .i .. => true
  | .b _ => true
  | .s _ => true
  | .nslc => true
  | .v _ => true
  | .ptr .. => false
  | .slc .. => false
  | .sls .. => false
  | .sla .. => false
  | .fn _ caps => plainL caps
  | .agg cs => plainL cs
  | .tup vs => plainL vs
def plainL : List AV → Bool
  | [] => true
  | a :: as => plainA a && plainL as
end

theorem R.plain {ρ ρ' : List Loc} {a : AV} {v : Value} (h : R ρ a v) : plainA a = true → R ρ' a v :=
  R.rec (motive_1 := fun a v _ => plainA a = true → R ρ' a v) (motive_2 := fun as vs _ => plainL as = true → RL ρ' as vs)
    (fun k n _ => .i k n) (fun x _ => .b x) (fun x _ => .s x)
    (fun _ hp => by simp [plainA] at hp) (fun _ hp => by simp [plainA] at hp) (fun _ hp => by simp [plainA] at hp) (fun _ _ _ hp => by simp [plainA] at hp)
    (fun _ => .nslc) (fun _ ih hp => .fn (ih (by simpa [plainA] using hp))) (fun _ ih hp => .agg (ih (by simpa [plainA] using hp))) (fun _ ih hp => .tup (ih (by simpa [plainA] using hp)))
    (fun h _ => .v h) (fun _ => .nil)
    (fun _ _ ih1 ih2 hp => by
      simp only [plainL, Bool.and_eq_true] at hp
      exact .cons (ih1 hp.1) (ih2 hp.2)) h

theorem RL.plain {ρ ρ' : List Loc} : ∀ {as : List AV} {vs : List Value}, RL ρ as vs → plainL as = true → RL ρ' as vs
  | [], _, h, _ => by cases h; exact .nil
  | _ :: _, _, h, hp => by
    simp only [plainL, Bool.and_eq_true] at hp
    cases h with | cons h t => exact .cons (h.plain hp.1) (RL.plain t hp.2)

/-- Blocks below a world's size stand while that part of memory stands. -/
theorem Rel.below' {w0 w w' : World} {ρ : List Loc} {H : Heap} (h : Rel w0 ρ H w) (hb : Below w.heap.size w w') : Rel w0 ρ H w' := by
  refine ⟨h.len, h.below.trans (hb.mono h.size), fun id B e => ?_, h.dist, fun id B e r => by
    obtain ⟨b, o, C, n, cs, g1, g2, g3, g⟩ := h.room id B e r
    exact ⟨b, o, C, n, cs, g1, g2, (hb.block b (Array.getElem?_eq_some_iff.1 g3).1).trans g3, g⟩⟩
  obtain ⟨b, o, k1, k2⟩ := h.blk id B e
  have hlt := k2.lt h
  exact ⟨b, o, k1, ⟨fun ix c a hx ha => by
    obtain ⟨v, g1, g2⟩ := k2.cell ix c a hx ha
    exact ⟨v, (hb.cell (p := ⟨b, o + ix * B.esz + c, none⟩) hlt).trans g1, g2⟩, k2.wide, fun ho => by
    obtain ⟨g1, g2, cs, g3⟩ := k2.own ho
    exact ⟨g1, g2, cs, (hb.block b hlt).trans g3⟩, k2.old, k2.one⟩⟩

theorem Rel.empty (w : World) : Rel w [] [] w := ⟨rfl, Below.refl _ _, fun id B e => by simp at e, fun i j B C b o e b' o' e' h => by simp at h, fun id B e => by simp at e⟩

theorem soundN_of {P : Program} {f : FuncId} {S : Spec} {S' : NSpec} (hG : SoundG P f S) (h : ∀ args H K, S' args H K → plainL args = true ∧ S args [] fun a _ => plainA a = true ∧ K a) : SoundN P f S' := by
  intro args H K hs
  obtain ⟨hp, hS⟩ := h args H K hs
  obtain ⟨hg, hcall⟩ := hG args [] _ hS
  refine ⟨hg, fun w0 ρ w vs hvs hR => ?_⟩
  refine (hcall w [] w vs (hvs.plain hp) (Rel.empty w)).mono fun e w' ⟨v, av, ρ', H', k1, k2, k3, k4, k5, k6⟩ => ?_
  exact ⟨v, av, k1, k3.plain k5, hR.below' k4.below, k6⟩

/-- A function without memory of its caller's, entered: what its code comes to over an empty memory. -/
def nOf (Γ : Gam) (U : Nat) (fm : FM) : NSpec := fun args _ K => asr (plainL args) (WF Γ U fm args [] fun a _ => asr (plainA a) (K a))
theorem nOf_ok {P : Program} {f : FuncId} {Γ : Gam} {U : Nat} {fm : FM} (hG : SoundG P f (WF Γ U fm)) : SoundN P f (nOf Γ U fm) :=
  soundN_of hG fun args H K h => by
    unfold nOf at h
    rw [asr_iff] at h
    refine ⟨h.1, ?_⟩
    have e : (fun a (_ : Heap) => asr (plainA a) (K a)) = fun a _ => plainA a = true ∧ K a := by
      funext a _
      exact propext asr_iff
    rw [← e]
    exact h.2

/-! ### Functions at given inputs -/
def intEq : Int → Int → Bool
  | .ofNat a, .ofNat b => Nat.beq a b
  | .negSucc a, .negSucc b => Nat.beq a b
  | _, _ => false
def bytesEq : List UInt8 → List UInt8 → Bool
  | [], [] => true
  | x :: xs, y :: ys => Nat.beq x.toNat y.toNat && bytesEq xs ys
  | _, _ => false
mutual
def avEq : AV → AV → Bool
  | .i k n, .i k' m => keq k k' && intEq n m
  | .b x, .b y => x == y
  | .s x, .s y => bytesEq x.data.toList y.data.toList
  | .agg xs, .agg ys => avsEq xs ys
  | .tup xs, .tup ys => avsEq xs ys
  | _, _ => false
def avsEq : List AV → List AV → Bool
  | [], [] => true
  | x :: xs, y :: ys => avEq x y && avsEq xs ys
  | _, _ => false
end
theorem intEq_eq {x y : Int} (h : intEq x y = true) : x = y := by
  cases x <;> cases y <;> simp only [intEq] at h <;> first | (rw [Nat.eq_of_beq_eq_true h]; done) | exact absurd h (by simp)
theorem bytesEq_eq : ∀ {x y : List UInt8}, bytesEq x y = true → x = y
  | [], [], _ => rfl
  | a :: as, b :: bs, h => by
    simp only [bytesEq, Bool.and_eq_true] at h
    rw [UInt8.toNat.inj (Nat.eq_of_beq_eq_true h.1), bytesEq_eq h.2]
  | [], _ :: _, h => by simp [bytesEq] at h
  | _ :: _, [], h => by simp [bytesEq] at h
mutual
theorem avEq_eq : ∀ {x y : AV}, avEq x y = true → x = y
  | .i k n, .i k' m, h => by
    simp only [avEq, Bool.and_eq_true] at h
    rw [intEq_eq h.2]
    have : k = k' := by simpa [keq] using h.1
    rw [this]
  | .b x, .b y, h => by simp only [avEq, beq_iff_eq] at h; rw [h]
  | .s ⟨⟨x⟩⟩, .s ⟨⟨y⟩⟩, h => by simp only [avEq] at h; rw [bytesEq_eq h]
  | .agg xs, .agg ys, h => by simp only [avEq] at h; rw [avsEq_eq h]
  | .tup xs, .tup ys, h => by simp only [avEq] at h; rw [avsEq_eq h]
  | .ptr .., _, h | .slc .., _, h | .sls .., _, h | .sla .., _, h | .nslc, _, h | .fn .., _, h | .v _, _, h => by simp [avEq] at h
  | .i .., .b _, h | .i .., .s _, h | .i .., .agg _, h | .i .., .tup _, h | .i .., .ptr .., h | .i .., .slc .., h | .i .., .sls .., h | .i .., .sla .., h | .i .., .nslc, h | .i .., .fn .., h | .i .., .v _, h => by simp [avEq] at h
  | .b _, .i .., h | .b _, .s _, h | .b _, .agg _, h | .b _, .tup _, h | .b _, .ptr .., h | .b _, .slc .., h | .b _, .sls .., h | .b _, .sla .., h | .b _, .nslc, h | .b _, .fn .., h | .b _, .v _, h => by simp [avEq] at h
  | .s _, .i .., h | .s _, .b _, h | .s _, .agg _, h | .s _, .tup _, h | .s _, .ptr .., h | .s _, .slc .., h | .s _, .sls .., h | .s _, .sla .., h | .s _, .nslc, h | .s _, .fn .., h | .s _, .v _, h => by simp [avEq] at h
  | .agg _, .i .., h | .agg _, .b _, h | .agg _, .s _, h | .agg _, .tup _, h | .agg _, .ptr .., h | .agg _, .slc .., h | .agg _, .sls .., h | .agg _, .sla .., h | .agg _, .nslc, h | .agg _, .fn .., h | .agg _, .v _, h => by simp [avEq] at h
  | .tup _, .i .., h | .tup _, .b _, h | .tup _, .s _, h | .tup _, .agg _, h | .tup _, .ptr .., h | .tup _, .slc .., h | .tup _, .sls .., h | .tup _, .sla .., h | .tup _, .nslc, h | .tup _, .fn .., h | .tup _, .v _, h => by simp [avEq] at h
theorem avsEq_eq : ∀ {x y : List AV}, avsEq x y = true → x = y
  | [], [], _ => rfl
  | a :: as, b :: bs, h => by
    simp only [avsEq, Bool.and_eq_true] at h
    rw [avEq_eq h.1, avsEq_eq h.2]
  | [], _ :: _, h => by simp [avsEq] at h
  | _ :: _, [], h => by simp [avsEq] at h
end
def tabN : List (List AV × AV) → NSpec
  | [], _, _, _ => False
  | (as, r) :: rows, args, H, K => cond (avsEq as args) (K r) (tabN rows args H K)
def RowOK (Γ : Gam) (U : Nat) (fm : FM) (row : List AV × AV) : Prop := ∀ K : AV → Prop, nOf Γ U fm row.1 [] K = K row.2
def RowsOK (Γ : Gam) (U : Nat) (fm : FM) : List (List AV × AV) → Prop
  | [] => True
  | r :: rs => RowOK Γ U fm r ∧ RowsOK Γ U fm rs
theorem tabN_ok {P : Program} {f : FuncId} {Γ : Gam} {U : Nat} {fm : FM} (hG : SoundG P f (WF Γ U fm)) : ∀ {rows : List (List AV × AV)}, RowsOK Γ U fm rows → SoundN P f (tabN rows)
  | [], _ => fun args H K h => h.elim
  | (as, r) :: rows, hr => fun args H K h => by
    simp only [tabN] at h
    cases hb : avsEq as args with
    | true =>
      rw [hb] at h
      obtain rfl := avsEq_eq hb
      refine nOf_ok hG as H K ?_
      have := hr.1 K
      simp only [nOf] at this ⊢
      rw [this]; exact h
    | false =>
      rw [hb] at h
      exact tabN_ok hG hr.2 args H K h

/-! ### Tables -/
def lookN : List (Nat × NSpec) → Nat → NSpec
  | [], _ => fun _ _ _ => False
  | (g, s) :: l, f => fun args H K => cond (f.beq g) (s args H K) (lookN l f args H K)
def lookG : List (Nat × Spec) → Nat → Spec
  | [], _ => fun _ _ _ => False
  | (g, s) :: l, f => fun args H K => cond (f.beq g) (s args H K) (lookG l f args H K)
def mkG (n : List (Nat × NSpec)) (g : List (Nat × Spec)) : Gam := ⟨lookN n, lookG g, 0⟩
def AllN (P : Program) : List (Nat × NSpec) → Prop
  | [] => True
  | (f, s) :: l => SoundN P f s ∧ AllN P l
def AllG (P : Program) : List (Nat × Spec) → Prop
  | [] => True
  | (f, s) :: l => SoundG P f s ∧ AllG P l

theorem lookN_ok {P : Program} : ∀ {l : List (Nat × NSpec)}, AllN P l → ∀ f, SoundN P f (lookN l f)
  | [], _, f => fun args H K h => h.elim
  | (g, s) :: l, hl, f => fun args H K h => by
    simp only [lookN] at h
    cases hb : f.beq g with
    | true =>
      rw [hb] at h
      obtain rfl := Nat.eq_of_beq_eq_true hb
      exact hl.1 args H K h
    | false =>
      rw [hb] at h
      exact lookN_ok hl.2 f args H K h
theorem lookG_ok {P : Program} : ∀ {l : List (Nat × Spec)}, AllG P l → ∀ f, SoundG P f (lookG l f)
  | [], _, f => fun args H K h => h.elim
  | (g, s) :: l, hl, f => fun args H K h => by
    simp only [lookG] at h
    cases hb : f.beq g with
    | true =>
      rw [hb] at h
      obtain rfl := Nat.eq_of_beq_eq_true hb
      exact hl.1 args H K h
    | false =>
      rw [hb] at h
      exact lookG_ok hl.2 f args H K h
theorem mkG_ok {P : Program} {n : List (Nat × NSpec)} {g : List (Nat × Spec)} (hn : AllN P n) (hg : AllG P g) : (mkG n g).ok P := ⟨lookN_ok hn, lookG_ok hg⟩

/-- Contracts as they are, and no store below the block 'lo'. -/
def Gam.at (Γ : Gam) (lo : Nat) : Gam := ⟨Γ.n, Γ.g, lo⟩
theorem at_ok {P : Program} {Γ : Gam} (h : Γ.ok P) (lo : Nat) : (Γ.at lo).ok P := ⟨h.n, h.g⟩

def neutOf (l : List Nat) (f : Nat) : Bool := l.any fun g => g.beq f
/-- The contracts of a list come to one value each. -/
def AllD (n : FuncId → NSpec) : List Nat → Prop
  | [] => True
  | f :: l => DetN (n f) ∧ AllD n l
theorem allD_ok {n : FuncId → NSpec} : ∀ {l : List Nat}, AllD n l → ∀ f, neutOf l f = true → DetN (n f)
  | [], _, f, h => by simp [neutOf] at h
  | g :: l, hl, f, h => by
    simp only [neutOf, List.any_cons, Bool.or_eq_true] at h
    rcases h with h | h
    · have := Nat.eq_of_beq_eq_true h
      subst this; exact hl.1
    · exact allD_ok hl.2 f h
theorem tabN_det : ∀ rows : List (List AV × AV), DetN (tabN rows)
  | [] => fun args H K h => h.elim
  | (as, r) :: rows => fun args H K h => by
    simp only [tabN] at h ⊢
    cases hb : avsEq as args with
    | true =>
      rw [hb] at h
      exact ⟨r, h, fun H' K' _ hk => hk⟩
    | false =>
      rw [hb] at h
      exact tabN_det rows args H K h
end Go.Proofs.Ytpfmnmcpffajeaa.V
