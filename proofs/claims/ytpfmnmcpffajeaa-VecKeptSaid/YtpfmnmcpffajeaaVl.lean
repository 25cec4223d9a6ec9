/-
  A second semantics of Go's operations. Part 12: what a caller hands over, as values of this semantics; a law's row closed.
-/
import Derived.Test.YtpfmnmcpffajeaaVk
import Derived.ProofKit
import Derived.Carry
import Derived.OpenShut
set_option linter.unusedVariables false
set_option linter.unusedSimpArgs false
namespace Go.Proofs.Ytpfmnmcpffajeaa.V
open Go Go.RowKit Go.ChangeShapes Go.WideShapes Go.ChangeAt

def okK : SK → AV → Prop
  | .i k, .i k' n => k' = k ∧ k.min ≤ n ∧ n ≤ k.max
  | .b, .b _ => True
  | .s, .s x => x.size ≤ maxLen
  | _, _ => False
def okKs : List SK → List AV → Prop
  | [], [] => True
  | k :: ks, a :: as => okK k a ∧ okKs ks as
  | _, _ => False

theorem okKs_append : ∀ {ks ks' : List SK} {as as' : List AV}, okKs ks as → okKs ks' as' → okKs (ks ++ ks') (as ++ as')
  | [], _, [], _, _, h' => h'
  | [], _, _ :: _, _, h, _ => h.elim
  | _ :: _, _, [], _, h, _ => h.elim
  | _ :: _, _, _ :: _, _, h, h' => ⟨h.1, okKs_append h.2 h'⟩

section
variable {H : Type} {enc : TypeId × Value → H} {P : Program} {w : World} {base : Nat} {spare : Nat → Bool} {held : Bool}

theorem cellsOf_of {t : TypeId} {n : Nat} (h : szOf P t = some n) : P.cellsOf t = n := by
  unfold szOf at h
  unfold Program.cellsOf
  rw [h]; rfl

theorem wf_range {k : IntKind} {n : Int} (h : (Lit.int k n).wf = true) : k.min ≤ n ∧ n ≤ k.max := by
  simpa [Lit.wf] using h

/-- What one flat type's reading says of the cells. -/
def FlatRead (ks : List SK) (cs : List Value) (x : DataW H × List MemPlace) : Prop := x.2 = [] ∧ cs.length = ks.length ∧ ∃ as, RL [] as cs ∧ okKs ks as

theorem take_add {α : Type} (l : List α) (a b : Nat) : l.take (a + b) = l.take a ++ (l.drop a).take b := by
  rw [List.take_add]

theorem flatFs_read {F : TypeId → Option (List SK)} {n : Nat} {cs : List Value}
    (ih : ∀ {t : TypeId} {ks : List SK} {cs : List Value} {x : DataW H × List MemPlace}, F t = some ks → DataW.trod enc P w base spare held n t cs = some x → FlatRead ks cs x) :
    ∀ (fs : List Field) (off : Nat) (ks : List SK) (xs : List (DataW H × List MemPlace)), flatFs P F off fs = some ks → off ≤ cs.length → xs.length = fs.length →
      (∀ (i : Nat) (f : Field), fs[i]? = some f → DataW.trod enc P w base spare held n f.type ((cs.drop f.offset).take (P.cellsOf f.type)) = xs[i]?) →
      xs.flatMap (·.2) = [] ∧ off + ks.length ≤ cs.length ∧ ∃ as, RL [] as ((cs.drop off).take ks.length) ∧ okKs ks as
  | [], off, ks, xs, h, ho, hl, hf => by
    simp [flatFs] at h
    subst h
    have : xs = [] := by simpa using hl
    subst this
    exact ⟨rfl, by simpa using ho, [], by simpa using RL.nil, trivial⟩
  | f :: fs, off, ks, xs, h, ho, hl, hf => by
    unfold flatFs at h
    split at h
    · rename_i ks1 n1 h1 h2
      cases hc : (f.offset.beq off && n1.beq ks1.length && !(f.name == "_") && Nat.blt 0 ks1.length) with
      | false => rw [hc] at h; simp at h
      | true =>
        rw [hc] at h
        simp only [cond_true] at h
        simp only [Bool.and_eq_true] at hc
        obtain ⟨⟨⟨c1, c2⟩, _⟩, _⟩ := hc
        have c1 := Nat.eq_of_beq_eq_true c1
        have c2 := Nat.eq_of_beq_eq_true c2
        split at h
        · rename_i r hr
          simp at h
          subst h
          match xs, hl with
          | x :: xs, hl =>
            have h0 := hf 0 f rfl
            simp only [List.getElem?_cons_zero] at h0
            obtain ⟨p1, p2, as1, p3, p4⟩ := ih h1 h0
            rw [cellsOf_of h2, c1, c2] at p2 p3
            have hlen : off + ks1.length ≤ cs.length := by
              simp at p2; omega
            obtain ⟨q1, q2, as2, q3, q4⟩ := flatFs_read ih fs (off + ks1.length) r xs hr hlen (by simpa using hl) (fun i g hg => by simpa using hf (i + 1) g (by simpa using hg))
            refine ⟨by simp [p1, q1], by simp; omega, as1 ++ as2, ?_, okKs_append p4 q4⟩
            rw [List.length_append, take_add, List.drop_drop]
            exact RL.append p3 q3
        · simp at h
    · simp at h

theorem repK_length (ks : List SK) : ∀ n, (repK ks n).length = n * ks.length
  | 0 => by simp [repK]
  | n + 1 => by simp [repK, repK_length ks n, Nat.add_mul, Nat.add_comm]

theorem flatArr_read {n : Nat} {e : TypeId} {ks : List SK} {cs : List Value} (he : P.cellsOf e = ks.length)
    (ih : ∀ {cs : List Value} {x : DataW H × List MemPlace}, DataW.trod enc P w base spare held n e cs = some x → FlatRead ks cs x) :
    ∀ (m j : Nat) (xs : List (DataW H × List MemPlace)), xs.length = m → j * ks.length ≤ cs.length →
      (∀ i, i < m → DataW.trod enc P w base spare held n e ((cs.drop ((j + i) * ks.length)).take ks.length) = xs[i]?) →
      xs.flatMap (·.2) = [] ∧ (j + m) * ks.length ≤ cs.length ∧ ∃ as, RL [] as ((cs.drop (j * ks.length)).take (m * ks.length)) ∧ okKs (repK ks m) as
  | 0, j, xs, hl, hj, hf => by
    have : xs = [] := by simpa using hl
    subst this
    exact ⟨rfl, by simpa using hj, [], by simpa using RL.nil, trivial⟩
  | m + 1, j, x :: xs, hl, hj, hf => by
    have h0 := hf 0 (by omega)
    simp only [Nat.add_zero, List.getElem?_cons_zero] at h0
    obtain ⟨p1, p2, as1, p3, p4⟩ := ih h0
    have hlen : (j + 1) * ks.length ≤ cs.length := by
      simp at p2
      rw [Nat.add_mul, Nat.one_mul]; omega
    obtain ⟨q1, q2, as2, q3, q4⟩ := flatArr_read he ih m (j + 1) xs (by simpa using hl) hlen (fun i hi => by
      have := hf (i + 1) (by omega)
      rw [Nat.add_comm i 1, ← Nat.add_assoc] at this
      rw [Nat.add_comm 1 i] at this
      simpa using this)
    refine ⟨by simp [p1, q1], by rw [Nat.add_comm m 1, ← Nat.add_assoc]; exact q2, as1 ++ as2, ?_, okKs_append p4 q4⟩
    rw [show (m + 1) * ks.length = ks.length + m * ks.length by rw [Nat.add_mul]; omega, take_add, List.drop_drop]
    refine RL.append p3 ?_
    rw [show j * ks.length + ks.length = (j + 1) * ks.length by rw [Nat.add_mul]; omega]
    exact q3
  | m + 1, j, [], hl, _, _ => by simp at hl

theorem flat_read : ∀ (d fuel : Nat) {t : TypeId} {ks : List SK} {cs : List Value} {x : DataW H × List MemPlace}, flatT P d t = some ks → P.cellsOf t = ks.length → DataW.trod enc P w base spare held fuel t cs = some x → FlatRead ks cs x
  | 0, _, t, ks, cs, x, h, _, _ => by simp [flatT] at h
  | d + 1, fuel, t, ks, cs, x, h, hlen, hx => by
    unfold flatT at h
    split at h
    · rename_i k hu
      simp at h; subst h
      obtain ⟨n, rfl, rfl, hw⟩ := DataW.trod_int hu hx
      exact ⟨rfl, rfl, [.i k n], .cons (.i k n) .nil, ⟨rfl, wf_range hw⟩, trivial⟩
    · rename_i hu
      simp at h; subst h
      obtain ⟨b, rfl, rfl⟩ := DataW.trod_bool hu hx
      exact ⟨rfl, rfl, [.b b], .cons (.b b) .nil, trivial, trivial⟩
    · rename_i hu
      simp at h; subst h
      obtain ⟨s, rfl, rfl, hw⟩ := DataW.trod_string hu hx
      exact ⟨rfl, rfl, [.s s], .cons (.s s) .nil, hw, trivial⟩
    · rename_i fs hu
      cases hs : P.stoodInHeld t with
      | true => rw [hs] at h; simp at h
      | false =>
        rw [hs] at h
        simp only [cond_false] at h
        obtain ⟨xs, n, rfl, rfl, hl, hn, hf⟩ := DataW.trod_struct hu hx
        have key := flatFs_read (enc := enc) (P := P) (w := w) (base := base) (spare := spare) (held := held) (F := fun t => match flatT P d t with | some ks => if P.cellsOf t = ks.length then some ks else none | none => none) (n := n) (cs := cs)
          (fun {t ks cs x} h hx => by
            split at h
            · rename_i ks' hk
              split at h
              · rename_i hc
                simp at h; subst h
                exact flat_read d n hk hc hx
              · simp at h
            · simp at h) fs.toList 0 ks xs ?_ (by omega) (by simpa using hn) (fun i f hi => hf i f (by simpa using hi))
        · obtain ⟨k1, k2, as, k3, k4⟩ := key
          refine ⟨k1, by omega, as, ?_, k4⟩
          have : cs.length = ks.length := by omega
          rw [List.drop_zero, ← this, List.take_length] at k3
          exact k3
        · clear hl hf hn hx xs hs hlen hu
          generalize fs.toList = l at h
          generalize (0 : Nat) = off at h ⊢
          induction l generalizing off ks with
          | nil => simpa [flatFs] using h
          | cons f l ihl =>
            unfold flatFs at h ⊢
            split at h
            · rename_i ks1 n1 h1 h2
              simp only [h1, h2]
              cases hc : (f.offset.beq off && n1.beq ks1.length && !(f.name == "_") && Nat.blt 0 ks1.length) with
              | false => rw [hc] at h; simp at h
              | true =>
                rw [hc] at h
                simp only [Bool.and_eq_true] at hc
                have c2 := Nat.eq_of_beq_eq_true hc.1.1.2
                rw [if_pos ((cellsOf_of h2).trans c2)]
                simp only [cond_true] at h
                simp only [hc.1.1.1, hc.1.1.2, hc.1.2, hc.2, Bool.and_self, cond_true]
                split at h
                · rename_i r hr
                  rw [ihl r (off + ks1.length) hr]; exact h
                · simp at h
            · simp at h
    · rename_i m e hu
      split at h
      · rename_i ks1 s h1 h2
        cases hc : (s.beq ks1.length && Nat.blt 0 ks1.length) with
        | false => rw [hc] at h; simp at h
        | true =>
          rw [hc] at h
          simp only [cond_true, Option.some.injEq] at h
          subst h
          simp only [Bool.and_eq_true] at hc
          have he : P.cellsOf e = ks1.length := (cellsOf_of h2).trans (Nat.eq_of_beq_eq_true hc.1)
          obtain ⟨xs, n, rfl, rfl, hl, hn, hf⟩ := DataW.trod_array hu hx
          obtain ⟨k1, k2, as, k3, k4⟩ := flatArr_read (enc := enc) (P := P) (w := w) (base := base) (spare := spare) (held := held) (cs := cs) he (fun hx => flat_read d n h1 he hx) m 0 xs hn (by omega) (fun i hi => by
            have := hf i hi
            rw [he] at this
            simpa using this)
          rw [repK_length] at hlen
          refine ⟨k1, by rw [repK_length]; omega, as, ?_, k4⟩
          rw [Nat.zero_mul, List.drop_zero, ← hlen, ← hl, List.take_length] at k3
          exact k3
      · simp at h
    · simp at h
end

theorem range_i64 {n : Int} (h : IntKind.i64.min ≤ n ∧ n ≤ IntKind.i64.max) : -9223372036854775808 ≤ n ∧ n < 9223372036854775808 := by
  have h1 : IntKind.i64.min = -9223372036854775808 := by decide
  have h2 : IntKind.i64.max = 9223372036854775807 := by decide
  omega
theorem range_u64 {n : Int} (h : IntKind.u64.min ≤ n ∧ n ≤ IntKind.u64.max) : 0 ≤ n ∧ n < 18446744073709551616 := by
  have h1 : IntKind.u64.min = 0 := by decide
  have h2 : IntKind.u64.max = 18446744073709551615 := by decide
  omega
theorem trodAll_len {H : Type} {enc : TypeId × Value → H} {P : Program} {w : World} {base : Nat} {spare : Nat → Bool} {held : Bool} : ∀ {ts : List TypeId} {vs : List Value} {ds : List (DataW H)} {ps : List MemPlace}, DataW.TrodAll enc P w base spare held ts vs ds ps → ds.length = ts.length
  | [], vs, ds, ps, h => by
    obtain ⟨rfl, rfl, rfl⟩ := trodAll_nil h
    rfl
  | t :: ts, vs, ds, ps, h => by
    obtain ⟨v, vs1, d, ds1, a, b, rfl, rfl, rfl, _, h2⟩ := trodAll_cons h
    simp [trodAll_len h2]

/-! ### A caller's values -/
/-- A parameter's type: flat, a structure of one or more scalars or one scalar. -/
def flatP (P : Program) (t : TypeId) : Option (Bool × List SK) :=
  match flatT P 20 t, P.underlying t with
  | some ks, some d => cond (Nat.beq (P.cellsOf t) ks.length) (some (aggD d, ks)) none
  | _, _ => none
def okArg : Bool × List SK → AV → Prop
  | (true, ks), .agg as => okKs ks as
  | (false, [k]), a => okK k a
  | _, _ => False
def okArgs : List (Bool × List SK) → List AV → Prop
  | [], [] => True
  | k :: ks, a :: as => okArg k a ∧ okArgs ks as
  | _, _ => False
def flatPs (P : Program) : List TypeId → Option (List (Bool × List SK))
  | [] => some []
  | t :: ts => match flatP P t, flatPs P ts with
    | some k, some ks => cond (P.readableRec t && Nat.blt t P.types.size) (some (k :: ks)) none
    | _, _ => none

theorem flatP_arg {H : Type} {enc : TypeId × Value → H} {P : Program} {w : World} {t : TypeId} {v : Value} {d : DataW H} {ps : List MemPlace} {k : Bool × List SK} {base : Nat} (hk : flatP P t = some k)
    (hv : Value.okWide P w .any base t v) (h : DataW.Trod enc P w 0 (fun _ => true) true t v d ps) : ps = [] ∧ ∃ a, R [] a v ∧ okArg k a := by
  unfold flatP at hk
  split at hk
  · rename_i ks d hf hu
    cases hc : Nat.beq (P.cellsOf t) ks.length with
    | false => rw [hc] at hk; simp at hk
    | true =>
      rw [hc] at hk
      simp only [cond_true, Option.some.injEq] at hk
      subst hk
      have hc := Nat.eq_of_beq_eq_true hc
      obtain ⟨fuel, h⟩ := h
      obtain ⟨h1, h2, as, h3, h4⟩ := flat_read 20 fuel hf hc h
      refine ⟨h1, ?_⟩
      unfold Value.okWide at hv
      rw [hu] at hv
      split at hv
      · rename_i fs e
        simp at e; subst e
        obtain ⟨cs, rfl, _, _⟩ := hv
        exact ⟨.agg as, .agg (by simpa [Value.cells] using h3), h4⟩
      · rename_i n el e
        simp at e; subst e
        obtain ⟨cs, rfl, _, _⟩ := hv
        exact ⟨.agg as, .agg (by simpa [Value.cells] using h3), h4⟩
      · rename_i n1 n2
        have hag : aggD d = false := by
          cases d <;> first | rfl | (exact absurd rfl (n1 _)) | (exact absurd rfl (n2 _ _))
        rw [hag]
        have hone : ∃ k, ks = [k] := by
          unfold flatT at hf
          rw [hu] at hf
          split at hf
          · exact ⟨_, (by simpa using hf.symm)⟩
          · exact ⟨_, (by simpa using hf.symm)⟩
          · exact ⟨_, (by simpa using hf.symm)⟩
          · rename_i e; simp at e; subst e; simp [aggD] at hag
          · rename_i e; simp at e; subst e; simp [aggD] at hag
          · simp at hf
        obtain ⟨k, rfl⟩ := hone
        match as, h4 with
        | [a], h4 =>
          have hc1 : v.cells.toList.length = 1 := by simpa using h2
          have hvc : v.cells = #[v] := by
            have hna : ∀ cs, v ≠ .agg cs := by
              rintro cs rfl
              simp only [Value.cells] at h3
              unfold flatT at hf
              rw [hu] at hf
              split at hf
              · rename_i e; simp at e; subst e; simp [Cell.okWide, Cell.ok, hu] at hv
              · rename_i e; simp at e; subst e; simp [Cell.okWide, Cell.ok, hu] at hv
              · rename_i e; simp at e; subst e; simp [Cell.okWide, Cell.ok, hu] at hv
              · rename_i e; simp at e; subst e; simp [aggD] at hag
              · rename_i e; simp at e; subst e; simp [aggD] at hag
              · simp at hf
            cases v <;> first | rfl | exact absurd rfl (hna _)
          rw [hvc] at h3
          simp only [List.toArray] at h3
          cases h3 with
          | cons h t => exact ⟨a, h, h4.1⟩
  · simp at hk

theorem flatPs_args {H : Type} {enc : TypeId × Value → H} {P : Program} {w : World} {base : Nat} : ∀ {ts : List TypeId} {ks : List (Bool × List SK)} {vs : List Value} {ds : List (DataW H)} {ps : List MemPlace}, flatPs P ts = some ks →
    (∀ (j : Nat) t v, ts[j]? = some t → vs[j]? = some v → Value.okWide P w .any base t v) → DataW.TrodAll enc P w 0 (fun _ => true) true ts vs ds ps → ps = [] ∧ ∃ as, RL [] as vs ∧ okArgs ks as
  | [], ks, vs, ds, ps, hk, hv, h => by
    obtain ⟨rfl, rfl, rfl⟩ := trodAll_nil h
    simp [flatPs] at hk; subst hk
    exact ⟨rfl, [], .nil, trivial⟩
  | t :: ts, ks, vs, ds, ps, hk, hv, h => by
    obtain ⟨v, vs', d, ds', p, q, rfl, rfl, rfl, hd, hrest⟩ := trodAll_cons h
    unfold flatPs at hk
    split at hk
    · rename_i k ks' h1 h2
      cases hc : (P.readableRec t && Nat.blt t P.types.size) with
      | false => rw [hc] at hk; simp at hk
      | true =>
        rw [hc] at hk; simp only [cond_true, Option.some.injEq] at hk; subst hk
        obtain ⟨rfl, a, ha, ka⟩ := flatP_arg h1 (hv 0 t v rfl rfl) hd
        obtain ⟨rfl, as, has, kas⟩ := flatPs_args h2 (fun j t v h1 h2 => hv (j + 1) t v (by simpa using h1) (by simpa using h2)) hrest
        exact ⟨rfl, a :: as, .cons ha has, ka, kas⟩
    · simp at hk

theorem flatPs_again {H : Type} {enc : TypeId × Value → H} {P : Program} (hl : laidOutB P = true) {W W' : World} (hb : Below W.heap.size W W') {sp : Nat → Bool} : ∀ {ts : List TypeId} {ks : List (Bool × List SK)} {vs : List Value} {ds : List (DataW H)} {ps : List MemPlace}, flatPs P ts = some ks →
    (∀ x ∈ ps, x.block < W.heap.size ∧ sp x.block = true) → DataW.TrodAll enc P W 0 (fun _ => true) true ts vs ds ps → DataW.TrodAll enc P W' 0 sp true ts vs ds ps
  | [], ks, vs, ds, ps, hk, hp, h => by
    obtain ⟨rfl, rfl, rfl⟩ := trodAll_nil h
    rfl
  | t :: ts, ks, vs, ds, ps, hk, hp, h => by
    obtain ⟨v, vs', d, ds', p, q, rfl, rfl, rfl, hd, hrest⟩ := trodAll_cons h
    unfold flatPs at hk
    split at hk
    · rename_i k ks' h1 h2
      cases hc : (P.readableRec t && Nat.blt t P.types.size) with
      | false => rw [hc] at hk; simp at hk
      | true =>
        simp only [Bool.and_eq_true] at hc
        exact ⟨p, q, WideElems.Trod_stays hl hc.1 (by simpa using hc.2) hd (fun x hx => hb.same (hp x (List.mem_append_left _ hx)).1) (fun x hx => (hp x (List.mem_append_left _ hx)).2), flatPs_again hl hb h2 (fun x hx => hp x (List.mem_append_right _ hx)) hrest, rfl⟩
    · simp at hk

section
variable {H : Type} {enc : TypeId × Value → H} {P : Program}
theorem post_of_below {f : Func} {s : ChangeSpec} {apart fresh handsOn again : Bool} {W W' : World} {args : Array Value} {v : Value} {ds gs : List (DataW H)} {before pa pv : List MemPlace}
    (hW : DataW.Whole enc P f.params.toList s.vars apart W args.toList ds gs before)
    (hres : ∀ (b : Nat) (sp : Nat → Bool) (hd : Bool), DataW.TrodAll enc P W' b sp hd f.resultTypes.toList (v.resultList f.resultTypes.size) (s.fn H (ds ++ gs)).results [])
    (hargs : ∀ sp : Nat → Bool, (∀ p ∈ before, sp p.block = true) → DataW.TrodAll enc P W' 0 sp true f.params.toList args.toList (s.fn H (ds ++ gs)).args pa)
    (hvars : ∀ sp : Nat → Bool, (∀ p ∈ before, sp p.block = true) → DataW.TrodVars enc P W' sp s.vars (s.fn H (ds ++ gs)).vars pv)
    (hps : before = pa ++ pv) (hb : Below W.heap.size W W')
    (hok : ∀ (j : Nat) (t : TypeId) (r : Value), f.resultTypes[j]? = some t → (v.resultList f.resultTypes.size)[j]? = some r → Value.okWide P W' .any 0 t r) :
    s.post enc P f apart fresh handsOn again W args v W' := by
  have hlt : ∀ p ∈ before, p.block < W.heap.size := fun p hp => hW.lt p hp
  have hold : ∀ p ∈ before, (fun b => decide (b < W.heap.size)) p.block = true := fun p hp => by simpa using hlt p hp
  refine ⟨ds, gs, before, [], pa, pv, hW, hres _ _ _, hargs _ hold, hvars _ hold, World.keptBut_mono (fun p hp => ⟨hp, ?_⟩) (hb.frame (· ∈ before)), fun _ => ?_⟩
  · rw [hps, List.mem_append] at hp
    exact Or.inr hp
  · obtain ⟨_, _, _, _, _, hz, hn⟩ := hW
    refine ⟨hok, _, _, ([] ++ pa) ++ pv, ⟨[] ++ pa, pv, trodAll_append (hargs _ (fun _ _ => rfl)) (hres _ _ _), hvars _ (fun _ _ => rfl), rfl, ?_, ?_⟩, ?_⟩
    · intro b off hp
      have hin : MemPlace.cell b off ∈ before := by rw [hps]; simpa using hp
      rw [hb.frozen (hlt _ hin)]
      exact hz b off hin
    · intro ha
      have := hn ha
      rw [hps] at this
      simpa using this
    · intro p hp _
      rw [hps]
      simpa using hp
end

/-- A law's function answers true whatever its arguments: the change it makes, as its row wants it. Flat parameters only. -/
theorem flat_lifted {C : Checked} {os : Os} {f : FuncId} {fn : Func} {s : ChangeSpec} {H : Type} {enc : TypeId × Value → H} {S : NSpec} {ks : List (Bool × List SK)} {tb : TypeId} {conds : List PathCond}
    (own : ownKnob C.prog.godebug = none) (started : os.Started) (noInit : C.prog.inits.idxOf? f = none) (hfn : C.prog.funcs[f]? = some fn)
    (witness : ∃ (w : World) (tape : Tape) (i : Input), w.os = os ∧ (w.forCall tape i).Shaped C.prog ∧ i.vars = [] ∧ Input.okWide C.prog (w.forCall tape i) .any w.heap.size f i ∧
      s.pre6 enc C.prog fn conds false (w.forCall tape i).memory i.args ∧ ({} : Assume).holds C.prog (lone (Frame.enter C.prog f i.args .normal) [] (w.forCall tape i)))
    (hl : laidOutB C.prog = true) (hks : flatPs C.prog fn.params.toList = some ks) (hvars : s.vars = []) (hres : fn.resultTypes = #[tb]) (htb : C.prog.underlying tb = some .bool)
    (hspec : ∀ (W : World) (vs : List Value) (ds : List (DataW H)) (ps : List MemPlace), DataW.TrodAll enc C.prog W 0 (fun _ => true) true fn.params.toList vs ds ps → s.fn H ds = { results := [.lit (.bool true)], args := ds })
    (sound : SoundN C.prog f S) (all : ∀ as, okArgs ks as → S as [] fun a => a = .b true) :
    ReturnsInHanded {} C os f .any (s.pre6 enc C.prog fn conds false) (s.post enc C.prog fn false true false false) := by
  refine returnsInHanded_of_change (C := C) own started noInit hfn witness ?_
  intro W base args ds gs before hval hW hcnd _
  have hW' := hW
  obtain ⟨p, q, hA, hV, rfl, hfz, hnd⟩ := hW
  rw [hvars] at hV
  obtain ⟨rfl, rfl⟩ := trodVars_none hV
  obtain ⟨rfl, as, has, kas⟩ := flatPs_args hks (fun j t v h1 h2 => hval j t v (by simpa using h1) (by simpa using h2)) hA
  obtain ⟨hg, hcall⟩ := sound as [] (fun a => a = .b true) (all as kas)
  have hc := hcall W [] W args.toList has (Rel.empty W)
  rw [Array.toArray_toList] at hc
  refine hc.mono fun e W' ⟨v, av, he, hv, hr, hk⟩ => ?_
  subst hk
  cases hv
  refine ⟨_, he, ?_⟩
  have hsp := hspec W _ _ _ hA
  have hb : Below W.heap.size W W' := hr.below
  refine post_of_below (pa := []) (pv := []) hW' (fun b sp hd => ?_) (fun sp _ => ?_) (fun sp _ => ?_) rfl hb (ok_one hres rfl (okWide_bool_mk htb _))
  · rw [List.append_nil, hsp, hres]
    exact trodAll_mk1 (shut_bool htb _)
  · rw [List.append_nil, hsp]
    exact flatPs_again (enc := enc) hl hb hks (fun x hx => nomatch hx) hA
  · rw [List.append_nil, hsp, hvars]
    rfl

end Go.Proofs.Ytpfmnmcpffajeaa.V
