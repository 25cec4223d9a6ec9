/-
  A second semantics of Go's operations. Part 7: all instructions, and that they are sound.
-/
import Derived.Test.YtkmhmabkahaekaaVf
set_option linter.unusedVariables false
set_option linter.unusedSimpArgs false
namespace Go.Proofs.Ytkmhmabkahaekaa.V
open Go Go.RowKit

abbrev K1 := AV → Heap → Prop
abbrev NSpec := List AV → Heap → (AV → Prop) → Prop
abbrev Spec := List AV → Heap → K1 → Prop
structure Gam where
  n : FuncId → NSpec
  g : FuncId → Spec

def undefA : AV := .v undef

def okCell : AV → Bool
  | .agg _ => false
  | .tup _ => false
  | .v x => x.oneCell'
  | _ => true

theorem okCell_sound {ρ : List Loc} {a : AV} {v : Value} (h : R ρ a v) (hk : okCell a = true) : v.oneCell' = true := by
  cases h <;> first | rfl | (simp [okCell] at hk; done) | exact hk

theorem okCells_sound {ρ : List Loc} : ∀ {as : List AV} {vs : List Value}, RL ρ as vs → as.all okCell = true → ∀ v ∈ vs, v.oneCell' = true
  | [], [], _, _ => by simp
  | a :: as, v :: vs, h, hk => by
    cases h with | cons h t =>
    simp only [List.all_cons, Bool.and_eq_true] at hk
    intro u hu
    rcases List.mem_cons.1 hu with rfl | hu
    · exact okCell_sound h hk.1
    · exact okCells_sound t hk.2 u hu
  | [], _ :: _, h, _ => nomatch h
  | _ :: _, [], h, _ => nomatch h

def val (Γ : Gam) (m : MI) (t : List AV) (H : Heap) (K : K1) : Prop :=
  match m with
  | .load x => match ev t x with
    | .ptr id ix c => blkAt H id fun B => asr (Nat.blt ix B.n) (match (B.f ix)[c]? with
      | some a => K a H
      | none => False)
    | _ => False
  | .loadn n x => match ev t x with
    | .ptr id ix c => blkAt H id fun B => asr (Nat.blt ix B.n) (asr (Nat.ble (c + n) (B.f ix).length) (K (.agg (((B.f ix).drop c).take n)) H))
    | _ => False
  | .box ty x => K (.ptr H.length 0 0) (H ++ [lit ty (cellsA (ev t x))])
  | .alloc ty zs => K (.ptr H.length 0 0) (H ++ [lit ty zs])
  | .bslice ty len zs parts => match fillA zs (parts.map (evp t)) with
    | some cs => K (.slc H.length 0 0 len len) (H ++ [lit ty cs])
    | none => False
  | .store n x v => match ev t x with
    | .ptr id ix c => blkAt H id fun B => asr (B.own && Nat.blt ix B.n && (cellsA (ev t v)).length.beq n && Nat.ble (c + n) (B.f ix).length && (cellsA (ev t v)).all okCell)
        (K undefA (H.set id (some (B.put ix c (cellsA (ev t v))))))
    | _ => False
  | .callN f args => Γ.n f (args.map (ev t)) H fun a => K a H
  | .callG f args => Γ.g f (args.map (ev t)) H K
  | .callV x args => match ev t x with
    | .fn f caps => Γ.g f (args.map (ev t) ++ caps) H K
    | _ => False
  | .bad => False
  | m => pval m t fun a => K a H

def goesTo (P : Program) (f : FuncId) : Bool :=
  match P.funcs[f]? with
  | some fn => fn.body.isSome && !(fn.name == "runtime.NumGoroutine")
  | none => false

def SoundN (P : Program) (f : FuncId) (S : NSpec) : Prop := ∀ args H K, S args H K → goesTo P f = true ∧ ∀ w0 ρ w vs, RL ρ args vs → Rel w0 ρ H w →
  Calls P f vs.toArray w fun e w' => ∃ v av, e = .returned v ∧ R ρ av v ∧ Rel w0 ρ H w' ∧ K av
def SoundG (P : Program) (f : FuncId) (S : Spec) : Prop := ∀ args H K, S args H K → goesTo P f = true ∧ ∀ w0 ρ w vs, RL ρ args vs → Rel w0 ρ H w →
  Calls P f vs.toArray w fun e w' => ∃ v av ρ' H', e = .returned v ∧ ρ <+: ρ' ∧ R ρ' av v ∧ Rel w0 ρ' H' w' ∧ K av H'
structure Gam.ok (P : Program) (Γ : Gam) : Prop where
  n : ∀ f, SoundN P f (Γ.n f)
  g : ∀ f, SoundG P f (Γ.g f)

/-- Instructions that leave all blocks as they are (they may make new ones). -/
def keeps : MI → Bool
  | .store .. | .callG .. | .callV .. | .app .. | .mksl .. => false
  | _ => true

def Done (w0 : World) (ρ : List Loc) (H : Heap) (nd : Bool) (K : K1) (v : Value) (w' : World) : Prop :=
  ∃ av ρ' H', ρ <+: ρ' ∧ (nd = true → H <+: H') ∧ R ρ' av v ∧ Rel w0 ρ' H' w' ∧ K av H'

def OutOK (P : Program) (w0 : World) (ρ : List Loc) (H : Heap) (nd : Bool) (K : K1) : Result Next → Prop
  | .ok (.value v) w' => Done w0 ρ H nd K v w'
  | .ok .skip w' => Done w0 ρ H nd K undef w'
  | .ok (.enter f args) w' => Calls P f args w' fun e w'' => ∃ v, e = .returned v ∧ Done w0 ρ H nd K v w''
  | _ => False

def OpOK (P : Program) (o : Oper) (a : Act) (w0 : World) (ρ : List Loc) (H : Heap) (nd : Bool) (w : World) (K : K1) : Prop := OutOK P w0 ρ H nd K ((execOp a.eval o).run P w)

def compM0 (P : Program) (eqs : TypeId → Option (List SK)) (neut : TypeId → Bool) (o : Oper) : Option MI :=
  match o.op with
  | .load t x => match cop x, P.underlying t, szOf P t with
    | some x, some d, some n => some (cond (aggD d) (.loadn n x) (.load x))
    | _, _, _ => none
  | .store t x v => match cop x, cop v, szOf P t with
    | some x, some v, some n => some (.store n x v)
    | _, _, _ => none
  | .box t x => (cop x).map (.box t)
  | .alloc t => (zeroOf P t).map (.alloc t)
  | .buildSlice t len parts => match P.underlying t with
    | some (.slice e) => match szOf P e, zeroOf P e with
      | some s, some zs => cond (Nat.ble (len * s) 16777216 && Nat.blt 0 (len * s) && Nat.blt 0 zs.length)
          ((partsM (fun i => some (i * s, s)) parts.toList).map (.bslice e len ((List.range (len * s)).map fun i => zs.getD (i % zs.length) undefA))) none
      | _, _ => none
    | _ => none
  | .call { callee := .value (.func f), args, .. } => (cops args.toList).map fun as => cond (neut f) (.callN f as) (.callG f as)
  | .call { callee := .value (.tmp x), args, .. } => (cops args.toList).map fun as => .callV (.t x) as
  | _ => compP P eqs o

/-- What isn't served must not be carried out. -/
def compM (P : Program) (eqs : TypeId → Option (List SK)) (neut : TypeId → Bool) (o : Oper) : Option MI :=
  match compM0 P eqs neut o with
  | some m => some m
  | none => some .bad

theorem compM_cases {P : Program} {eqs : TypeId → Option (List SK)} {neut : TypeId → Bool} {o : Oper} {mi : MI} (h : compM P eqs neut o = some mi) : mi = .bad ∨ compM0 P eqs neut o = some mi := by
  unfold compM at h
  split at h
  · rename_i m hm
    exact .inr (by rw [hm]; exact h)
  · simp at h; exact .inl h.symm

theorem Done.same {w0 w : World} {ρ : List Loc} {H : Heap} {nd : Bool} {K : K1} (h : Rel w0 ρ H w) {v : Value} {av : AV} (hr : R ρ av v) (hk : K av H) : Done w0 ρ H nd K v w :=
  ⟨av, ρ, H, List.prefix_refl _, fun _ => List.prefix_refl _, hr, h, hk⟩

theorem run_call {P : Program} {f : FuncId} (h : goesTo P f = true) (args : Array Value) (w : World) : (callFunc f args).run P w = .ok (.enter f args) w := by
  unfold goesTo at h
  split at h
  · rename_i fn hf
    simp only [Bool.and_eq_true, Bool.not_eq_true'] at h
    have hb : fn.body.isNone = false := by cases e : fn.body <;> simp_all
    unfold callFunc
    simp only [Sem.run_bind, run_program, Result.andThen_ok, hf, h.2, hb, Bool.false_eq_true, if_false]
    rfl
  · simp at h

theorem load_cells {P : Program} {w0 w : World} {ρ : List Loc} {H : Heap} (h : Rel w0 ρ H w) {id ix c n b o e : Nat} {B : Blk} (hB : H[id]? = some (some B)) (hρ : ρ[id]? = some (b, o, e)) (hix : ix < B.n)
    (hle : c + n ≤ (B.f ix).length) : ∃ vs : List Value, (loadCells ⟨b, o + ix * e + c, none⟩ n).run P w = .ok vs.toArray w ∧ RL ρ (((B.f ix).drop c).take n) vs := by
  obtain ⟨b1, o1, k1, k2⟩ := h.blk id B hB
  rw [hρ] at k1
  simp at k1
  obtain ⟨rfl, rfl, rfl⟩ := k1
  have hget : ∀ j, j < n → ∃ v, w.cell? ⟨b, o + ix * B.esz + c + j, none⟩ = some v ∧ R ρ ((B.f ix).getD (c + j) undefA) v := fun j hj => by
    have hlt : c + j < (B.f ix).length := by omega
    obtain ⟨v, g1, g2⟩ := k2.cell ix (c + j) _ hix (List.getElem?_eq_getElem hlt)
    refine ⟨v, by rw [← g1, Nat.add_assoc], ?_⟩
    rw [List.getD_eq_getElem?_getD, List.getElem?_eq_getElem hlt]
    exact g2
  let f : Nat → Value := fun j => if hj : j < n then Classical.choose (hget j hj) else undef
  have hf : ∀ j, j < n → w.cell? (Addr.add ⟨b, o + ix * B.esz + c, none⟩ j) = some (f j) := fun j hj => by
    rw [add_at]
    simp only [f, dif_pos hj]
    exact (Classical.choose_spec (hget j hj)).1
  refine ⟨(List.range n).map f, ?_, ?_⟩
  · have := run_loadCells (P := P) w ⟨b, o + ix * B.esz + c, none⟩ n f hf
    rw [this]
  · refine RL.of (by simp; omega) fun j a hj => ?_
    have hjn : j < n := by
      have := (List.getElem?_eq_some_iff.1 hj).1
      simp at this; omega
    refine ⟨f j, by simp [hjn], ?_⟩
    simp only [f, dif_pos hjn]
    have := (Classical.choose_spec (hget j hjn)).2
    rw [List.getElem?_take_of_lt hjn, List.getElem?_drop] at hj
    have ha : (B.f ix).getD (c + j) undefA = a := by rw [List.getD_eq_getElem?_getD, hj]; rfl
    rw [← ha]
    exact this

theorem new_sound {w0 w : World} {ρ : List Loc} {H : Heap} (h : Rel w0 ρ H w) {K : K1} {t : TypeId} {cs : List AV} {vs : Array Value} (hc : RL ρ cs vs.toList) {av : AV} {v : Value}
    (hr : ∀ ρ' : List Loc, ρ'[H.length]? = some (w.heap.size, 0, cs.length) → R ρ' av v) (hk : K av (H ++ [lit t cs])) {nd : Bool} : Done w0 ρ H nd K v { w with heap := w.heap.push (.cells vs t) } :=
  ⟨av, ρ ++ [(w.heap.size, 0, cs.length)], H ++ [lit t cs], List.prefix_append .., fun _ => List.prefix_append .., hr _ (by rw [h.len]; simp), h.alloc hc, hk⟩

def pureM : MI → Bool
  | .load _ | .loadn .. | .box .. | .alloc .. | .bslice .. | .store .. | .callN .. | .callG .. | .callV .. | .app .. | .mksl .. | .bad => false
  | _ => true

theorem fldM_pure {P : Program} {t off : Nat} {x : MO} {mi : MI} (h : fldM P t off x = some mi) : pureM mi = true := by
  unfold fldM at h
  split at h
  · rename_i d n _ _
    simp at h
    cases hd : aggD d <;> rw [hd] at h <;> subst h <;> rfl
  · simp at h

theorem compP_pure {P : Program} {eqs : TypeId → Option (List SK)} {o : Oper} {mi : MI} (h : compP P eqs o = some mi) : pureM mi = true := by
  unfold compP at h
  (repeat' split at h) <;> first
    | (simp at h; done)
    | (simp at h; subst h; rfl)
    | (obtain ⟨_, _, rfl⟩ := map_some h; rfl)
    | exact fldM_pure h
    | (rename_i fields _ _
       cases hb : (fields.toList.all fun f => (szOf P f.type).isSome) <;> rw [hb] at h
       · simp at h
       · obtain ⟨_, _, rfl⟩ := map_some h; rfl)
    | (rename_i d s _ _
       cases hd : aggD d <;> rw [hd] at h
       · cases hs : s.beq 1 <;> rw [hs] at h
         · simp at h
         · simp at h; subst h; rfl
       · simp at h; subst h; rfl)

theorem val_pure {Γ : Gam} {mi : MI} {t : List AV} {H : Heap} {K : K1} (hp : pureM mi = true) (hv : val Γ mi t H K) : pval mi t fun a => K a H := by
  unfold val at hv
  split at hv <;> first | exact hv | simp [pureM] at hp

theorem val_sound0 {P : Program} {eqs : TypeId → Option (List SK)} {neut : TypeId → Bool} {Γ : Gam} (hΓ : Γ.ok P) {o : Oper} {mi : MI} {t : List AV} {a : Act} {w0 w : World} {ρ : List Loc} {H : Heap} {K : K1} (hE : ∀ ty ks, eqs ty = some ks → EqOK P ty ks)
    (hc : compM0 P eqs neut o = some mi) (hT : TR ρ t a) (hR : Rel w0 ρ H w) (hv : val Γ mi t H K) : OpOK P o a w0 ρ H (keeps mi) w K := by
  unfold compM0 at hc
  split at hc
  case h_1 ty x ho =>
    split at hc
    · rename_i m d n h1 h2 h3
      simp at hc
      have hr := ev_sound hT h1
      cases hagg : aggD d with
      | true =>
        rw [hagg] at hc
        simp only [cond_true] at hc
        subst hc
        simp only [val] at hv
        split at hv
        · rename_i id ix c he
          rw [he] at hr
          unfold blkAt at hv
          split at hv
          · rename_i B hB
            simp only [asr_iff] at hv
            obtain ⟨q1, q2, hk⟩ := hv
            cases hr1 : a.eval x <;> rw [hr1] at hr <;> cases hr
            rename_i b o' e' hρ
            obtain ⟨vs, g1, g2⟩ := load_cells (P := P) hR hB hρ (by simpa [Nat.blt_eq] using q1) (Nat.le_of_ble_eq_true q2)
            have : (execOp a.eval o).run P w = .ok (.value (.agg vs.toArray)) w := by
              simp [execOp, ho, hr1, Instr.loadAt, Instr.sureAddr, loadVar, run_agg h2, hagg, run_size h3, g1]
            unfold OpOK
            rw [this]
            exact Done.same hR (.agg g2) hk
          · exact hv.elim
        · exact hv.elim
      | false =>
        rw [hagg] at hc
        simp only [cond_false] at hc
        subst hc
        simp only [val] at hv
        split at hv
        · rename_i id ix c he
          rw [he] at hr
          unfold blkAt at hv
          split at hv
          · rename_i B hB
            simp only [asr_iff] at hv
            obtain ⟨q1, hk⟩ := hv
            split at hk
            · rename_i av hav
              cases hr1 : a.eval x <;> rw [hr1] at hr <;> cases hr
              rename_i b o' e' hρ
              obtain ⟨b1, o1, k1, k2⟩ := hR.blk id B hB
              rw [hρ] at k1
              simp at k1
              obtain ⟨rfl, rfl, rfl⟩ := k1
              obtain ⟨v, g1, g2⟩ := k2.cell ix c av (by simpa [Nat.blt_eq] using q1) hav
              have : (execOp a.eval o).run P w = .ok (.value v) w := by
                simp [execOp, ho, hr1, Instr.loadAt, Instr.sureAddr, loadVar, run_agg h2, hagg, g1]
              unfold OpOK
              rw [this]
              exact Done.same hR g2 hk
            · exact hk.elim
          · exact hv.elim
        · exact hv.elim
    · simp at hc
  case h_2 ty x y ho =>
    split at hc
    · rename_i m my n h1 h2 h3
      simp at hc; subst hc
      have hr := ev_sound hT h1
      have hry := ev_sound hT h2
      simp only [val] at hv
      split at hv
      · rename_i id ix c he
        rw [he] at hr
        unfold blkAt at hv
        split at hv
        · rename_i B hB
          simp only [asr_iff, Bool.and_eq_true] at hv
          obtain ⟨⟨⟨⟨⟨q1, q2⟩, q3⟩, q4⟩, q5⟩, hk⟩ := hv
          cases hr1 : a.eval x <;> rw [hr1] at hr <;> cases hr
          rename_i b o' e' hρ
          obtain ⟨b1, o1, k1, k2⟩ := hR.blk id B hB
          rw [hρ] at k1
          simp at k1
          obtain ⟨rfl, rfl, rfl⟩ := k1
          obtain ⟨rfl, hb, cs, hcs⟩ := k2.own q1
          have hix : ix < B.n := by simpa [Nat.blt_eq] using q2
          have hcells := hry.cells
          have hlen := Nat.eq_of_beq_eq_true q3
          have hvl := hcells.length
          have hle := Nat.le_of_ble_eq_true q4
          have hvn : (a.eval y).cells.size = n := by
            have : (a.eval y).cells.toList.length = (a.eval y).cells.size := by simp
            omega
          have hput := hR.put (c := c) hB hρ k2 q1 hix hcells (by omega) (cs := cs.toList) (by simpa using hcs)
          have hsz : ix * B.esz + c + (a.eval y).cells.toList.length ≤ cs.toList.length := by
            rcases Nat.eq_zero_or_pos n with h0 | h0
            · rcases Nat.eq_zero_or_pos (B.f ix).length with h5 | h5
              · have hw := k2.wide ix hix
                rw [h5] at hw
                have hc0 : c = 0 := by omega
                rw [← hw, hc0, ← hvl, hlen, h0]
                simp
              · have hl : (B.f ix).length - 1 < (B.f ix).length := by omega
                obtain ⟨v, g1, _⟩ := k2.cell ix ((B.f ix).length - 1) _ hix (List.getElem?_eq_getElem hl)
                simp only [World.cell?, hcs] at g1
                have := (Array.getElem?_eq_some_iff.1 (by simpa using g1)).1
                simp at this ⊢
                simp at hvl
                omega
            · have hl : c + n - 1 < (B.f ix).length := by omega
              obtain ⟨v, g1, _⟩ := k2.cell ix (c + n - 1) _ hix (List.getElem?_eq_getElem hl)
              simp only [World.cell?, hcs] at g1
              have := (Array.getElem?_eq_some_iff.1 (by simpa using g1)).1
              simp at this hvl ⊢
              omega
          have hst := run_storeCells (P := P) (b := b) (off := 0 + ix * B.esz + c) (t := B.ty) (a.eval y).cells.toList 0 w cs.toList (by simpa using hcs) (by simpa using hsz) (okCells_sound hcells q5)
          have : (execOp a.eval o).run P w = .ok .skip (World.withRow w b (cs.toList.take (ix * B.esz + c) ++ (a.eval y).cells.toList ++ cs.toList.drop (ix * B.esz + c + (a.eval y).cells.toList.length)) B.ty) := by
            simp only [execOp, ho, hr1, Instr.storeAt, Instr.sureAddr, Sem.run_bind, Sem.run_pure, Result.andThen_ok, storeVar, run_size h3]
            rw [if_neg (fun hne => hne hvn)]
            rw [hst]
            simp
          unfold OpOK
          rw [this]
          exact ⟨undefA, ρ, _, List.prefix_refl _, fun h => by simp [keeps] at h, undef_R, hput, hk⟩
        · exact hv.elim
      · exact hv.elim
    · simp at hc
  case h_3 ty x ho =>
    obtain ⟨m, h1, rfl⟩ := map_some hc
    have hr := ev_sound hT h1
    simp only [val] at hv
    have : (execOp a.eval o).run P w = .ok (.value (.pointer (some ⟨w.heap.size, 0, none⟩))) { w with heap := w.heap.push (.cells (a.eval x).cells ty) } := by
      simp [execOp, ho, Instr.box, newVar, newRow]
    unfold OpOK
    rw [this]
    exact new_sound hR hr.cells (fun ρ' hρ => by have := R.ptr (ρ := ρ') (ix := 0) (c := 0) hρ; simpa using this) hv
  case h_4 ty ho =>
    obtain ⟨zs, h1, rfl⟩ := map_some hc
    simp only [val] at hv
    unfold zeroOf at h1
    split at h1
    · rename_i z hz
      have hcs := cavs_sound (ρ := ρ) h1
      have : (execOp a.eval o).run P w = .ok (.value (.pointer (some ⟨w.heap.size, 0, none⟩))) { w with heap := w.heap.push (.cells z.cells ty) } := by
        simp [execOp, ho, Instr.alloc, run_zero hz, newVar, newRow]
      unfold OpOK
      rw [this]
      exact new_sound hR hcs (fun ρ' hρ => by have := R.ptr (ρ := ρ') (ix := 0) (c := 0) hρ; simpa using this) hv
    · simp at h1
  case h_5 ty len parts ho =>
    split at hc
    · rename_i e hu
      split at hc
      · rename_i s zs hs hz
        cases hcnd : (Nat.ble (len * s) 16777216 && Nat.blt 0 (len * s) && Nat.blt 0 zs.length) with
        | false => simp [hcnd] at hc
        | true =>
          simp only [hcnd, cond_true] at hc
          obtain ⟨ps, h3, rfl⟩ := map_some hc
          simp only [Bool.and_eq_true] at hcnd
          obtain ⟨⟨c1, c2⟩, c3⟩ := hcnd
          have c1 := Nat.le_of_ble_eq_true c1
          have c2 : 0 < len * s := by simpa [Nat.blt_eq] using c2
          have c3 : 0 < zs.length := by simpa [Nat.blt_eq] using c3
          simp only [val] at hv
          split at hv
          · rename_i out hf
            unfold zeroOf at hz
            split at hz
            · rename_i z hz0
              have hcs := cavs_sound (ρ := ρ) hz
              have hzl : zs.length = z.cells.size := by simpa using hcs.length
              have hrow : RL ρ ((List.range (len * s)).map fun i => zs.getD (i % zs.length) undefA) (((Array.range (len * s)).map (fun i => z.cells[i % z.cells.size]!)).toList) := by
                refine RL.of (by simp) fun i av hi => ?_
                have hlt : i < len * s := by have := (List.getElem?_eq_some_iff.1 hi).1; simpa using this
                have hm : i % zs.length < zs.length := Nat.mod_lt _ c3
                simp [hlt, List.getElem?_eq_getElem hm] at hi
                obtain ⟨v, g1, g2⟩ := hcs.get (List.getElem?_eq_getElem hm)
                refine ⟨v, ?_, hi ▸ g2⟩
                rw [hzl] at g1 hm
                have g1' : z.cells[i % z.cells.size]? = some v := by simpa using g1
                simp [hlt, getElem!_def, g1']
              obtain ⟨r, g1, g2⟩ := fill_sound hT h3 hrow hf
              have : (execOp a.eval o).run P w = .ok (.value (.slice (some ⟨w.heap.size, 0, none⟩) len len)) { w with heap := w.heap.push (.cells r e) } := by
                simp only [execOp, ho, Instr.buildSlice, Sem.run_bind, run_underlying hu, Result.andThen_ok, run_size hs]
                rw [if_neg (by omega)]
                simp only [Sem.run_bind, Sem.run_pure, Result.andThen_ok]
                rw [if_neg (by omega)]
                simp only [Sem.run_bind, run_zero hz0, Result.andThen_ok, Sem.run_pure]
                rw [show ((parts.map fun (x : Nat × Operand) => (x.1, a.eval x.2)).toList) = (parts.toList.map fun (p : Nat × Operand) => (p.1, a.eval p.2)) from by simp, g1]
                rfl
              unfold OpOK
              rw [this]
              exact new_sound hR g2 (fun ρ' hρ => by have := R.slc (ρ := ρ') (ix := 0) (c := 0) (l := len) (cap := len) hρ; simpa using this) hv
            · simp at hz
          · exact hv.elim
      · simp at hc
    · simp at hc
  case h_6 f args ats ho =>
    obtain ⟨as, h1, rfl⟩ := map_some hc
    have hcs := cops_sound hT h1
    have hargs : (args.toList.map a.eval).toArray = args.map a.eval := by apply Array.ext'; simp
    have hrun : goesTo P f = true → (execOp a.eval o).run P w = .ok (.enter f (args.map a.eval)) w := fun hg => by
      simp [execOp, ho, resolve, Deferred.ofValue, invoke, Act.eval, run_call hg]
    cases hn : neut f with
    | true =>
      simp only [hn, cond_true, val] at hv ⊢
      obtain ⟨hg, hcall⟩ := hΓ.n f _ _ _ hv
      unfold OpOK
      rw [hrun hg, ← hargs]
      refine (hcall w0 ρ w _ hcs hR).mono fun e w' ⟨v, av, k1, k2, k3, k4⟩ => ⟨v, k1, av, ρ, H, List.prefix_refl _, fun _ => List.prefix_refl _, k2, k3, k4⟩
    | false =>
      simp only [hn, cond_false, val] at hv ⊢
      obtain ⟨hg, hcall⟩ := hΓ.g f _ _ _ hv
      unfold OpOK
      rw [hrun hg, ← hargs]
      refine (hcall w0 ρ w _ hcs hR).mono fun e w' ⟨v, av, ρ', H', k1, k2, k3, k4, k5⟩ => ⟨v, k1, av, ρ', H', k2, fun h => by simp [keeps] at h, k3, k4, k5⟩
  case h_7 x args ats ho =>
    obtain ⟨as, h1, rfl⟩ := map_some hc
    have hcs := cops_sound hT h1
    have hr := hT.get x
    simp only [val, ev] at hv
    split at hv
    · rename_i f caps he
      rw [he] at hr
      cases hr1 : a.tmps.getD x undef <;> rw [hr1] at hr <;> cases hr
      rename_i vs hvs
      obtain ⟨hg, hcall⟩ := hΓ.g f _ _ _ hv
      have hrun : (execOp a.eval o).run P w = .ok (.enter f (args.toList.map a.eval ++ vs).toArray) w := by
        have : (args.map a.eval) ++ vs.toArray = (args.toList.map a.eval ++ vs).toArray := by apply Array.ext'; simp
        simp only [execOp, ho, resolve, Act.eval, hr1, Deferred.ofValue, Sem.run_bind, Sem.run_pure, Result.andThen_ok, invoke]
        rw [← this]
        simpa using run_call hg (args.map a.eval ++ vs.toArray) w
      unfold OpOK
      rw [hrun]
      refine (hcall w0 ρ w _ (hcs.append hvs) hR).mono fun e w' ⟨v, av, ρ', H', k1, k2, k3, k4, k5⟩ => ⟨v, k1, av, ρ', H', k2, fun h => by simp [keeps] at h, k3, k4, k5⟩
    · exact hv.elim
  all_goals
    have hv' := val_pure (compP_pure hc) hv
    obtain ⟨v, av, k1, k2, k3⟩ := pure_sound hE hc hT hv'
    unfold OpOK
    rw [k1 w]
    exact Done.same hR k2 k3

theorem val_sound {P : Program} {eqs : TypeId → Option (List SK)} {neut : TypeId → Bool} {Γ : Gam} (hΓ : Γ.ok P) {o : Oper} {mi : MI} {t : List AV} {a : Act} {w0 w : World} {ρ : List Loc} {H : Heap} {K : K1} (hE : ∀ ty ks, eqs ty = some ks → EqOK P ty ks)
    (hc : compM P eqs neut o = some mi) (hT : TR ρ t a) (hR : Rel w0 ρ H w) (hv : val Γ mi t H K) : OpOK P o a w0 ρ H (keeps mi) w K := by
  rcases compM_cases hc with rfl | hc
  · exact hv.elim
  · exact val_sound0 hΓ hE hc hT hR hv
end Go.Proofs.Ytkmhmabkahaekaa.V
