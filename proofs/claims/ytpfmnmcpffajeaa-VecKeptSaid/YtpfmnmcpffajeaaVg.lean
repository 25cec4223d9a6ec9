/-
  A second semantics of Go's operations. Part 7: all instructions, and that they are sound.
-/
import Derived.Test.YtpfmnmcpffajeaaVf
import Derived.Laws.MakeOwn
import Derived.Laws.Externs
set_option linter.unusedVariables false
set_option linter.unusedSimpArgs false
namespace Go.Proofs.Ytpfmnmcpffajeaa.V
open Go Go.RowKit

abbrev K1 := AV → Heap → Prop
abbrev NSpec := List AV → Heap → (AV → Prop) → Prop
abbrev Spec := List AV → Heap → K1 → Prop
structure Gam where
  n : FuncId → NSpec
  g : FuncId → Spec
  lo : Nat

def undefA : AV := .v undef

def okCell : AV → Bool
  | .agg _ => false
  | .tup _ => false
  | .v x => x.oneCell'
  | _ => true

theorem okCell_sound {ρ : List Loc} {a : AV} {v : Value} (h : R ρ a v) (hk : okCell a = true) : v.oneCell' = true := by
  cases h <;> first | rfl | (simp [okCell] at hk; done) | exact hk

theorem okCells_sound {ρ : List Loc} : ∀ {as : List AV} {vs : List Value}, RL ρ as vs → as.all okCell = true → ∀ v ∈ vs, v.oneCell' = true
  | [], [], _, _ => by simp
  | a :: as, v :: vs, h, hk => by
    cases h with | cons h t =>
    simp only [List.all_cons, Bool.and_eq_true] at hk
    intro u hu
    rcases List.mem_cons.1 hu with rfl | hu
    · exact okCell_sound h hk.1
    · exact okCells_sound t hk.2 u hu
  | [], _ :: _, h, _ => nomatch h
  | _ :: _, [], h, _ => nomatch h

def catF (f : Nat → List AV) (ix : Nat) : Nat → List AV
  | 0 => []
  | n + 1 => f ix ++ catF f (ix + 1) n
/-- The cells of a slice, whole, and its length. -/
def rowOf (H : Heap) (sz : Nat) (y : AV) (K : Nat → List AV → Prop) : Prop :=
  match y with
  | .nslc => K 0 []
  | .slc id ix c l _ => blkAt H id fun B => asr (Nat.blt ix B.n && Nat.ble (c + l * sz) (B.f ix).length) (K l (((B.f ix).drop c).take (l * sz)))
  | .sla id l => blkAt H id fun B => asr (Nat.blt 0 B.n && Nat.ble (l * sz) (B.f 0).length) (K l ((B.f 0).take (l * sz)))
  | .sls id ix e l _ => blkAt H id fun B => asr (e.beq sz && B.esz.beq sz && Nat.ble (ix + l) B.n) (K l (catF B.f ix l))
  | _ => False
def limA (bytes n : Nat) : Bool := Nat.ble n 9223372036854775807 && Nat.ble (n * bytes) 140737488355328
/-- 'append': what is added to is given up, or copied. -/
def appW (lo : Nat) (ty : TypeId) (sz bytes : Nat) (x y : AV) (H : Heap) (K : K1) : Prop :=
  rowOf H sz y fun m news => match x with
    | .nslc => cond (m.beq 0) (K .nslc H) (asr (limA bytes m) (K (.sla H.length m) (H ++ [roomB ty sz news, none])))
    | .sla id l => blkAt H id fun B => asr (Nat.ble lo id) <| asr (B.room.beq sz && B.esz.beq (l * sz) && B.ty.beq ty && news.all okCell && limA bytes (l + m))
        (K (.sla H.length (l + m)) (H.set id none ++ [roomB ty sz (B.f 0 ++ news), none]))
    | .slc id ix c l cap => blkAt H id fun B => cond (m.beq 0) (asr (Nat.ble l cap) (K x H)) (asr (Nat.blt ix B.n && Nat.ble (c + l * sz) (B.f ix).length && Nat.blt cap (l + m) && limA bytes (l + m))
        (K (.sla H.length (l + m)) (H ++ [roomB ty sz (((B.f ix).drop c).take (l * sz) ++ news), none])))
    | _ => False
def madeA (zs : List AV) (n : Nat) : List AV := (List.range (n * zs.length)).map fun i => zs.getD (i % zs.length) undefA

/-- 'bits.Add64', 'bits.Sub64'. -/
def carryV (sub : Bool) (x y c : AV) (K : AV → Prop) : Prop :=
  match x, y, c with
  | .i .u64 a, .i .u64 b, .i .u64 k => asr (decide (0 ≤ a) && decide (0 ≤ b) && decide (0 ≤ k) && decide (k ≤ 1) && decide (b < 18446744073709551616))
      (cond sub (K (.tup [.i .u64 ((a - b - k) % 18446744073709551616), .i .u64 (cond (decide (a < b + k)) 1 0)])) (K (.tup [.i .u64 ((a + b + k) % 18446744073709551616), .i .u64 ((a + b + k) / 18446744073709551616)])))
  | _, _, _ => False

def val (Γ : Gam) (m : MI) (t : List AV) (H : Heap) (K : K1) : Prop :=
  match m with
  | .load x => match ev t x with
    | .ptr id ix c => blkAt H id fun B => asr (Nat.blt ix B.n) (match (B.f ix)[c]? with
      | some a => K a H
      | none => False)
    | _ => False
  | .loadn n x => match ev t x with
    | .ptr id ix c => blkAt H id fun B => asr (Nat.blt ix B.n) (asr (Nat.ble (c + n) (B.f ix).length) (K (.agg (((B.f ix).drop c).take n)) H))
    | _ => False
  | .box ty x => K (.ptr H.length 0 0) (H ++ [lit ty (cellsA (ev t x))])
  | .alloc ty zs => K (.ptr H.length 0 0) (H ++ [lit ty zs])
  | .bslice ty len zs parts => match fillA zs (parts.map (evp t)) with
    | some cs => K (.slc H.length 0 0 len len) (H ++ [lit ty cs])
    | none => False
  | .store n x v => match ev t x with
    | .ptr id ix c => blkAt H id fun B => asr (Nat.ble Γ.lo id) <| asr (B.own && Nat.blt ix B.n && (cellsA (ev t v)).length.beq n && Nat.ble (c + n) (B.f ix).length && (cellsA (ev t v)).all okCell)
        (K undefA (H.set id (some (B.put ix c (cellsA (ev t v))))))
    | _ => False
  | .callN f args => Γ.n f (args.map (ev t)) H fun a => K a H
  | .callG f args => Γ.g f (args.map (ev t)) H K
  | .callV x args => match ev t x with
    | .fn f caps => Γ.g f (args.map (ev t) ++ caps) H K
    | _ => False
  | .app ty sz bytes x y => appW Γ.lo ty sz bytes (ev t x) (ev t y) H K
  | .mksl ty bytes zs l c => match ev t l, ev t c with
    | .i _ n, .i _ k => asr (decide (0 ≤ n) && decide (n ≤ k) && decide ((bytes : Int) * k ≤ 281474976710656) && decide (k ≤ 9223372036854775807)) (K (.slc H.length 0 0 n.toNat k.toNat) (H ++ [lit ty (madeA zs k.toNat)]))
    | _, _ => False
  | .carry sub x y c => carryV sub (ev t x) (ev t y) (ev t c) fun a => K a H
  | .bad => False
  | m => pval m t fun a => K a H

def goesTo (P : Program) (f : FuncId) : Bool :=
  match P.funcs[f]? with
  | some fn => fn.body.isSome && !(fn.name == "runtime.NumGoroutine")
  | none => false

def SoundN (P : Program) (f : FuncId) (S : NSpec) : Prop := ∀ args H K, S args H K → goesTo P f = true ∧ ∀ w0 ρ w vs, RL ρ args vs → Rel w0 ρ H w →
  Calls P f vs.toArray w fun e w' => ∃ v av, e = .returned v ∧ R ρ av v ∧ Rel w0 ρ H w' ∧ K av
def SoundG (P : Program) (f : FuncId) (S : Spec) : Prop := ∀ args H K, S args H K → goesTo P f = true ∧ ∀ w0 ρ w vs, RL ρ args vs → Rel w0 ρ H w →
  Calls P f vs.toArray w fun e w' => ∃ v av ρ' H', e = .returned v ∧ ρ <+: ρ' ∧ R ρ' av v ∧ Rel w0 ρ' H' w' ∧ K av H'
structure Gam.ok (P : Program) (Γ : Gam) : Prop where
  n : ∀ f, SoundN P f (Γ.n f)
  g : ∀ f, SoundG P f (Γ.g f)

/-- Instructions that leave all blocks as they are (they may make new ones). -/
def keeps : MI → Bool
  | .store .. | .callG .. | .callV .. | .app .. => false
  | _ => true

def Done (w0 : World) (ρ : List Loc) (H : Heap) (nd : Bool) (K : K1) (v : Value) (w' : World) : Prop :=
  ∃ av ρ' H', ρ <+: ρ' ∧ (nd = true → H <+: H') ∧ R ρ' av v ∧ Rel w0 ρ' H' w' ∧ K av H'

def OutOK (P : Program) (w0 : World) (ρ : List Loc) (H : Heap) (nd : Bool) (K : K1) : Result Next → Prop
  | .ok (.value v) w' => Done w0 ρ H nd K v w'
  | .ok .skip w' => Done w0 ρ H nd K undef w'
  | .ok (.enter f args) w' => Calls P f args w' fun e w'' => ∃ v, e = .returned v ∧ Done w0 ρ H nd K v w''
  | _ => False

def OpOK (P : Program) (o : Oper) (a : Act) (w0 : World) (ρ : List Loc) (H : Heap) (nd : Bool) (w : World) (K : K1) : Prop := OutOK P w0 ρ H nd K ((execOp a.eval o).run P w)

def extF (P : Program) (f : FuncId) : Option Bool :=
  match P.funcs[f]? with
  | some fn => cond (fn.body.isNone && fn.origin == "") (cond (fn.name == "math/bits.Add64") (some false) (cond (fn.name == "math/bits.Sub64") (some true) none)) none
  | none => none
def callM (P : Program) (neut : TypeId → Bool) (f : FuncId) (as : List MO) : MI :=
  match extF P f, as with
  | some b, [x, y, c] => .carry b x y c
  | _, _ => cond (neut f) (.callN f as) (.callG f as)

def compM0 (P : Program) (eqs : TypeId → Option (List SK)) (neut : TypeId → Bool) (o : Oper) : Option MI :=
  match o.op with
  | .load t x => match cop x, P.underlying t, szOf P t with
    | some x, some d, some n => some (cond (aggD d) (.loadn n x) (.load x))
    | _, _, _ => none
  | .store t x v => match cop x, cop v, szOf P t with
    | some x, some v, some n => some (.store n x v)
    | _, _, _ => none
  | .box t x => (cop x).map (.box t)
  | .alloc t => (zeroOf P t).map (.alloc t)
  | .buildSlice t len parts => match P.underlying t with
    | some (.slice e) => match szOf P e, zeroOf P e with
      | some s, some zs => cond (len.beq 0 && parts.toList.isEmpty) (some (.bslice e 0 [] [])) <| cond (Nat.ble (len * s) 16777216 && Nat.blt 0 (len * s) && Nat.blt 0 zs.length)
          ((partsM (fun i => some (i * s, s)) parts.toList).map (.bslice e len ((List.range (len * s)).map fun i => zs.getD (i % zs.length) undefA))) none
      | _, _ => none
    | _ => none
  | .call { callee := .value (.func f), args, .. } => (cops args.toList).map (callM P neut f)
  | .call { callee := .value (.tmp x), args, .. } => (cops args.toList).map fun as => .callV (.t x) as
  | .call { callee := .builtin .append, args, argTypes } => match args.toList, argTypes.toList with
    | [x, y], [t, u] => match cop x, cop y, P.underlying t with
      | some x, some y, some (.slice e) => match szOf P e, zeroOf P e, P.info? e with
        | some s, some zs, some i => cond (t.beq u && zs.length.beq s && Nat.blt 0 s) (some (.app e s i.bytes x y)) none
        | _, _, _ => none
      | _, _, _ => none
    | _, _ => none
  | .makeSlice t l c => match cop l, cop c, P.underlying t with
    | some l, some c, some (.slice e) => match szOf P e, zeroOf P e, P.info? e with
      | some s, some zs, some i => cond (zs.length.beq s && Nat.blt 0 s) (some (.mksl e i.bytes zs l c)) none
      | _, _, _ => none
    | _, _, _ => none
  | _ => compP P eqs o

/-- What isn't served must not be carried out. -/
def compM (P : Program) (eqs : TypeId → Option (List SK)) (neut : TypeId → Bool) (o : Oper) : Option MI :=
  match compM0 P eqs neut o with
  | some m => some m
  | none => some .bad

theorem compM_cases {P : Program} {eqs : TypeId → Option (List SK)} {neut : TypeId → Bool} {o : Oper} {mi : MI} (h : compM P eqs neut o = some mi) : mi = .bad ∨ compM0 P eqs neut o = some mi := by
  unfold compM at h
  split at h
  · rename_i m hm
    exact .inr (by rw [hm]; exact h)
  · simp at h; exact .inl h.symm

theorem Done.same {w0 w : World} {ρ : List Loc} {H : Heap} {nd : Bool} {K : K1} (h : Rel w0 ρ H w) {v : Value} {av : AV} (hr : R ρ av v) (hk : K av H) : Done w0 ρ H nd K v w :=
  ⟨av, ρ, H, List.prefix_refl _, fun _ => List.prefix_refl _, hr, h, hk⟩

theorem run_call {P : Program} {f : FuncId} (h : goesTo P f = true) (args : Array Value) (w : World) : (callFunc f args).run P w = .ok (.enter f args) w := by
  unfold goesTo at h
  split at h
  · rename_i fn hf
    simp only [Bool.and_eq_true, Bool.not_eq_true'] at h
    have hb : fn.body.isNone = false := by cases e : fn.body <;> simp_all
    unfold callFunc
    simp only [Sem.run_bind, run_program, Result.andThen_ok, hf, h.2, hb, Bool.false_eq_true, if_false]
    rfl
  · simp at h

theorem find_add64 {fn : Func} (h : fn.name = "math/bits.Add64") : Extern.find fn = some add64Entry := by
  have h1 : Extern.allGenericRows.lookup "math/bits.Add64" = none := by kernel_rfl
  have h2 : Extern.allTypedRows.lookup "math/bits.Add64" = none := by kernel_rfl
  have h3 : Extern.allRows.lookup "math/bits.Add64" = some add64Entry := by kernel_rfl
  simp [Extern.find, h, h1, h2, h3]
def sub64Entry : Array Value → Sem Value := fun args => do
  let (x, y, b) ← Extern.MathBitsCarry.three "Sub64" args
  pure (Extern.MathBitsCarry.pair ((x + Extern.MathBitsCarry.m64 - y - b) % Extern.MathBitsCarry.m64) (if x < y + b then 1 else 0))
theorem find_sub64 {fn : Func} (h : fn.name = "math/bits.Sub64") : Extern.find fn = some sub64Entry := by
  have h1 : Extern.allGenericRows.lookup "math/bits.Sub64" = none := by kernel_rfl
  have h2 : Extern.allTypedRows.lookup "math/bits.Sub64" = none := by kernel_rfl
  have h3 : Extern.allRows.lookup "math/bits.Sub64" = some sub64Entry := by kernel_rfl
  simp [Extern.find, h, h1, h2, h3]
theorem findNext_carry {fn : Func} (h : fn.name = "math/bits.Add64" ∨ fn.name = "math/bits.Sub64") (ho : fn.origin = "") : Extern.findNext fn = none := by
  have h1 : Extern.allNextRows.lookup "math/bits.Add64" = none := by kernel_rfl
  have h2 : Extern.allNextRows.lookup "math/bits.Sub64" = none := by kernel_rfl
  have h3 : Extern.allNextRows.lookup "" = none := by kernel_rfl
  rcases h with h | h <;> simp [Extern.findNext, h, ho, h1, h2, h3]
theorem run_sub64 {P : Program} (x y c : Int) (hx : 0 ≤ x) (hy : 0 ≤ y) (hy2 : y < 18446744073709551616) (hc0 : 0 ≤ c) (hc : c ≤ 1) (w : World) :
    (sub64Entry #[.int .u64 x, .int .u64 y, .int .u64 c]).run P w =
      .ok (.tuple #[.int .u64 ((x - y - c) % 18446744073709551616), .int .u64 (cond (decide (x < y + c)) 1 0)]) w := by
  have key : ∀ k : Nat, k ≤ 1 → (sub64Entry #[.int .u64 x, .int .u64 y, .int .u64 (k : Int)]).run P w =
      .ok (Extern.MathBitsCarry.pair ((x.toNat + Extern.MathBitsCarry.m64 - y.toNat - k) % Extern.MathBitsCarry.m64) (if x.toNat < y.toNat + k then 1 else 0)) w := by
    intro k hk
    have : k = 0 ∨ k = 1 := by omega
    rcases this with rfl | rfl <;> rfl
  obtain ⟨k, rfl⟩ := Int.eq_ofNat_of_zero_le hc0
  rw [key k (by omega)]
  obtain ⟨X, rfl⟩ := Int.eq_ofNat_of_zero_le hx
  obtain ⟨Y, rfl⟩ := Int.eq_ofNat_of_zero_le hy
  have e2 : (Int.ofNat (if X < Y + k then 1 else 0) : Int) = cond (decide ((X : Int) < (Y : Int) + (k : Int))) 1 0 := by
    by_cases hh : X < Y + k
    · have h2 : (X : Int) < (Y : Int) + (k : Int) := by omega
      simp [hh, h2]
    · have h2 : ¬ (X : Int) < (Y : Int) + (k : Int) := by omega
      simp [hh, h2]
  have e1 : (Int.ofNat ((X + 18446744073709551616 - Y - k) % 18446744073709551616) : Int) = ((X : Int) - (Y : Int) - (k : Int)) % 18446744073709551616 := by
    have : (Int.ofNat ((X + 18446744073709551616 - Y - k) % 18446744073709551616) : Int) = (((X + 18446744073709551616 - Y - k : Nat)) : Int) % 18446744073709551616 := by
      simp
    rw [this]
    omega
  simp only [Extern.MathBitsCarry.pair, Extern.MathBitsCarry.m64, Int.toNat_natCast]
  rw [e2, show (2 : Nat) ^ 64 = 18446744073709551616 from rfl, e1]

theorem carry_sound {P : Program} {f : FuncId} {b : Bool} (he : extF P f = some b) {ρ : List Loc} {t : List AV} {mx my mc : MO} {vs : List Value} (hvs : RL ρ ([mx, my, mc].map (ev t)) vs) {K : AV → Prop}
    (hv : carryV b (ev t mx) (ev t my) (ev t mc) K) : ∃ v av, (∀ w, (callFunc f vs.toArray).run P w = .ok (.value v) w) ∧ R ρ av v ∧ K av := by
  simp only [List.map_cons, List.map_nil] at hvs
  cases hvs with | cons g1 hvs =>
  cases hvs with | cons g2 hvs =>
  cases hvs with | cons g3 hvs =>
  cases hvs
  unfold carryV at hv
  split at hv
  · rename_i x y k e1 e2 e3
    rw [e1] at g1
    rw [e2] at g2
    rw [e3] at g3
    cases g1; cases g2; cases g3
    simp only [asr_iff, Bool.and_eq_true, decide_eq_true_eq] at hv
    obtain ⟨⟨⟨⟨⟨q1, q2⟩, q3⟩, q4⟩, q5⟩, hk⟩ := hv
    unfold extF at he
    split at he
    · rename_i fn hf
      cases hb : (fn.body.isNone && fn.origin == "") with
      | false => rw [hb] at he; simp at he
      | true =>
        rw [hb] at he
        simp only [cond_true] at he
        simp only [Bool.and_eq_true, beq_iff_eq] at hb
        cases hn : (fn.name == "math/bits.Add64") with
        | true =>
          rw [hn] at he
          simp only [cond_true, Option.some.injEq] at he
          subst he
          have hname : fn.name = "math/bits.Add64" := by simpa using hn
          refine ⟨_, _, fun w => ?_, .tup (.cons (.i _ _) (.cons (.i _ _) .nil)), hk⟩
          rw [run_callFunc_extern hf (by rw [hname]; rfl) hb.1 (findNext_carry (.inl hname) hb.2) (find_add64 hname)]
          rw [show ([Value.int IntKind.u64 x, Value.int IntKind.u64 y, Value.int IntKind.u64 k].toArray) = #[.int .u64 x, .int .u64 y, .int .u64 k] from rfl, run_add64 x y k q1 q2 q3 q4 w]
          rfl
        | false =>
          rw [hn] at he
          simp only [cond_false] at he
          cases hn2 : (fn.name == "math/bits.Sub64") with
          | false => rw [hn2] at he; simp at he
          | true =>
            rw [hn2] at he
            simp only [cond_true, Option.some.injEq] at he
            subst he
            have hname : fn.name = "math/bits.Sub64" := by simpa using hn2
            refine ⟨_, _, fun w => ?_, .tup (.cons (.i _ _) (.cons (.i _ _) .nil)), hk⟩
            rw [run_callFunc_extern hf (by rw [hname]; rfl) hb.1 (findNext_carry (.inr hname) hb.2) (find_sub64 hname)]
            rw [show ([Value.int IntKind.u64 x, Value.int IntKind.u64 y, Value.int IntKind.u64 k].toArray) = #[.int .u64 x, .int .u64 y, .int .u64 k] from rfl, run_sub64 x y k q1 q2 q5 q3 q4 w]
            rfl
    · simp at he
  · exact hv.elim

theorem load_cells {P : Program} {w0 w : World} {ρ : List Loc} {H : Heap} (h : Rel w0 ρ H w) {id ix c n b o e : Nat} {B : Blk} (hB : H[id]? = some (some B)) (hρ : ρ[id]? = some (b, o, e)) (hix : ix < B.n)
    (hle : c + n ≤ (B.f ix).length) : ∃ vs : List Value, (loadCells ⟨b, o + ix * e + c, none⟩ n).run P w = .ok vs.toArray w ∧ RL ρ (((B.f ix).drop c).take n) vs := by
  obtain ⟨b1, o1, k1, k2⟩ := h.blk id B hB
  rw [hρ] at k1
  simp at k1
  obtain ⟨rfl, rfl, rfl⟩ := k1
  have hget : ∀ j, j < n → ∃ v, w.cell? ⟨b, o + ix * B.esz + c + j, none⟩ = some v ∧ R ρ ((B.f ix).getD (c + j) undefA) v := fun j hj => by
    have hlt : c + j < (B.f ix).length := by omega
    obtain ⟨v, g1, g2⟩ := k2.cell ix (c + j) _ hix (List.getElem?_eq_getElem hlt)
    refine ⟨v, by rw [← g1, Nat.add_assoc], ?_⟩
    rw [List.getD_eq_getElem?_getD, List.getElem?_eq_getElem hlt]
    exact g2
  let f : Nat → Value := fun j => if hj : j < n then Classical.choose (hget j hj) else undef
  have hf : ∀ j, j < n → w.cell? (Addr.add ⟨b, o + ix * B.esz + c, none⟩ j) = some (f j) := fun j hj => by
    rw [add_at]
    simp only [f, dif_pos hj]
    exact (Classical.choose_spec (hget j hj)).1
  refine ⟨(List.range n).map f, ?_, ?_⟩
  · have := run_loadCells (P := P) w ⟨b, o + ix * B.esz + c, none⟩ n f hf
    rw [this]
  · refine RL.of (by simp; omega) fun j a hj => ?_
    have hjn : j < n := by
      have := (List.getElem?_eq_some_iff.1 hj).1
      simp at this; omega
    refine ⟨f j, by simp [hjn], ?_⟩
    simp only [f, dif_pos hjn]
    have := (Classical.choose_spec (hget j hjn)).2
    rw [List.getElem?_take_of_lt hjn, List.getElem?_drop] at hj
    have ha : (B.f ix).getD (c + j) undefA = a := by rw [List.getD_eq_getElem?_getD, hj]; rfl
    rw [← ha]
    exact this

theorem new_sound {w0 w : World} {ρ : List Loc} {H : Heap} (h : Rel w0 ρ H w) {K : K1} {t : TypeId} {cs : List AV} {vs : Array Value} (hc : RL ρ cs vs.toList) {av : AV} {v : Value}
    (hr : ∀ ρ' : List Loc, ρ'[H.length]? = some (w.heap.size, 0, cs.length) → R ρ' av v) (hk : K av (H ++ [lit t cs])) {nd : Bool} : Done w0 ρ H nd K v { w with heap := w.heap.push (.cells vs t) } :=
  ⟨av, ρ ++ [(w.heap.size, 0, cs.length)], H ++ [lit t cs], List.prefix_append .., fun _ => List.prefix_append .., hr _ (by rw [h.len]; simp), h.alloc hc, hk⟩

theorem cells_at {w0 w : World} {ρ : List Loc} {H : Heap} (h : Rel w0 ρ H w) {id ix c n b o e : Nat} {B : Blk} (hB : H[id]? = some (some B)) (hρ : ρ[id]? = some (b, o, e)) (hix : ix < B.n)
    (hle : c + n ≤ (B.f ix).length) : ∃ vs : List Value, RL ρ (((B.f ix).drop c).take n) vs ∧ vs.length = n ∧ ∀ j u, vs[j]? = some u → w.cell? (Addr.add ⟨b, o + ix * e + c, none⟩ j) = some u := by
  obtain ⟨b1, o1, k1, k2⟩ := h.blk id B hB
  rw [hρ] at k1
  simp at k1
  obtain ⟨rfl, rfl, rfl⟩ := k1
  have hget : ∀ j, j < n → ∃ v, w.cell? (Addr.add ⟨b, o + ix * B.esz + c, none⟩ j) = some v ∧ R ρ ((B.f ix).getD (c + j) undefA) v := fun j hj => by
    have hlt : c + j < (B.f ix).length := by omega
    obtain ⟨v, g1, g2⟩ := k2.cell ix (c + j) _ hix (List.getElem?_eq_getElem hlt)
    refine ⟨v, by rw [add_at, ← g1, Nat.add_assoc], ?_⟩
    rw [List.getD_eq_getElem?_getD, List.getElem?_eq_getElem hlt]
    exact g2
  let f : Nat → Value := fun j => if hj : j < n then Classical.choose (hget j hj) else undef
  refine ⟨(List.range n).map f, RL.of (by simp; omega) fun j a hj => ?_, by simp, fun j u hj => ?_⟩
  · have hjn : j < n := by
      have := (List.getElem?_eq_some_iff.1 hj).1
      simp at this; omega
    refine ⟨f j, by simp [hjn], ?_⟩
    simp only [f, dif_pos hjn]
    have := (Classical.choose_spec (hget j hjn)).2
    rw [List.getElem?_take_of_lt hjn, List.getElem?_drop] at hj
    have ha : (B.f ix).getD (c + j) undefA = a := by rw [List.getD_eq_getElem?_getD, hj]; rfl
    rw [← ha]
    exact this
  · have hjn : j < n := by
      have := (List.getElem?_eq_some_iff.1 hj).1
      simp at this; omega
    simp [hjn] at hj
    subst hj
    simp only [f, dif_pos hjn]
    exact (Classical.choose_spec (hget j hjn)).1

theorem cells_cat {w0 w : World} {ρ : List Loc} {H : Heap} (h : Rel w0 ρ H w) {id b o : Nat} {B : Blk} (hB : H[id]? = some (some B)) (hρ : ρ[id]? = some (b, o, B.esz)) :
    ∀ (n ix : Nat), ix + n ≤ B.n → ∃ vs : List Value, RL ρ (catF B.f ix n) vs ∧ vs.length = n * B.esz ∧ ∀ j u, vs[j]? = some u → w.cell? (Addr.add ⟨b, o + ix * B.esz, none⟩ j) = some u
  | 0, ix, _ => ⟨[], .nil, by simp, fun j u hj => by simp at hj⟩
  | n + 1, ix, hn => by
    obtain ⟨b1, o1, k1, k2⟩ := h.blk id B hB
    have hw := k2.wide ix (by omega)
    obtain ⟨vs, g1, g2, g3⟩ := cells_at h (c := 0) (n := B.esz) hB hρ (show ix < B.n by omega) (by omega)
    obtain ⟨us, q1, q2, q3⟩ := cells_cat h hB hρ n (ix + 1) (by omega)
    rw [List.drop_zero, ← hw, List.take_length] at g1
    refine ⟨vs ++ us, RL.append g1 q1, by rw [List.length_append, g2, q2, Nat.add_mul]; omega, fun j u hj => ?_⟩
    by_cases hlt : j < vs.length
    · rw [List.getElem?_append_left hlt] at hj
      exact g3 j u hj
    · rw [List.getElem?_append_right (by omega)] at hj
      have := q3 _ _ hj
      rw [add_at] at this ⊢
      rw [← this, g2]
      congr 2
      rw [Nat.add_mul]
      omega

theorem rowOf_sound {w0 w : World} {ρ : List Loc} {H : Heap} (h : Rel w0 ρ H w) {sz : Nat} {y : AV} {v : Value} (hy : R ρ y v) {K : Nat → List AV → Prop} (hk : rowOf H sz y K) :
    ∃ n as vs, K n as ∧ RL ρ as vs ∧ vs.length = n * sz ∧ ((v = .slice none 0 0 ∧ n = 0) ∨ ∃ a cap, v = .slice (some a) n cap ∧ ∀ j u, vs[j]? = some u → w.cell? (Addr.add a j) = some u) := by
  unfold rowOf at hk
  split at hk
  · cases hy
    exact ⟨0, [], [], hk, .nil, by simp, .inl ⟨rfl, rfl⟩⟩
  · unfold blkAt at hk
    split at hk
    · rename_i B hB
      simp only [asr_iff, Bool.and_eq_true] at hk
      obtain ⟨⟨q1, q2⟩, hk⟩ := hk
      cases hy with
      | slc hρ =>
        obtain ⟨vs, g1, g2, g3⟩ := cells_at h hB hρ (by simpa [Nat.blt_eq] using q1) (Nat.le_of_ble_eq_true q2)
        exact ⟨_, _, vs, hk, g1, g2, .inr ⟨_, _, rfl, g3⟩⟩
    · exact hk.elim
  · unfold blkAt at hk
    split at hk
    · rename_i B hB
      simp only [asr_iff, Bool.and_eq_true] at hk
      obtain ⟨⟨q1, q2⟩, hk⟩ := hk
      cases hy with
      | sla hρ hC hlC =>
        obtain ⟨vs, g1, g2, g3⟩ := cells_at h (c := 0) hB hρ (by simpa [Nat.blt_eq] using q1) (by have := Nat.le_of_ble_eq_true q2; rwa [Nat.zero_add])
        exact ⟨_, _, vs, hk, by simpa using g1, g2, .inr ⟨_, _, rfl, by simpa using g3⟩⟩
    · exact hk.elim
  · unfold blkAt at hk
    split at hk
    · rename_i B hB
      simp only [asr_iff, Bool.and_eq_true] at hk
      obtain ⟨⟨⟨q1, q2⟩, q3⟩, hk⟩ := hk
      obtain rfl := Nat.eq_of_beq_eq_true q1
      have q2 := Nat.eq_of_beq_eq_true q2
      cases hy with
      | sls hρ =>
        rw [← q2] at hρ ⊢
        obtain ⟨vs, g1, g2, g3⟩ := cells_cat h hB hρ _ _ (Nat.le_of_ble_eq_true q3)
        exact ⟨_, _, vs, hk, g1, g2, .inr ⟨_, _, rfl, g3⟩⟩
    · exact hk.elim
  · exact hk.elim

theorem run_append_none {P : Program} {w : World} {t e ty : TypeId} {i : TypeInfo} (ht : P.underlying t = some (.slice e)) (hi : P.info? e = some i) {b : Option Addr} {l cap : Nat} (h : l ≤ cap) {y : Value}
    (hy : y = .slice none 0 0 ∨ ∃ a c, y = .slice (some a) 0 c) : (Builtin.append_ #[t, t] ty #[.slice b l cap, y]).run P w = .ok (.slice b l cap) w := by
  have hst : ∀ a : Addr, (storeCells a []).run P w = .ok () w := fun a => rfl
  rcases hy with rfl | ⟨a, c, rfl⟩ <;> cases b <;>
    simp [Builtin.append_, run_underlying ht, sizeOf, typeInfo, hi, Builtin.lenOf, h, Builtin.firstCells, loadCells, loadCellsFrom, hst, storeCells]

theorem limA_iff {bytes n : Nat} : limA bytes n = true ↔ n ≤ 9223372036854775807 ∧ n * bytes ≤ 140737488355328 := by simp [limA, Nat.ble_eq]

/-- What a growing row comes to. -/
theorem grow_done {w0 w : World} {ρ : List Loc} {H : Heap} (hR : Rel w0 ρ H w) {K : K1} {ty sz need old : Nat} {z : Array Value} (hz : z.size = sz) (hneed : need ≤ maxLen) {as : List AV} {vs : List Value} (hv : RL ρ as vs) (hl : vs.length = need * sz)
    (dead : Nat) (hk : K (.sla H.length need) (H.set dead none ++ [roomB ty sz as, none])) {C : Nat} (hC : C = grownCap w need old ty) :
    Done w0 ρ H false K (.slice (some ⟨w.heap.size, 0, none⟩) need C) (w.drew.alloc (.cells (vs.toArray ++ Builtin.zeroCells z (C - need)) ty)) := by
  subst hC
  have hge := grownCap_ge w need old ty
  have hcm := grownCap_le_maxLen w need old ty hneed
  have hrow := hR.row (w' := w.drew.alloc (.cells (vs.toArray ++ Builtin.zeroCells z (grownCap w need old ty - need)) ty)) dead (g := w.heap.size) (C := grownCap w need old ty) (n := need) (sz := sz) (ty := ty) (as := as)
    (cs := vs.toArray ++ Builtin.zeroCells z (grownCap w need old ty - need))
    (hR.below.trans ⟨rfl, rfl, rfl, by simp, fun k hk => heap_alloc_old w.drew _ (Nat.lt_of_lt_of_le hk hR.size)⟩) (by simp) (fun k hk _ => heap_alloc_old w.drew _ hk) hR.size
    (fun i B b o e _ hB hρ he => by
      obtain ⟨b1, o1, k1, k2⟩ := hR.blk i B hB
      rw [hρ] at k1
      simp at k1
      have := k2.lt hR
      omega) (heap_alloc_new w.drew _)
    (by
      simp only [Array.size_append, List.size_toArray, size_zeroCells, hz, hl, ← Nat.add_mul]
      congr 1
      omega) hge hcm
    (by
      rw [Array.toList_append, ← hl]
      show RL ρ as ((vs ++ _).take vs.length)
      rw [List.take_left]
      exact hv) (by rw [hv.length, hl])
  refine ⟨.sla H.length need, _, _, List.prefix_append .., fun h => by simp at h, ?_, hrow, hk⟩
  exact .sla (e := need * sz) (by rw [hR.len]; simp) (by rw [hR.len]; simp) (by first | omega | assumption)

theorem app_sound {P : Program} {w0 w : World} {ρ : List Loc} {H : Heap} (hR : Rel w0 ρ H w) {t ty' e sz : Nat} {i : TypeInfo} {z : Value} (ht : P.underlying t = some (.slice e)) (hi : P.info? e = some i) (hz : i.zero = some z)
    (hsize : i.size = sz) (hzs : z.cells.size = sz) (hsz : 0 < sz) {x y : AV} {vx vy : Value} (hx : R ρ x vx) (hy : R ρ y vy) {K : K1} {lo : Nat} (hv : appW lo e sz i.bytes x y H K) :
    ∃ v w', (Builtin.append_ #[t, t] ty' #[vx, vy]).run P w = .ok v w' ∧ Done w0 ρ H false K v w' := by
  unfold appW at hv
  obtain ⟨m, news, ns, hk, hns, hnl, hsrc⟩ := rowOf_sound hR hy hv
  have hnone : m = 0 → vy = .slice none 0 0 ∨ ∃ a c, vy = .slice (some a) 0 c := fun h0 => by
    rcases hsrc with ⟨rfl, _⟩ | ⟨a, c, rfl, _⟩
    · exact .inl rfl
    · exact .inr ⟨a, c, by rw [h0]⟩
  have hm0 : ∀ b : Bool, m.beq 0 = b → (b = true → m = 0) ∧ (b = false → 0 < m) := fun b hb => by
    cases b
    · exact ⟨fun h => by simp at h, fun _ => by
        rcases Nat.eq_zero_or_pos m with h | h
        · rw [h] at hb; simp at hb
        · exact h⟩
    · exact ⟨fun _ => Nat.eq_of_beq_eq_true hb, fun h => by simp at h⟩
  subst hsize
  have hset : H.set H.length none = H := List.set_eq_of_length_le (Nat.le_refl _)
  split at hk
  · cases hx
    cases hb : m.beq 0 with
    | true =>
      rw [hb] at hk
      simp only [cond_true] at hk
      exact ⟨_, _, run_append_none ht hi (Nat.le_refl _) (hnone ((hm0 _ hb).1 rfl)), Done.same hR .nslc hk⟩
    | false =>
      rw [hb] at hk
      simp only [cond_false, asr_iff, limA_iff] at hk
      obtain ⟨⟨l1, l2⟩, hk⟩ := hk
      have hpos := (hm0 _ hb).2 rfl
      rcases hsrc with ⟨_, h0⟩ | ⟨a, c, rfl, hcell⟩
      · omega
      · have hr := run_append_nil (P := P) w t ty' e i z ht hi hz a m c ns hnl hcell hpos (by omega) (by omega)
        exact ⟨_, _, hr, grow_done hR hzs (by simp only [maxLen]; omega) hns hnl H.length (by rw [hset]; exact hk) rfl⟩
  · rename_i id l
    unfold blkAt at hk
    split at hk
    · rename_i B hB
      simp only [asr_iff, Bool.and_eq_true, limA_iff] at hk
      obtain ⟨_, ⟨⟨⟨⟨c1, c2⟩, c3⟩, c4⟩, l1, l2⟩, hk⟩ := hk
      have c1 := Nat.eq_of_beq_eq_true c1
      have c2 := Nat.eq_of_beq_eq_true c2
      have c3 := Nat.eq_of_beq_eq_true c3
      obtain ⟨b, o, C, n, cs, g1, g2, g3, g4, g5, g6, g7, g8, g9⟩ := hR.room id B hB (by omega)
      obtain ⟨b1, o1, k1, k2⟩ := hR.blk id B hB
      rw [g1] at k1
      simp at k1
      obtain ⟨rfl, rfl⟩ := k1
      obtain ⟨rfl, hbw, _⟩ := k2.own g8
      have hnl2 : n = l := by
        have : n * i.size = l * i.size := by rw [← c1, ← g5, c2, c1]
        exact Nat.eq_of_mul_eq_mul_right hsz this
      subst hnl2
      cases hx with
      | sla hρ hC hlC =>
        rw [g1] at hρ; simp at hρ; obtain ⟨rfl, rfl, _⟩ := hρ
        rw [g2] at hC; simp at hC; subst hC
        rw [c1] at g4
        have hw := k2.wide 0 (by omega)
        obtain ⟨os, p1, p2, p3⟩ := cells_at hR (c := 0) (n := B.esz) hB g1 (show 0 < B.n by omega) (by omega)
        rw [List.drop_zero, ← hw, List.take_length] at p1
        simp only [Nat.zero_mul, Nat.add_zero, Nat.zero_add] at p3
        have hos : os.length = n * i.size := by rw [p2, c2]
        have hall : RL ρ (B.f 0 ++ news) (os ++ ns) := RL.append p1 hns
        have hone : ∀ u ∈ ns, u.oneCell' = true := okCells_sound hns c4
        have htake : cs.toList.take (n * i.size) = os := by
          apply List.ext_getElem?
          intro j
          by_cases hj : j < n * i.size
          · rw [List.getElem?_take_of_lt hj]
            have hju : j < os.length := by omega
            have := p3 j _ (List.getElem?_eq_getElem hju)
            rw [add_at] at this
            simp only [World.cell?, g3, Nat.zero_add] at this
            rw [List.getElem?_eq_getElem hju]
            simpa using this
          · rw [List.getElem?_eq_none (by simp; omega), List.getElem?_eq_none (by omega)]
        by_cases hroom : n + m ≤ C
        · have hfit : n * i.size + ns.length ≤ cs.size := by rw [hnl, g4, ← Nat.add_mul]; exact Nat.mul_le_mul_right _ hroom
          have hr : (Builtin.append_ #[t, t] ty' #[.slice (some ⟨b, 0, none⟩) n C, vy]).run P w = .ok (.slice (some ⟨b, 0, none⟩) (n + m) C) (w.setRow b (cs.toList.take (n * i.size) ++ ns ++ cs.toList.drop (n * i.size + ns.length)).toArray) := by
            rcases hsrc with ⟨rfl, h0⟩ | ⟨a, c, rfl, hcell⟩
            · subst h0
              have h0 : ns = [] := List.eq_nil_of_length_eq_zero (by rw [hnl]; simp)
              subst h0
              rw [run_append_none ht hi g6 (.inl rfl)]
              simp only [List.append_nil, List.length_nil, Nat.add_zero, List.take_append_drop]
              congr 1
              have e1 : (w.setRow b cs.toList.toArray).heap = w.heap := by
                unfold World.setRow
                simp only
                apply Array.ext_getElem?
                intro j
                rw [Array.getElem?_modify]
                by_cases hj : b = j
                · subst hj
                  rw [if_pos rfl, g3]; simp
                · rw [if_neg hj]
              have : w.setRow b cs.toList.toArray = w := by
                show ({ w with heap := (w.setRow b cs.toList.toArray).heap } : World) = w
                rw [e1]
              exact this.symm
            · exact run_append_room (P := P) w t ty' e i ht hi b n C cs (by rw [← c3]; exact g3) a m c ns hnl hcell hone hroom hfit
          have hblt : b < w.heap.size := (Array.getElem?_eq_some_iff.1 g3).1
          have hsetsize : ∀ cs', (w.setRow b cs').heap.size = w.heap.size := fun cs' => by simp [World.setRow]
          have hrow := hR.row (w' := w.setRow b (cs.toList.take (n * i.size) ++ ns ++ cs.toList.drop (n * i.size + ns.length)).toArray) id (g := b) (C := C) (n := n + m) (sz := i.size) (ty := e) (as := B.f 0 ++ news)
            (cs := (cs.toList.take (n * i.size) ++ ns ++ cs.toList.drop (n * i.size + ns.length)).toArray)
            (hR.below.trans ⟨rfl, rfl, rfl, by rw [hsetsize]; exact Nat.le_refl _, fun k hk => setRow_other w b k _ (by omega)⟩) (by rw [hsetsize]; exact Nat.le_refl _)
            (fun k _ hk => setRow_other w b k _ hk) hbw
            (fun j D b' o' e' hne hD hρ' he => hne (hR.dist id j B D b 0 B.esz b' o' e' hB hD g8 g1 hρ' he.symm).symm)
            (by rw [← c3]; exact setRow_heap w b cs _ B.ty _ g3)
            (by
              simp only [List.size_toArray, List.length_append, List.length_take, List.length_drop, Array.length_toList]
              omega) hroom g7
            (by
              rw [htake]
              show RL ρ (B.f 0 ++ news) (((os ++ ns) ++ _).take ((n + m) * i.size))
              rw [show (n + m) * i.size = (os ++ ns).length by rw [List.length_append, hos, hnl, Nat.add_mul], List.take_left]
              exact hall)
            (by rw [hall.length, List.length_append, hos, hnl, Nat.add_mul])
          refine ⟨_, _, hr, .sla H.length (n + m), _, _, List.prefix_append .., fun h => by simp at h, ?_, hrow, hk⟩
          exact .sla (e := (n + m) * i.size) (by rw [hR.len]; simp) (by rw [hR.len]; simp) (by first | omega | assumption)
        · rcases hsrc with ⟨_, h0⟩ | ⟨a, c, rfl, hcell⟩
          · omega
          · have hr := run_append_grow (P := P) w t ty' e i z ht hi hz ⟨b, 0, none⟩ n C os hos p3 a m c ns hnl hcell (by omega) (by omega) (growslice_fits (by omega) l2)
            have hja : os.toArray ++ ns.toArray = (os ++ ns).toArray := by simp
            rw [hja] at hr
            exact ⟨_, _, hr, grow_done hR hzs (by simp only [maxLen]; omega) hall (by rw [List.length_append, hos, hnl, Nat.add_mul]) id hk rfl⟩
    · exact hk.elim
  · rename_i id ix c l cap
    unfold blkAt at hk
    split at hk
    · rename_i B hB
      cases hb : m.beq 0 with
      | true =>
        rw [hb] at hk
        simp only [cond_true, asr_iff] at hk
        cases hx with
        | slc hρ => exact ⟨_, _, run_append_none ht hi (Nat.le_of_ble_eq_true hk.1) (hnone ((hm0 _ hb).1 rfl)), Done.same hR (.slc hρ) hk.2⟩
      | false =>
        rw [hb] at hk
        simp only [cond_false, asr_iff, Bool.and_eq_true, limA_iff] at hk
        obtain ⟨⟨⟨⟨c1, c2⟩, c3⟩, l1, l2⟩, hk⟩ := hk
        have hpos := (hm0 _ hb).2 rfl
        have c3 : cap < l + m := by simpa [Nat.blt_eq] using c3
        cases hx with
        | slc hρ =>
          rename_i b o e'
          obtain ⟨os, p1, p2, p3⟩ := cells_at hR hB hρ (by simpa [Nat.blt_eq] using c1) (Nat.le_of_ble_eq_true c2)
          have hall := RL.append p1 hns
          rcases hsrc with ⟨_, h0⟩ | ⟨a, c', rfl, hcell⟩
          · omega
          · have hr := run_append_grow (P := P) w t ty' e i z ht hi hz _ l cap os p2 p3 a m c' ns hnl hcell c3 (by omega) (growslice_fits c3 l2)
            have hja : os.toArray ++ ns.toArray = (os ++ ns).toArray := by simp
            rw [hja] at hr
            exact ⟨_, _, hr, grow_done hR hzs (by simp only [maxLen]; omega) hall (by rw [List.length_append, p2, hnl, Nat.add_mul]) H.length (by rw [hset]; exact hk) rfl⟩
    · exact hk.elim
  · exact hk.elim

def pureM : MI → Bool
  | .load _ | .loadn .. | .box .. | .alloc .. | .bslice .. | .store .. | .callN .. | .callG .. | .callV .. | .app .. | .mksl .. | .carry .. | .bad => false
  | _ => true

theorem fldM_pure {P : Program} {t off : Nat} {x : MO} {mi : MI} (h : fldM P t off x = some mi) : pureM mi = true := by
  unfold fldM at h
  split at h
  · rename_i d n _ _
    simp at h
    cases hd : aggD d <;> rw [hd] at h <;> subst h <;> rfl
  · simp at h

theorem compP_pure {P : Program} {eqs : TypeId → Option (List SK)} {o : Oper} {mi : MI} (h : compP P eqs o = some mi) : pureM mi = true := by
  unfold compP at h
  (repeat' split at h) <;> first
    | (simp at h; done)
    | (simp at h; subst h; rfl)
    | (obtain ⟨_, _, rfl⟩ := map_some h; rfl)
    | exact fldM_pure h
    | (rename_i fields _ _
       cases hb : (fields.toList.all fun f => (szOf P f.type).isSome) <;> rw [hb] at h
       · simp at h
       · obtain ⟨_, _, rfl⟩ := map_some h; rfl)
    | (rename_i d s _ _
       cases hd : aggD d <;> rw [hd] at h
       · cases hs : s.beq 1 <;> rw [hs] at h
         · simp at h
         · simp at h; subst h; rfl
       · simp at h; subst h; rfl)

theorem val_pure {Γ : Gam} {mi : MI} {t : List AV} {H : Heap} {K : K1} (hp : pureM mi = true) (hv : val Γ mi t H K) : pval mi t fun a => K a H := by
  unfold val at hv
  split at hv <;> first | exact hv | simp [pureM] at hp

theorem val_sound0 {P : Program} {eqs : TypeId → Option (List SK)} {neut : TypeId → Bool} {Γ : Gam} (hΓ : Γ.ok P) {o : Oper} {mi : MI} {t : List AV} {a : Act} {w0 w : World} {ρ : List Loc} {H : Heap} {K : K1} (hE : ∀ ty ks, eqs ty = some ks → EqOK P ty ks)
    (hc : compM0 P eqs neut o = some mi) (hT : TR ρ t a) (hR : Rel w0 ρ H w) (hv : val Γ mi t H K) : OpOK P o a w0 ρ H (keeps mi) w K := by
  unfold compM0 at hc
  split at hc
  case h_1 ty x ho =>
    split at hc
    · rename_i m d n h1 h2 h3
      simp at hc
      have hr := ev_sound hT h1
      cases hagg : aggD d with
      | true =>
        rw [hagg] at hc
        simp only [cond_true] at hc
        subst hc
        simp only [val] at hv
        split at hv
        · rename_i id ix c he
          rw [he] at hr
          unfold blkAt at hv
          split at hv
          · rename_i B hB
            simp only [asr_iff] at hv
            obtain ⟨q1, q2, hk⟩ := hv
            cases hr1 : a.eval x <;> rw [hr1] at hr <;> cases hr
            rename_i b o' e' hρ
            obtain ⟨vs, g1, g2⟩ := load_cells (P := P) hR hB hρ (by simpa [Nat.blt_eq] using q1) (Nat.le_of_ble_eq_true q2)
            have : (execOp a.eval o).run P w = .ok (.value (.agg vs.toArray)) w := by
              simp [execOp, ho, hr1, Instr.loadAt, Instr.sureAddr, loadVar, run_agg h2, hagg, run_size h3, g1]
            unfold OpOK
            rw [this]
            exact Done.same hR (.agg g2) hk
          · exact hv.elim
        · exact hv.elim
      | false =>
        rw [hagg] at hc
        simp only [cond_false] at hc
        subst hc
        simp only [val] at hv
        split at hv
        · rename_i id ix c he
          rw [he] at hr
          unfold blkAt at hv
          split at hv
          · rename_i B hB
            simp only [asr_iff] at hv
            obtain ⟨q1, hk⟩ := hv
            split at hk
            · rename_i av hav
              cases hr1 : a.eval x <;> rw [hr1] at hr <;> cases hr
              rename_i b o' e' hρ
              obtain ⟨b1, o1, k1, k2⟩ := hR.blk id B hB
              rw [hρ] at k1
              simp at k1
              obtain ⟨rfl, rfl, rfl⟩ := k1
              obtain ⟨v, g1, g2⟩ := k2.cell ix c av (by simpa [Nat.blt_eq] using q1) hav
              have : (execOp a.eval o).run P w = .ok (.value v) w := by
                simp [execOp, ho, hr1, Instr.loadAt, Instr.sureAddr, loadVar, run_agg h2, hagg, g1]
              unfold OpOK
              rw [this]
              exact Done.same hR g2 hk
            · exact hk.elim
          · exact hv.elim
        · exact hv.elim
    · simp at hc
  case h_2 ty x y ho =>
    split at hc
    · rename_i m my n h1 h2 h3
      simp at hc; subst hc
      have hr := ev_sound hT h1
      have hry := ev_sound hT h2
      simp only [val] at hv
      split at hv
      · rename_i id ix c he
        rw [he] at hr
        unfold blkAt at hv
        split at hv
        · rename_i B hB
          simp only [asr_iff, Bool.and_eq_true] at hv
          obtain ⟨_, ⟨⟨⟨⟨q1, q2⟩, q3⟩, q4⟩, q5⟩, hk⟩ := hv
          cases hr1 : a.eval x <;> rw [hr1] at hr <;> cases hr
          rename_i b o' e' hρ
          obtain ⟨b1, o1, k1, k2⟩ := hR.blk id B hB
          rw [hρ] at k1
          simp at k1
          obtain ⟨rfl, rfl, rfl⟩ := k1
          obtain ⟨rfl, hb, cs, hcs⟩ := k2.own q1
          have hix : ix < B.n := by simpa [Nat.blt_eq] using q2
          have hcells := hry.cells
          have hlen := Nat.eq_of_beq_eq_true q3
          have hvl := hcells.length
          have hle := Nat.le_of_ble_eq_true q4
          have hvn : (a.eval y).cells.size = n := by
            have : (a.eval y).cells.toList.length = (a.eval y).cells.size := by simp
            omega
          have hput := hR.put (c := c) hB hρ k2 q1 hix hcells (by omega) (cs := cs.toList) (by simpa using hcs)
          have hsz : ix * B.esz + c + (a.eval y).cells.toList.length ≤ cs.toList.length := by
            rcases Nat.eq_zero_or_pos n with h0 | h0
            · rcases Nat.eq_zero_or_pos (B.f ix).length with h5 | h5
              · have hw := k2.wide ix hix
                rw [h5] at hw
                have hc0 : c = 0 := by omega
                rw [← hw, hc0, ← hvl, hlen, h0]
                simp
              · have hl : (B.f ix).length - 1 < (B.f ix).length := by omega
                obtain ⟨v, g1, _⟩ := k2.cell ix ((B.f ix).length - 1) _ hix (List.getElem?_eq_getElem hl)
                simp only [World.cell?, hcs] at g1
                have := (Array.getElem?_eq_some_iff.1 (by simpa using g1)).1
                simp at this ⊢
                simp at hvl
                omega
            · have hl : c + n - 1 < (B.f ix).length := by omega
              obtain ⟨v, g1, _⟩ := k2.cell ix (c + n - 1) _ hix (List.getElem?_eq_getElem hl)
              simp only [World.cell?, hcs] at g1
              have := (Array.getElem?_eq_some_iff.1 (by simpa using g1)).1
              simp at this hvl ⊢
              omega
          have hst := run_storeCells (P := P) (b := b) (off := 0 + ix * B.esz + c) (t := B.ty) (a.eval y).cells.toList 0 w cs.toList (by simpa using hcs) (by simpa using hsz) (okCells_sound hcells q5)
          have : (execOp a.eval o).run P w = .ok .skip (World.withRow w b (cs.toList.take (ix * B.esz + c) ++ (a.eval y).cells.toList ++ cs.toList.drop (ix * B.esz + c + (a.eval y).cells.toList.length)) B.ty) := by
            simp only [execOp, ho, hr1, Instr.storeAt, Instr.sureAddr, Sem.run_bind, Sem.run_pure, Result.andThen_ok, storeVar, run_size h3]
            rw [if_neg (fun hne => hne hvn)]
            rw [hst]
            simp
          unfold OpOK
          rw [this]
          exact ⟨undefA, ρ, _, List.prefix_refl _, fun h => by simp [keeps] at h, undef_R, hput, hk⟩
        · exact hv.elim
      · exact hv.elim
    · simp at hc
  case h_3 ty x ho =>
    obtain ⟨m, h1, rfl⟩ := map_some hc
    have hr := ev_sound hT h1
    simp only [val] at hv
    have : (execOp a.eval o).run P w = .ok (.value (.pointer (some ⟨w.heap.size, 0, none⟩))) { w with heap := w.heap.push (.cells (a.eval x).cells ty) } := by
      simp [execOp, ho, Instr.box, newVar, newRow]
    unfold OpOK
    rw [this]
    exact new_sound hR hr.cells (fun ρ' hρ => by have := R.ptr (ρ := ρ') (ix := 0) (c := 0) hρ; simpa using this) hv
  case h_4 ty ho =>
    obtain ⟨zs, h1, rfl⟩ := map_some hc
    simp only [val] at hv
    unfold zeroOf at h1
    split at h1
    · rename_i z hz
      have hcs := cavs_sound (ρ := ρ) h1
      have : (execOp a.eval o).run P w = .ok (.value (.pointer (some ⟨w.heap.size, 0, none⟩))) { w with heap := w.heap.push (.cells z.cells ty) } := by
        simp [execOp, ho, Instr.alloc, run_zero hz, newVar, newRow]
      unfold OpOK
      rw [this]
      exact new_sound hR hcs (fun ρ' hρ => by have := R.ptr (ρ := ρ') (ix := 0) (c := 0) hρ; simpa using this) hv
    · simp at h1
  case h_5 ty len parts ho =>
    split at hc
    · rename_i e hu
      split at hc
      · rename_i s zs hs hz
        cases hzero : (len.beq 0 && parts.toList.isEmpty) with
        | true =>
          rw [hzero] at hc
          simp only [cond_true, Option.some.injEq] at hc
          subst hc
          simp only [Bool.and_eq_true] at hzero
          have h0 := Nat.eq_of_beq_eq_true hzero.1
          subst h0
          have hp : parts = #[] := by
            apply Array.ext'
            simpa using hzero.2
          subst hp
          simp only [val, List.map_nil, fillA] at hv
          have : (execOp a.eval o).run P w = .ok (.value (.slice (some ⟨w.heap.size, 0, none⟩) 0 0)) { w with heap := w.heap.push (.cells #[] e) } := by
            simp [execOp, ho, Instr.buildSlice, run_underlying hu, run_size hs, Instr.fill, newRow]
            have : Array.range 0 = #[] := Array.range_zero'
            simp [this]
          unfold OpOK
          rw [this]
          exact new_sound hR .nil (fun ρ' hρ => by have := R.slc (ρ := ρ') (ix := 0) (c := 0) (l := 0) (cap := 0) hρ; simpa using this) hv
        | false =>
        rw [hzero] at hc
        simp only [cond_false] at hc
        cases hcnd : (Nat.ble (len * s) 16777216 && Nat.blt 0 (len * s) && Nat.blt 0 zs.length) with
        | false => simp [hcnd] at hc
        | true =>
          simp only [hcnd, cond_true] at hc
          obtain ⟨ps, h3, rfl⟩ := map_some hc
          simp only [Bool.and_eq_true] at hcnd
          obtain ⟨⟨c1, c2⟩, c3⟩ := hcnd
          have c1 := Nat.le_of_ble_eq_true c1
          have c2 : 0 < len * s := by simpa [Nat.blt_eq] using c2
          have c3 : 0 < zs.length := by simpa [Nat.blt_eq] using c3
          simp only [val] at hv
          split at hv
          · rename_i out hf
            unfold zeroOf at hz
            split at hz
            · rename_i z hz0
              have hcs := cavs_sound (ρ := ρ) hz
              have hzl : zs.length = z.cells.size := by simpa using hcs.length
              have hrow : RL ρ ((List.range (len * s)).map fun i => zs.getD (i % zs.length) undefA) (((Array.range (len * s)).map (fun i => z.cells[i % z.cells.size]!)).toList) := by
                refine RL.of (by simp) fun i av hi => ?_
                have hlt : i < len * s := by have := (List.getElem?_eq_some_iff.1 hi).1; simpa using this
                have hm : i % zs.length < zs.length := Nat.mod_lt _ c3
                simp [hlt, List.getElem?_eq_getElem hm] at hi
                obtain ⟨v, g1, g2⟩ := hcs.get (List.getElem?_eq_getElem hm)
                refine ⟨v, ?_, hi ▸ g2⟩
                rw [hzl] at g1 hm
                have g1' : z.cells[i % z.cells.size]? = some v := by simpa using g1
                simp [hlt, getElem!_def, g1']
              obtain ⟨r, g1, g2⟩ := fill_sound hT h3 hrow hf
              have : (execOp a.eval o).run P w = .ok (.value (.slice (some ⟨w.heap.size, 0, none⟩) len len)) { w with heap := w.heap.push (.cells r e) } := by
                simp only [execOp, ho, Instr.buildSlice, Sem.run_bind, run_underlying hu, Result.andThen_ok, run_size hs]
                rw [if_neg (by omega)]
                simp only [Sem.run_bind, Sem.run_pure, Result.andThen_ok]
                rw [if_neg (by omega)]
                simp only [Sem.run_bind, run_zero hz0, Result.andThen_ok, Sem.run_pure]
                rw [show ((parts.map fun (x : Nat × Operand) => (x.1, a.eval x.2)).toList) = (parts.toList.map fun (p : Nat × Operand) => (p.1, a.eval p.2)) from by simp, g1]
                rfl
              unfold OpOK
              rw [this]
              exact new_sound hR g2 (fun ρ' hρ => by have := R.slc (ρ := ρ') (ix := 0) (c := 0) (l := len) (cap := len) hρ; simpa using this) hv
            · simp at hz
          · exact hv.elim
      · simp at hc
    · simp at hc
  case h_6 f args ats ho =>
    obtain ⟨as, h1, rfl⟩ := map_some hc
    have hcs := cops_sound hT h1
    have hargs : (args.toList.map a.eval).toArray = args.map a.eval := by apply Array.ext'; simp
    have hrun : goesTo P f = true → (execOp a.eval o).run P w = .ok (.enter f (args.map a.eval)) w := fun hg => by
      simp [execOp, ho, resolve, Deferred.ofValue, invoke, Act.eval, run_call hg]
    unfold callM at hv ⊢
    split at hv
    · rename_i b mx my mc' hext
      simp only [val] at hv
      obtain ⟨v, av, g1, g2, g3⟩ := carry_sound (P := P) hext hcs hv
      have : (execOp a.eval o).run P w = .ok (.value v) w := by
        have := g1 w
        rw [hargs] at this
        simp [execOp, ho, resolve, Deferred.ofValue, invoke, Act.eval, this]
      unfold OpOK
      rw [this]
      exact Done.same hR g2 g3
    cases hn : neut f with
    | true =>
      simp only [hn, cond_true, val] at hv ⊢
      obtain ⟨hg, hcall⟩ := hΓ.n f _ _ _ hv
      unfold OpOK
      rw [hrun hg, ← hargs]
      refine (hcall w0 ρ w _ hcs hR).mono fun e w' ⟨v, av, k1, k2, k3, k4⟩ => ⟨v, k1, av, ρ, H, List.prefix_refl _, fun _ => List.prefix_refl _, k2, k3, k4⟩
    | false =>
      simp only [hn, cond_false, val] at hv ⊢
      obtain ⟨hg, hcall⟩ := hΓ.g f _ _ _ hv
      unfold OpOK
      rw [hrun hg, ← hargs]
      refine (hcall w0 ρ w _ hcs hR).mono fun e w' ⟨v, av, ρ', H', k1, k2, k3, k4, k5⟩ => ⟨v, k1, av, ρ', H', k2, fun h => by simp [keeps] at h, k3, k4, k5⟩
  case h_7 x args ats ho =>
    obtain ⟨as, h1, rfl⟩ := map_some hc
    have hcs := cops_sound hT h1
    have hr := hT.get x
    simp only [val, ev] at hv
    split at hv
    · rename_i f caps he
      rw [he] at hr
      cases hr1 : a.tmps.getD x undef <;> rw [hr1] at hr <;> cases hr
      rename_i vs hvs
      obtain ⟨hg, hcall⟩ := hΓ.g f _ _ _ hv
      have hrun : (execOp a.eval o).run P w = .ok (.enter f (args.toList.map a.eval ++ vs).toArray) w := by
        have : (args.map a.eval) ++ vs.toArray = (args.toList.map a.eval ++ vs).toArray := by apply Array.ext'; simp
        simp only [execOp, ho, resolve, Act.eval, hr1, Deferred.ofValue, Sem.run_bind, Sem.run_pure, Result.andThen_ok, invoke]
        rw [← this]
        simpa using run_call hg (args.map a.eval ++ vs.toArray) w
      unfold OpOK
      rw [hrun]
      refine (hcall w0 ρ w _ (hcs.append hvs) hR).mono fun e w' ⟨v, av, ρ', H', k1, k2, k3, k4, k5⟩ => ⟨v, k1, av, ρ', H', k2, fun h => by simp [keeps] at h, k3, k4, k5⟩
    · exact hv.elim
  case h_8 args ats ho =>
    split at hc
    · rename_i x y t' u' hargs hats
      have ha : args = #[x, y] := by apply Array.ext'; simpa using hargs
      have hat : ats = #[t', u'] := by apply Array.ext'; simpa using hats
      subst ha; subst hat
      split at hc
      · rename_i mx my e h1 h2 h3
        split at hc
        · rename_i s zs i hs hz hi
          cases hcnd : (t'.beq u' && zs.length.beq s && Nat.blt 0 s) with
          | false => rw [hcnd] at hc; simp at hc
          | true =>
            rw [hcnd] at hc
            simp only [cond_true, Option.some.injEq] at hc
            subst hc
            simp only [Bool.and_eq_true] at hcnd
            obtain rfl := Nat.eq_of_beq_eq_true hcnd.1.1
            have c2 := Nat.eq_of_beq_eq_true hcnd.1.2
            have c3 : 0 < s := by simpa [Nat.blt_eq] using hcnd.2
            unfold zeroOf at hz
            split at hz
            · rename_i z hz0
              have hzl := (cavs_sound (ρ := ρ) hz).length
              have hiz : i.zero = some z := by rw [hi] at hz0; simpa using hz0
              have his : i.size = s := by unfold szOf at hs; rw [hi] at hs; simpa using hs
              simp only [val] at hv
              obtain ⟨v, w', g1, g2⟩ := app_sound (P := P) (ty' := o.type) hR h3 hi hiz his (by rw [← c2, hzl]; simp) c3 (ev_sound hT h1) (ev_sound hT h2) hv
              have : (execOp a.eval o).run P w = .ok (.value v) w' := by
                simp only [execOp, ho, resolve, invoke, builtin, Sem.run_bind, Sem.run_pure, Result.andThen_ok, List.map_toArray, List.map_cons, List.map_nil, g1]
              unfold OpOK
              rw [this]
              exact g2
            · simp at hz
        · simp at hc
      · simp at hc
    · simp at hc
  case h_9 t' l c ho =>
    split at hc
    · rename_i ml mc' e h1 h2 h3
      split at hc
      · rename_i s zs i hs hz hi
        cases hcnd : (zs.length.beq s && Nat.blt 0 s) with
        | false => rw [hcnd] at hc; simp at hc
        | true =>
          rw [hcnd] at hc
          simp only [cond_true, Option.some.injEq] at hc
          subst hc
          simp only [Bool.and_eq_true] at hcnd
          have c2 := Nat.eq_of_beq_eq_true hcnd.1
          have c3 : 0 < s := by simpa [Nat.blt_eq] using hcnd.2
          unfold zeroOf at hz
          split at hz
          · rename_i z hz0
            have hcs := cavs_sound (ρ := ρ) hz
            have hzl : zs.length = z.cells.size := by simpa using hcs.length
            have hiz : i.zero = some z := by rw [hi] at hz0; simpa using hz0
            have his : i.size = s := by unfold szOf at hs; rw [hi] at hs; simpa using hs
            have r1 := ev_sound hT h1
            have r2 := ev_sound hT h2
            simp only [val] at hv
            split at hv
            · rename_i k1 n k2 k e1 e2
              rw [e1] at r1
              rw [e2] at r2
              simp only [asr_iff, Bool.and_eq_true, decide_eq_true_eq] at hv
              obtain ⟨⟨⟨⟨q1, q2⟩, q3⟩, q4⟩, hk⟩ := hv
              cases hr1 : a.eval l <;> rw [hr1] at r1 <;> cases r1
              cases hr2 : a.eval c <;> rw [hr2] at r2 <;> cases r2
              have hrun := run_make (P := P) w t' e i z h3 hi hiz k1 k2 n k q1 q2 q3 q4
              have hrow : RL ρ (madeA zs k.toNat) (madeCells z.cells (k.toNat * i.size)).toList := by
                refine RL.of (by simp [madeA, madeCells, his, c2]) fun j av hj => ?_
                unfold madeA at hj
                have hlt : j < k.toNat * zs.length := by have := (List.getElem?_eq_some_iff.1 hj).1; simpa using this
                have hm : j % zs.length < zs.length := Nat.mod_lt _ (by omega)
                simp [hlt, List.getElem?_eq_getElem hm] at hj
                obtain ⟨v, g1, g2⟩ := hcs.get (List.getElem?_eq_getElem hm)
                refine ⟨v, ?_, hj ▸ g2⟩
                rw [hzl] at g1 hm
                have g1' : z.cells[j % z.cells.size]? = some v := by simpa using g1
                rw [c2, ← his] at hlt
                simp [madeCells, hlt, getElem!_def, g1']
              have : (execOp a.eval o).run P w = .ok (.value (.slice (some ⟨w.heap.size, 0, none⟩) n.toNat k.toNat)) { w with heap := w.heap.push (.cells (madeCells z.cells (k.toNat * i.size)) e) } := by
                simp only [execOp, ho, hr1, hr2, Sem.run_bind, hrun]
                rfl
              unfold OpOK
              rw [this]
              exact new_sound hR hrow (fun ρ' hρ => by have := R.slc (ρ := ρ') (ix := 0) (c := 0) (l := n.toNat) (cap := k.toNat) hρ; simpa using this) hk
            · exact hv.elim
          · simp at hz
      · simp at hc
    · simp at hc
  all_goals
    have hv' := val_pure (compP_pure hc) hv
    obtain ⟨v, av, k1, k2, k3⟩ := pure_sound hE hc hT hv'
    unfold OpOK
    rw [k1 w]
    exact Done.same hR k2 k3

theorem val_sound {P : Program} {eqs : TypeId → Option (List SK)} {neut : TypeId → Bool} {Γ : Gam} (hΓ : Γ.ok P) {o : Oper} {mi : MI} {t : List AV} {a : Act} {w0 w : World} {ρ : List Loc} {H : Heap} {K : K1} (hE : ∀ ty ks, eqs ty = some ks → EqOK P ty ks)
    (hc : compM P eqs neut o = some mi) (hT : TR ρ t a) (hR : Rel w0 ρ H w) (hv : val Γ mi t H K) : OpOK P o a w0 ρ H (keeps mi) w K := by
  rcases compM_cases hc with rfl | hc
  · exact hv.elim
  · exact val_sound0 hΓ hE hc hT hR hv
end Go.Proofs.Ytpfmnmcpffajeaa.V
