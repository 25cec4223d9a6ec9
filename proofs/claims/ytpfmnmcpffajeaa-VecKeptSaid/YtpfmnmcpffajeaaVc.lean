/-
  A second semantics of Go's operations. Part 3: the model's operations turned into instructions, and that those which leave memory alone are sound.
-/
import Derived.Test.YtpfmnmcpffajeaaVb
set_option linter.unusedVariables false
set_option linter.unusedSimpArgs false
namespace Go.Proofs.Ytpfmnmcpffajeaa.V
open Go Go.RowKit

def szOf (P : Program) (t : TypeId) : Option Nat := (P.info? t).map (·.size)
def aggD : TypeDesc → Bool
  | .struct _ | .array _ _ => true
  | _ => false
def zeroOf (P : Program) (t : TypeId) : Option (List AV) := match (P.info? t).bind (·.zero) with
  | some z => cavs z.cells.toList
  | none => none

theorem run_info {P : Program} {t : TypeId} {i : TypeInfo} (h : P.info? t = some i) (w : World) : (typeInfo t).run P w = .ok i w := by
  simp [typeInfo, h]
theorem run_size {P : Program} {t : TypeId} {n : Nat} (h : szOf P t = some n) (w : World) : (sizeOf t).run P w = .ok n w := by
  unfold szOf at h
  cases e : P.info? t with
  | none => simp [e] at h
  | some i => simp [e] at h; subst h; simp [sizeOf, run_info e]
theorem run_zero {P : Program} {t : TypeId} {z : Value} (h : (P.info? t).bind (·.zero) = some z) (w : World) : (zeroValue t).run P w = .ok z w := by
  cases e : P.info? t with
  | none => simp [e] at h
  | some i => simp [e] at h; simp [zeroValue, run_info e, h]
theorem run_agg {P : Program} {t : TypeId} {d : TypeDesc} (h : P.underlying t = some d) (w : World) : (isAgg t).run P w = .ok (aggD d) w := by
  simp only [isAgg, Sem.run_bind, run_underlying h, Result.andThen_ok]
  cases d <;> rfl
theorem run_part {P : Program} {t : TypeId} {d : TypeDesc} {n : Nat} (h : P.underlying t = some d) (hs : szOf P t = some n) (cs : Array Value) (off : Nat) (w : World) :
    (part t cs off).run P w = if aggD d then .ok (.agg (cs.extract off (off + n))) w else match cs[off]? with
      | some v => .ok v w
      | none => .halt (.stuck "part: no such cell") w := by
  simp only [part, Sem.run_bind, run_agg h, Result.andThen_ok, Sem.run_ite]
  split
  · simp [run_size hs]
  · cases cs[off]? <;> rfl

def fldM (P : Program) (t : TypeId) (off : Nat) (x : MO) : Option MI :=
  match P.underlying t, szOf P t with
  | some d, some n => some (cond (aggD d) (.fldn off n x) (.fld off x))
  | _, _ => none

def partsM (place : Nat → Option (Nat × Nat)) : List (Nat × Operand) → Option (List (Nat × Nat × MO))
  | [] => some []
  | (i, x) :: l => match place i, cop x, partsM place l with
    | some (o, s), some m, some r => some ((o, s, m) :: r)
    | _, _, _ => none

def optM : Option Operand → Option (Option MO)
  | none => some none
  | some x => (cop x).map some

def compP (P : Program) (eqs : TypeId → Option (List SK)) (o : Oper) : Option MI :=
  match o.op with
  | .move x | .assign x => (cop x).map .mv
  | .pick c a b => match cop c, cop a, cop b with
    | some c, some a, some b => some (.pick c a b)
    | _, _, _ => none
  | .unOp op _ x => (cop x).map (.un op)
  | .binOp op t x y _ => match cop x, cop y with
    | some x, some y => match P.underlying t with
      | some (.int _) | some .string => some (.bin op x y)
      | some .bool => match op with
        | .eql => some (.beq false x y)
        | .neq => some (.beq true x y)
        | _ => none
      | some (.struct _) | some (.array ..) => match eqs t, op with
        | some ks, .eql => some (.eqa false ks x y)
        | some ks, .neq => some (.eqa true ks x y)
        | _, _ => none
      | some (.slice _) => match y, op with
        | .c .nslc, .eql => some (.snil false x)
        | .c .nslc, .neq => some (.snil true x)
        | _, _ => none
      | _ => none
    | _, _ => none
  | .convert src dst x => match cop x, P.underlying src, P.underlying dst with
    | some x, some (.int _), some (.int k) => some (.conv k x)
    | _, _, _ => none
  | .build t parts => match zeroOf P t, P.underlying t with
    | some zs, some (.struct fields) => cond (fields.toList.all fun f => (szOf P f.type).isSome) ((partsM (fun i => (fields[i]?).map fun f => (f.offset, (szOf P f.type).getD 0)) parts.toList).map (.build zs)) none
    | some zs, some (.array _ e) => match szOf P e with
      | some s => (partsM (fun i => some (i * s, s)) parts.toList).map (.build zs)
      | none => none
    | _, _ => none
  | .fieldAddr s x i => match P.underlying s, cop x with
    | some (.struct fields), some x => match fields[i]? with
      | some f => match szOf P f.type with
        | some (n + 1) => some (.faddr f.offset x)
        | _ => none
      | none => none
    | _, _ => none
  | .field s x i => match P.underlying s, cop x with
    | some (.struct fields), some x => match fields[i]? with
      | some f => fldM P f.type f.offset x
      | none => none
    | _, _ => none
  | .indexAddr t x i => match P.underlying t, cop x, cop i with
    | some (.array n e), some x, some i => match szOf P e with
      | some s => some (.iaddrA n s x i)
      | none => none
    | some (.slice e), some x, some i => match szOf P e with
      | some s => some (.iaddrS s x i)
      | none => none
    | _, _, _ => none
  | .index t x i => match P.underlying t, cop x, cop i with
    | some (.array n e), some x, some i => match P.underlying e, szOf P e with
      | some d, some s => cond (aggD d) (some (.idxn n s x i)) (cond (s.beq 1) (some (.idx n x i)) none)
      | _, _ => none
    | some .string, some x, some i => some (.sidx x i)
    | _, _, _ => none
  | .slice t x lo hi mx => match P.underlying t, cop x, optM lo, optM hi, optM mx with
    | some (.array n e), some x, some lo, some hi, some none => match szOf P e with
      | some s => some (.slA n s x lo hi)
      | none => none
    | some (.slice e), some x, some lo, some hi, some none => match szOf P e with
      | some s => some (.slS s x lo hi none)
      | none => none
    | some (.slice e), some x, some lo, some (some hi), some (some mx) => match szOf P e with
      | some s => some (.slS s x lo (some hi) (some mx))
      | none => none
    | some .string, some x, some lo, some hi, some none => some (.slStr x lo hi)
    | _, _, _, _, _ => none
  | .extract x i => (cop x).map (.ext · i)
  | .makeFunc (.func f) first captured => match first.toList, cops captured.toList with
    | [], some caps => some (.mkf f caps)
    | _, _ => none
  | .nilCheck x => (cop x).map .ncheck
  | .call { callee := .builtin .len, args, argTypes } => match args.toList, argTypes.toList with
    | [x], [t] => match cop x, P.underlying t with
      | some x, some (.slice _) => some (.len x)
      | some x, some .string => some (.slen x)
      | some x, some (.array n _) => some (.mv (.c (.i .i64 n)))
      | _, _ => none
    | _, _ => none
  | .call { callee := .builtin .cap, args, argTypes } => match args.toList, argTypes.toList with
    | [x], [t] => match cop x, P.underlying t with
      | some x, some (.slice _) => some (.cap x)
      | _, _ => none
    | _, _ => none
  | .call { callee := .builtin .max, args, .. } => match cops args.toList with
    | some (x :: xs) => some (.mnmx true x xs)
    | _ => none
  | .call { callee := .builtin .min, args, .. } => match cops args.toList with
    | some (x :: xs) => some (.mnmx false x xs)
    | _ => none
  | _ => none

/-- '==' of the values of a struct or array type, cell by cell. -/
def EqOK (P : Program) (t : TypeId) (ks : List SK) : Prop :=
  P.eqGuardType P.depth t = false ∧ ∀ (ρ : List Loc) (xs ys : List AV) (vs us : List Value) (r : Bool), RL ρ xs vs → RL ρ ys us → eqO ks xs ys = some r →
    ∀ w, (Op.equal t (.agg vs.toArray) (.agg us.toArray)).run P w = .ok r w

/-- What an operation yields in every world. -/
def Yv (P : Program) (o : Oper) (a : Act) (ρ : List Loc) (K : AV → Prop) : Prop :=
  ∃ v av, (∀ w, (execOp a.eval o).run P w = .ok (.value v) w) ∧ R ρ av v ∧ K av

theorem Yv.mk {P : Program} {o : Oper} {a : Act} {ρ : List Loc} {K : AV → Prop} {v : Value} {av : AV} (h : ∀ w, (execOp a.eval o).run P w = .ok (.value v) w)
    (hr : R ρ av v) (hk : K av) : Yv P o a ρ K := ⟨v, av, h, hr, hk⟩

theorem Yb.mk {ρ : List Loc} {P : Program} {s : Sem Value} {K : AV → Prop} {av : AV} {v : Value} (hk : K av) (hr : R ρ av v) (h : ∀ w, s.run P w = .ok v w) :
    ∃ v av, (∀ w, s.run P w = .ok v w) ∧ R ρ av v ∧ K av := ⟨v, av, h, hr, hk⟩

theorem bin_sound {ρ : List Loc} {P : Program} {op : BinOp} {t : TypeId} {xo yo : Operand} {x y : AV} {vx vy : Value} {K : AV → Prop} (hx : R ρ x vx) (hy : R ρ y vy) (hv : binV op x y K) :
    ∃ v av, (∀ w, (do eqGuard op t xo yo vx vy; binOp op t vx vy : Sem Value).run P w = .ok v w) ∧ R ρ av v ∧ K av := by
  unfold binV at hv
  split at hv
  · rename_i k a k' b
    cases hx; cases hy
    unfold binI at hv
    cases op <;> simp only [asr_iff, keq, decide_eq_true_eq, Bool.and_eq_true] at hv <;>
      first
      | exact hv.elim
      | (obtain ⟨rfl, hk⟩ := hv; exact Yb.mk hk (R.i _ _) (fun w => by simp [go_sem, Op.intArith, bitI, Op.intBits]))
      | (obtain ⟨rfl, hk⟩ := hv; exact Yb.mk hk (R.b _) (fun w => by simp [go_sem]))
      | (obtain ⟨⟨rfl, h0⟩, hk⟩ := hv; exact Yb.mk hk (R.i _ _) (fun w => by simp [go_sem, Op.intDiv, h0]))
      | (obtain ⟨h0, hk⟩ := hv
         have : ¬ b < 0 := by omega
         exact Yb.mk hk (R.i _ _) (fun w => by simp only [eqGuard_shl, eqGuard_shr, Sem.run_bind, Sem.run_pure, Result.andThen_ok, binOp_shl, binOp_shr, Op.shift, if_neg this]))
  · rename_i a b
    cases hx; cases hy
    cases op <;> simp only [asr_iff, decide_eq_true_eq] at hv <;>
      first
      | exact hv.elim
      | exact Yb.mk hv (R.b _) (fun w => by simp only [eqGuard_at_string, Sem.run_bind, Sem.run_pure, Result.andThen_ok, binOp, Op.stringOp])
      | (obtain ⟨h0, hk⟩ := hv
         have : ¬ (((a.size + b.size : Nat) : Int) > IntKind.i64.max) := by simp; omega
         exact Yb.mk hk (R.s _) (fun w => by simp only [eqGuard_at_string, Sem.run_bind, Sem.run_pure, Result.andThen_ok, binOp, Op.stringOp, if_neg this]))
  · exact hv.elim
end Go.Proofs.Ytpfmnmcpffajeaa.V
