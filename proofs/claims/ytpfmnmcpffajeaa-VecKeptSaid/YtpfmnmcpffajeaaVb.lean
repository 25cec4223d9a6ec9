/-
  A second semantics of Go's operations. Part 2: operations without a call that leave memory alone: what they yield, and that the model's yield it in every world.
-/
import Derived.Test.YtpfmnmcpffajeaaVa
set_option linter.unusedVariables false
set_option linter.unusedSimpArgs false
namespace Go.Proofs.Ytpfmnmcpffajeaa.V
open Go Go.RowKit

inductive MO where
  | t (n : Nat)
  | c (a : AV)
  deriving Inhabited

def ev (t : List AV) : MO → AV
  | .t n => t.getD n (.v undef)
  | .c a => a

def cav0 : Value → Option AV
  | .int k n => some (.i k n)
  | .bool x => some (.b x)
  | .string x => some (.s x)
  | .slice none 0 0 => some .nslc
  | .slice .. => none
  | .agg _ => none
  | .tuple _ => none
  | .func .. => none
  | .pointer (some _) => none
  | x => some (.v x)

def cavs : List Value → Option (List AV)
  | [] => some []
  | v :: vs => match cav0 v, cavs vs with
    | some a, some as => some (a :: as)
    | _, _ => none

def cav : Value → Option AV
  | .agg cs => (cavs cs.toList).map .agg
  | x => cav0 x

def cop : Operand → Option MO
  | .tmp t => some (.t t)
  | .const v => (cav v).map .c
  | .func f => some (.c (.fn f []))
  | .global _ => none

theorem cav0_sound {ρ : List Loc} {v : Value} {a : AV} (h : cav0 v = some a) : R ρ a v := by
  unfold cav0 at h
  split at h <;> simp at h <;> subst h
  · exact .i _ _
  · exact .b _
  · exact .s _
  · exact .nslc
  · rename_i h1 h2 h3 h4 h5 h6 h7 h8 h9
    refine .v ?_
    cases v <;> first | rfl | (exfalso; exact h6 _ rfl)

theorem cavs_sound {ρ : List Loc} : ∀ {vs : List Value} {as : List AV}, cavs vs = some as → RL ρ as vs
  | [], as, h => by simp [cavs] at h; subst h; exact .nil
  | v :: vs, as, h => by
    simp only [cavs] at h
    split at h
    · rename_i a as' h1 h2
      simp at h; subst h
      exact .cons (cav0_sound h1) (cavs_sound h2)
    · simp at h

theorem cav_sound {ρ : List Loc} {v : Value} {a : AV} (h : cav v = some a) : R ρ a v := by
  unfold cav at h
  split at h
  · rename_i cs
    cases e : cavs cs.toList with
    | none => simp [e] at h
    | some l => simp [e] at h; subst h; simpa using R.agg (cavs_sound (ρ := ρ) e)
  · exact cav0_sound h

abbrev TR (ρ : List Loc) (t : List AV) (a : Act) : Prop := RL ρ t a.tmps.toList

theorem undef_R {ρ : List Loc} : R ρ (.v undef) undef := .v rfl

theorem TR.get {ρ : List Loc} {t : List AV} {a : Act} (h : TR ρ t a) (n : Nat) : R ρ (t.getD n (.v undef)) (a.tmps.getD n undef) := by
  rw [List.getD_eq_getElem?_getD]
  cases e : t[n]? with
  | none =>
    have h1 := List.getElem?_eq_none_iff.1 e
    have h2 := h.length
    have h3 : ¬ n < a.tmps.size := by simp at h2; omega
    simp [Array.getD, h3]
    exact undef_R
  | some x =>
    obtain ⟨v, h1, h2⟩ := RL.get h e
    have h3 : a.tmps[n]? = some v := by simpa using h1
    obtain ⟨h4, h5⟩ := Array.getElem?_eq_some_iff.1 h3
    simp [Array.getD, h4]
    rw [h5]; exact h2

theorem ev_sound {ρ : List Loc} {t : List AV} {a : Act} (h : TR ρ t a) {o : Operand} {m : MO} (hm : cop o = some m) : R ρ (ev t m) (a.eval o) := by
  cases o with
  | tmp n => simp [cop] at hm; subst hm; exact h.get n
  | const v =>
    simp only [cop] at hm
    cases e : cav v with
    | none => simp [e] at hm
    | some x => simp [e] at hm; subst hm; exact cav_sound e
  | func f => simp [cop] at hm; subst hm; exact .fn .nil
  | global g => simp [cop] at hm

def cops : List Operand → Option (List MO)
  | [] => some []
  | o :: os => match cop o, cops os with
    | some a, some as => some (a :: as)
    | _, _ => none

theorem cops_sound {ρ : List Loc} {t : List AV} {a : Act} (h : TR ρ t a) : ∀ {os : List Operand} {ms : List MO}, cops os = some ms → RL ρ (ms.map (ev t)) (os.map a.eval)
  | [], ms, e => by simp [cops] at e; subst e; exact .nil
  | o :: os, ms, e => by
    simp only [cops] at e
    split at e
    · rename_i m ms' h1 h2
      simp at e; subst e
      exact .cons (ev_sound h h1) (cops_sound h h2)
    · simp at e

/-! ### Instructions -/
/-- The kind of a cell. -/
inductive SK where
  | i (k : IntKind)
  | b
  | s
  deriving Inhabited

inductive MI where
  | mv (x : MO)
  | pick (c a b : MO)
  | un (op : UnOp) (x : MO)
  | bin (op : BinOp) (x y : MO)
  | beq (neg : Bool) (x y : MO)
  | eqa (neg : Bool) (ks : List SK) (x y : MO)
  | conv (k : IntKind) (x : MO)
  | build (zs : List AV) (parts : List (Nat × Nat × MO))
  | faddr (off : Nat) (x : MO)
  | fld (off : Nat) (x : MO)
  | fldn (off n : Nat) (x : MO)
  | iaddrA (len sz : Nat) (x i : MO)
  | iaddrS (sz : Nat) (x i : MO)
  | idx (len : Nat) (x i : MO)
  | idxn (len sz : Nat) (x i : MO)
  | sidx (x i : MO)
  | slA (len sz : Nat) (x : MO) (lo hi : Option MO)
  | slS (sz : Nat) (x : MO) (lo hi mx : Option MO)
  | slStr (x : MO) (lo hi : Option MO)
  | len (x : MO)
  | slen (x : MO)
  | cap (x : MO)
  | mnmx (isMax : Bool) (x : MO) (xs : List MO)
  | ext (x : MO) (i : Nat)
  | mkf (f : FuncId) (caps : List MO)
  | ncheck (x : MO)
  | snil (neg : Bool) (x : MO)
  | load (x : MO)
  | loadn (n : Nat) (x : MO)
  | box (t : TypeId) (x : MO)
  | alloc (t : TypeId) (zs : List AV)
  | bslice (t : TypeId) (len : Nat) (zs : List AV) (parts : List (Nat × Nat × MO))
  | store (n : Nat) (x v : MO)
  | callN (f : FuncId) (args : List MO)
  | callG (f : FuncId) (args : List MO)
  | callV (x : MO) (args : List MO)
  | app (t : TypeId) (sz bytes : Nat) (x y : MO)
  | mksl (t : TypeId) (bytes : Nat) (zs : List AV) (l c : MO)
  | carry (sub : Bool) (x y c : MO)
  | bad
  deriving Inhabited

def asr (b : Bool) (p : Prop) : Prop := cond b p False
theorem asr_iff {b : Bool} {p : Prop} : asr b p ↔ b = true ∧ p := by cases b <;> simp [asr]

def bitI (op : BinOp) (k : IntKind) (x y : Int) : Int :=
  match op with
  | .and => k.wrap ((BitVec.ofInt k.bits x &&& BitVec.ofInt k.bits y).toNat : Int)
  | .or => k.wrap ((BitVec.ofInt k.bits x ||| BitVec.ofInt k.bits y).toNat : Int)
  | .xor => k.wrap ((BitVec.ofInt k.bits x ^^^ BitVec.ofInt k.bits y).toNat : Int)
  | _ => 0

def keq (k k' : IntKind) : Bool := decide (k = k')

def binI (op : BinOp) (k k' : IntKind) (a b : Int) (K : AV → Prop) : Prop :=
  match op with
  | .add => asr (keq k k') (K (.i k (k.wrap (a + b))))
  | .sub => asr (keq k k') (K (.i k (k.wrap (a - b))))
  | .mul => asr (keq k k') (K (.i k (k.wrap (a * b))))
  | .quo => asr (keq k k' && decide (b ≠ 0)) (K (.i k (k.wrap (a.tdiv b))))
  | .rem => asr (keq k k' && decide (b ≠ 0)) (K (.i k (a.tmod b)))
  | .and => asr (keq k k') (K (.i k (bitI .and k a b)))
  | .or => asr (keq k k') (K (.i k (bitI .or k a b)))
  | .xor => asr (keq k k') (K (.i k (bitI .xor k a b)))
  | .shl => asr (decide (0 ≤ b)) (K (.i k (k.wrap (a * 2 ^ (min b.toNat k.bits)))))
  | .shr => asr (decide (0 ≤ b)) (K (.i k (a.fdiv (2 ^ (min b.toNat k.bits)))))
  | .eql => asr (keq k k') (K (.b (a == b)))
  | .neq => asr (keq k k') (K (.b (a != b)))
  | .lss => asr (keq k k') (K (.b (decide (a < b))))
  | .leq => asr (keq k k') (K (.b (decide (a ≤ b))))
  | .gtr => asr (keq k k') (K (.b (decide (b < a))))
  | .geq => asr (keq k k') (K (.b (decide (b ≤ a))))
  | _ => False

def binV (op : BinOp) (x y : AV) (K : AV → Prop) : Prop :=
  match x, y with
  | .i k a, .i k' b => binI op k k' a b K
  | .s a, .s b =>
    match op with
    | .eql => K (.b (a.toList == b.toList))
    | .neq => K (.b (!(a.toList == b.toList)))
    | .add => asr (decide (((a.size + b.size : Nat) : Int) ≤ 9223372036854775807)) (K (.s (a ++ b)))
    | _ => False
  | _, _ => False

def eq1 : SK → AV → AV → Option Bool
  | .i k, .i k1 a, .i k2 b => cond (keq k1 k && keq k2 k) (some (a == b)) none
  | .b, .b a, .b b => some (a == b)
  | .s, .s a, .s b => some (a == b)
  | _, _, _ => none

def eqO : List SK → List AV → List AV → Option Bool
  | [], [], [] => some true
  | k :: ks, x :: xs, y :: ys => match eq1 k x y, eqO ks xs ys with
    | some b, some r => some (b && r)
    | _, _ => none
  | _, _, _ => none

def byteAt (s : ByteArray) (n : Nat) : Int := ((s.data.toList.getD n 0).toNat : Int)

def imax (x y : Int) : Int := if y > x then y else x
def imin (x y : Int) : Int := if y < x then y else x
def mnmxV (isMax : Bool) : AV → List AV → (AV → Prop) → Prop
  | a, [], K => K a
  | .i k x, .i _ y :: l, K => mnmxV isMax (.i k (cond isMax (imax x y) (imin x y))) l K
  | _, _, _ => False

def splice (l : List AV) (c : Nat) (cs : List AV) : List AV := l.take c ++ cs ++ l.drop (c + cs.length)

def fillA : List AV → List (Nat × Nat × AV) → Option (List AV)
  | cells, [] => some cells
  | cells, (off, size, a) :: rest =>
    cond ((cellsA a).length.beq size && Nat.ble (off + size) cells.length) (fillA (splice cells off (cellsA a)) rest) none

def evp (t : List AV) (p : Nat × Nat × MO) : Nat × Nat × AV := (p.1, p.2.1, ev t p.2.2)

def blkAt (H : Heap) (id : Nat) (k : Blk → Prop) : Prop :=
  match H[id]? with
  | some (some B) => k B
  | _ => False

/-- A bound of a slice expression: its number, or what stands for none. -/
def bnd (t : List AV) (x : Option MO) (d : Nat) (top : Nat) (K : Nat → Prop) : Prop :=
  match x with
  | none => K d
  | some m => match ev t m with
    | .i _ n => asr (decide (0 ≤ n) && decide (n ≤ (top : Int))) (K n.toNat)
    | _ => False

/-- What an instruction that leaves memory alone, and does not look at it, yields. -/
def pval (m : MI) (t : List AV) (K : AV → Prop) : Prop :=
  match m with
  | .mv x => K (ev t x)
  | .pick c a b => match ev t c with
    | .b x => cond x (K (ev t a)) (K (ev t b))
    | _ => False
  | .un op x => match op, ev t x with
    | .neg, .i k n => K (.i k (k.wrap (0 - n)))
    | .not, .b x => K (.b (!x))
    | _, _ => False
  | .bin op x y => binV op (ev t x) (ev t y) K
  | .beq neg x y => match ev t x, ev t y with
    | .b x, .b y => K (.b (cond neg (!(x == y)) (x == y)))
    | _, _ => False
  | .eqa neg ks x y => match ev t x, ev t y with
    | .agg xs, .agg ys => match eqO ks xs ys with
      | some r => K (.b (cond neg (!r) r))
      | none => False
    | _, _ => False
  | .conv k x => match ev t x with
    | .i _ n => K (.i k (k.wrap n))
    | _ => False
  | .build zs parts => match fillA zs (parts.map (evp t)) with
    | some cs => K (.agg cs)
    | none => False
  | .faddr off x => match ev t x with
    | .ptr id ix c => K (.ptr id ix (c + off))
    | _ => False
  | .fld off x => match ev t x with
    | .agg cs => match cs[off]? with
      | some a => K a
      | none => False
    | _ => False
  | .fldn off n x => match ev t x with
    | .agg cs => K (.agg ((cs.drop off).take n))
    | _ => False
  | .iaddrA len sz x i => match ev t x, ev t i with
    | .ptr id ix c, .i _ n => asr (decide (0 ≤ n) && decide (n < (len : Int))) (K (.ptr id ix (c + n.toNat * sz)))
    | _, _ => False
  | .idx len x i => match ev t x, ev t i with
    | .agg cs, .i _ n => asr (decide (0 ≤ n) && decide (n < (len : Int))) (match cs[n.toNat]? with
      | some a => K a
      | none => False)
    | _, _ => False
  | .idxn len sz x i => match ev t x, ev t i with
    | .agg cs, .i _ n => asr (decide (0 ≤ n) && decide (n < (len : Int))) (K (.agg ((cs.drop (n.toNat * sz)).take sz)))
    | _, _ => False
  | .sidx x i => match ev t x, ev t i with
    | .s s, .i _ n => asr (decide (0 ≤ n) && decide (n < (s.size : Int))) (K (.i .u8 (byteAt s n.toNat)))
    | _, _ => False
  | .slA len sz x lo hi => match ev t x with
    | .ptr id ix c => bnd t hi len len fun h => bnd t lo 0 h fun l =>
        K (.slc id ix (cond (len.beq l) c (c + l * sz)) (h - l) (len - l))
    | _ => False
  | .iaddrS sz x i => match ev t x, ev t i with
    | .slc id ix c l _, .i _ n => asr (decide (0 ≤ n) && decide (n < (l : Int))) (K (.ptr id ix (c + n.toNat * sz)))
    | .sls id ix e l _, .i _ n => asr (decide (0 ≤ n) && decide (n < (l : Int))) (asr (e.beq sz) (K (.ptr id (ix + n.toNat) 0)))
    | .sla id l, .i _ n => asr (decide (0 ≤ n) && decide (n < (l : Int))) (K (.ptr id 0 (n.toNat * sz)))
    | _, _ => False
  | .slS sz x lo hi mx => match ev t x with
    | .slc id ix c len cap => bnd t mx cap cap fun m => bnd t hi len m fun h => bnd t lo 0 h fun l =>
        K (.slc id ix (cond (m.beq l) c (c + l * sz)) (h - l) (m - l))
    | .sls id ix e len cap => bnd t mx cap cap fun m => bnd t hi len m fun h => bnd t lo 0 h fun l =>
        asr (e.beq sz) (K (.sls id (cond (m.beq l) ix (ix + l)) e (h - l) (m - l)))
    | .sla id len => match mx with
      | none => bnd t hi len len fun h => bnd t lo 0 h fun l => asr (l.beq 0) (K (.sla id h))
      | some _ => False
    | .nslc => bnd t mx 0 0 fun m => bnd t hi 0 m fun h => bnd t lo 0 h fun l => asr (m.beq 0 && h.beq 0 && l.beq 0) (K .nslc)
    | _ => False
  | .slStr x lo hi => match ev t x with
    | .s s => bnd t hi s.size s.size fun h => bnd t lo 0 h fun l => K (.s (s.extract l h))
    | _ => False
  | .len x => match ev t x with
    | .slc _ _ _ l _ => K (.i .i64 l)
    | .sls _ _ _ l _ => K (.i .i64 l)
    | .sla _ l => K (.i .i64 l)
    | .nslc => K (.i .i64 0)
    | _ => False
  | .slen x => match ev t x with
    | .s s => K (.i .i64 s.size)
    | _ => False
  | .cap x => match ev t x with
    | .slc _ _ _ _ c => K (.i .i64 c)
    | .sls _ _ _ _ c => K (.i .i64 c)
    | .nslc => K (.i .i64 0)
    | _ => False
  | .mnmx isMax x xs => mnmxV isMax (ev t x) (xs.map (ev t)) K
  | .ext x i => match ev t x with
    | .tup vs => match vs[i]? with
      | some a => K a
      | none => False
    | _ => False
  | .mkf f caps => K (.fn f (caps.map (ev t)))
  | .snil neg x => match ev t x with
    | .nslc => K (.b (cond neg false true))
    | .slc .. => K (.b neg)
    | .sls .. => K (.b neg)
    | .sla .. => K (.b neg)
    | _ => False
  | .ncheck x => match ev t x with
    | .ptr id ix c => K (.ptr id ix c)
    | .fn f caps => K (.fn f caps)
    | _ => False
  | _ => False
end Go.Proofs.Ytpfmnmcpffajeaa.V
