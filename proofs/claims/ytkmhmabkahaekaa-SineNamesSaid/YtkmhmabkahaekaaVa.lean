/-
  A second semantics of Go's operations, over values whose memory is a list of own blocks; and that it is sound for the model's.
  Part 1: values, memory, what an operation yields.
-/
import Derived.WalkKit
import Derived.OrdersHeld
import Derived.Below
import Derived.KernelRfl
set_option linter.unusedVariables false
set_option linter.unusedSimpArgs false
namespace Go.Proofs.Ytkmhmabkahaekaa.V
open Go Go.RowKit

inductive AV where
  | i (k : IntKind) (n : Int)
  | b (x : Bool)
  | s (x : ByteArray)
  | ptr (id ix c : Nat)
  | slc (id ix c len cap : Nat)
  | sls (id ix e len cap : Nat)
  | nslc
  | fn (f : FuncId) (caps : List AV)
  | agg (cs : List AV)
  | tup (vs : List AV)
  | v (x : Value)
  deriving Inhabited

abbrev Loc := Nat × Nat × Nat

def notAgg : Value → Bool
  | .agg _ => false
  | _ => true

mutual
inductive R (ρ : List Loc) : AV → Value → Prop
  | i (k : IntKind) (n : Int) : R ρ (.i k n) (.int k n)
  | b (x : Bool) : R ρ (.b x) (.bool x)
  | s (x : ByteArray) : R ρ (.s x) (.string x)
  | ptr {id ix c b o e : Nat} (h : ρ[id]? = some (b, o, e)) : R ρ (.ptr id ix c) (.pointer (some ⟨b, o + ix * e + c, none⟩))
  | slc {id ix c l cap b o e : Nat} (h : ρ[id]? = some (b, o, e)) : R ρ (.slc id ix c l cap) (.slice (some ⟨b, o + ix * e + c, none⟩) l cap)
  | sls {id ix l cap b o e : Nat} (h : ρ[id]? = some (b, o, e)) : R ρ (.sls id ix e l cap) (.slice (some ⟨b, o + ix * e, none⟩) l cap)
  | nslc : R ρ .nslc (.slice none 0 0)
  | fn {f : FuncId} {caps : List AV} {vs : List Value} (h : RL ρ caps vs) : R ρ (.fn f caps) (.func (.func f) #[] vs.toArray)
  | agg {cs : List AV} {vs : List Value} (h : RL ρ cs vs) : R ρ (.agg cs) (.agg vs.toArray)
  | tup {cs : List AV} {vs : List Value} (h : RL ρ cs vs) : R ρ (.tup cs) (.tuple vs.toArray)
  | v {x : Value} (h : notAgg x = true) : R ρ (.v x) x
inductive RL (ρ : List Loc) : List AV → List Value → Prop
  | nil : RL ρ [] []
  | cons {a : AV} {v : Value} {as : List AV} {vs : List Value} (h : R ρ a v) (t : RL ρ as vs) : RL ρ (a :: as) (v :: vs)
end

theorem R.mono {ρ ρ' : List Loc} (p : ρ <+: ρ') {a : AV} {v : Value} (h : R ρ a v) : R ρ' a v :=
  R.rec (motive_1 := fun a v _ => R ρ' a v) (motive_2 := fun as vs _ => RL ρ' as vs)
    (fun k n => .i k n) (fun x => .b x) (fun x => .s x)
    (fun {id ix c b o e} h => .ptr (by obtain ⟨t, rfl⟩ := p; rw [List.getElem?_append_left (by rw [List.getElem?_eq_some_iff] at h; exact h.1)]; exact h))
    (fun {id ix c l cap b o e} h => .slc (by obtain ⟨t, rfl⟩ := p; rw [List.getElem?_append_left (by rw [List.getElem?_eq_some_iff] at h; exact h.1)]; exact h))
    (fun {id ix l cap b o e} h => .sls (by obtain ⟨t, rfl⟩ := p; rw [List.getElem?_append_left (by rw [List.getElem?_eq_some_iff] at h; exact h.1)]; exact h))
    .nslc (fun _ h => .fn h) (fun _ h => .agg h) (fun _ h => .tup h) (fun h => .v h) .nil (fun _ _ h t => .cons h t) h

theorem RL.mono {ρ ρ' : List Loc} (p : ρ <+: ρ') : ∀ {as : List AV} {vs : List Value}, RL ρ as vs → RL ρ' as vs
  | [], [], _ => .nil
  | _ :: _, _ :: _, h => by cases h with | cons h t => exact .cons (h.mono p) (RL.mono p t)
  | [], _ :: _, h => nomatch h
  | _ :: _, [], h => nomatch h

theorem RL.length {ρ : List Loc} : ∀ {as : List AV} {vs : List Value}, RL ρ as vs → as.length = vs.length
  | [], [], _ => rfl
  | _ :: _, _ :: _, h => by cases h with | cons h t => simp [RL.length t]
  | [], _ :: _, h => nomatch h
  | _ :: _, [], h => nomatch h

theorem RL.get {ρ : List Loc} : ∀ {as : List AV} {vs : List Value}, RL ρ as vs → ∀ {n : Nat} {a : AV}, as[n]? = some a → ∃ v, vs[n]? = some v ∧ R ρ a v
  | [], [], _, n, a, h => by simp at h
  | _ :: _, _ :: _, h, 0, a, e => by cases h with | cons h t => simp at e; subst e; exact ⟨_, rfl, h⟩
  | _ :: _, _ :: _, h, n + 1, a, e => by cases h with | cons h t => simp at e; obtain ⟨v, h1, h2⟩ := RL.get t e; exact ⟨v, by simpa using h1, h2⟩
  | [], _ :: _, h, _, _, _ => nomatch h
  | _ :: _, [], h, _, _, _ => nomatch h

theorem RL.append {ρ : List Loc} : ∀ {as : List AV} {vs : List Value} {bs : List AV} {us : List Value}, RL ρ as vs → RL ρ bs us → RL ρ (as ++ bs) (vs ++ us)
  | [], [], _, _, _, k => k
  | _ :: _, _ :: _, _, _, h, k => by cases h with | cons h t => exact .cons h (RL.append t k)
  | [], _ :: _, _, _, h, _ => nomatch h
  | _ :: _, [], _, _, h, _ => nomatch h

theorem RL.drop {ρ : List Loc} : ∀ (n : Nat) {as : List AV} {vs : List Value}, RL ρ as vs → RL ρ (as.drop n) (vs.drop n)
  | 0, _, _, h => h
  | n + 1, [], [], _ => .nil
  | n + 1, _ :: _, _ :: _, h => by cases h with | cons h t => exact RL.drop n t
  | n + 1, [], _ :: _, h => nomatch h
  | n + 1, _ :: _, [], h => nomatch h

theorem RL.take {ρ : List Loc} : ∀ (n : Nat) {as : List AV} {vs : List Value}, RL ρ as vs → RL ρ (as.take n) (vs.take n)
  | 0, _, _, h => .nil
  | n + 1, [], [], _ => .nil
  | n + 1, _ :: _, _ :: _, h => by cases h with | cons h t => exact .cons h (RL.take n t)
  | n + 1, [], _ :: _, h => nomatch h
  | n + 1, _ :: _, [], h => nomatch h

theorem RL.set {ρ : List Loc} {a : AV} {v : Value} (k : R ρ a v) : ∀ {as : List AV} {vs : List Value} (n : Nat), RL ρ as vs → RL ρ (as.set n a) (vs.set n v)
  | [], [], _, _ => .nil
  | _ :: _, _ :: _, 0, h => by cases h with | cons h t => exact .cons k t
  | _ :: _, _ :: _, n + 1, h => by cases h with | cons h t => exact .cons h (RL.set k n t)
  | [], _ :: _, _, h => nomatch h
  | _ :: _, [], _, h => nomatch h

theorem RL.replicate {ρ : List Loc} {a : AV} {v : Value} (k : R ρ a v) : ∀ n, RL ρ (List.replicate n a) (List.replicate n v)
  | 0 => .nil
  | n + 1 => .cons k (RL.replicate k n)

/-- A list of values known place by place. -/
theorem RL.of {ρ : List Loc} : ∀ {as : List AV} {vs : List Value}, as.length = vs.length → (∀ (n : Nat) (a : AV), as[n]? = some a → ∃ v, vs[n]? = some v ∧ R ρ a v) → RL ρ as vs
  | [], [], _, _ => .nil
  | a :: as, v :: vs, e, h => by
    obtain ⟨v', h1, h2⟩ := h 0 a rfl
    simp at h1; subst h1
    exact .cons h2 (RL.of (by simpa using e) fun n a' h' => by simpa using h (n + 1) a' (by simpa using h'))
  | [], _ :: _, e, _ => by simp at e
  | _ :: _, [], e, _ => by simp at e

def cellsA : AV → List AV
  | .agg cs => cs
  | a => [a]

theorem R.cells {ρ : List Loc} {a : AV} {v : Value} (h : R ρ a v) : RL ρ (cellsA a) v.cells.toList := by
  cases h with
  | agg h => simpa [cellsA, Value.cells] using h
  | v hx =>
    have : v.cells = #[v] := by cases v <;> first | rfl | simp [notAgg] at hx
    rw [this]; exact .cons (.v hx) .nil
  | i k n => exact .cons (.i k n) .nil
  | b x => exact .cons (.b x) .nil
  | s x => exact .cons (.s x) .nil
  | ptr h => exact .cons (.ptr h) .nil
  | slc h => exact .cons (.slc h) .nil
  | sls h => exact .cons (.sls h) .nil
  | nslc => exact .cons .nslc .nil
  | fn h => exact .cons (.fn h) .nil
  | tup h => exact .cons (.tup h) .nil

/-! ### Memory -/
structure Blk where
  own : Bool
  ty : TypeId
  esz : Nat
  n : Nat
  sym : Bool
  f : Nat → List AV

abbrev Heap := List (Option Blk)

/-- A block of one value. -/
def lit (t : TypeId) (cs : List AV) : Option Blk := some ⟨true, t, cs.length, 1, false, fun _ => cs⟩

structure Holds (w0 : World) (ρ : List Loc) (B : Blk) (b o : Nat) (w : World) : Prop where
  cell : ∀ (ix c : Nat) (a : AV), ix < B.n → (B.f ix)[c]? = some a → ∃ v, w.cell? ⟨b, o + ix * B.esz + c, none⟩ = some v ∧ R ρ a v
  wide : ∀ ix : Nat, ix < B.n → (B.f ix).length = B.esz
  own : B.own = true → o = 0 ∧ w0.heap.size ≤ b ∧ ∃ cs, w.heap[b]? = some (.cells cs B.ty (0, 0))
  old : B.own = false → b < w0.heap.size
  one : B.sym = false → B.n = 1

structure Rel (w0 : World) (ρ : List Loc) (H : Heap) (w : World) : Prop where
  len : H.length = ρ.length
  below : Below w0.heap.size w0 w
  blk : ∀ (id : Nat) (B : Blk), H[id]? = some (some B) → ∃ b o, ρ[id]? = some (b, o, B.esz) ∧ Holds w0 ρ B b o w
  dist : ∀ (i j : Nat) (B C : Blk) (b o e b' o' e' : Nat), H[i]? = some (some B) → H[j]? = some (some C) → B.own = true → ρ[i]? = some (b, o, e) → ρ[j]? = some (b', o', e') → b = b' → i = j

theorem Below.drew0 {B : Nat} {a w : World} (h : Below B a w) : Below B a { w with drawn := w.drawn + 1 } := ⟨h.os, h.tape, h.output, h.size, h.block⟩

theorem Rel.drew {w0 w : World} {ρ : List Loc} {H : Heap} (h : Rel w0 ρ H w) : Rel w0 ρ H { w with drawn := w.drawn + 1 } :=
  ⟨h.len, Below.drew0 h.below, fun id B e => by obtain ⟨b, o, h1, h2⟩ := h.blk id B e; exact ⟨b, o, h1, h2.cell, h2.wide, h2.own, h2.old, h2.one⟩, h.dist⟩

theorem Rel.size {w0 w : World} {ρ : List Loc} {H : Heap} (h : Rel w0 ρ H w) : w0.heap.size ≤ w.heap.size := h.below.size

theorem Holds.lt {w0 w : World} {ρ : List Loc} {B : Blk} {b o : Nat} {H : Heap} (h : Holds w0 ρ B b o w) (k : Rel w0 ρ H w) : b < w.heap.size := by
  cases e : B.own with
  | true =>
    obtain ⟨_, _, cs, hc⟩ := h.own e
    rw [Array.getElem?_eq_some_iff] at hc
    exact hc.1
  | false => exact Nat.lt_of_lt_of_le (h.old e) k.size

/-- Forgetting the last blocks. -/
theorem Rel.forget {w0 w : World} {ρ ρ' : List Loc} {H H' : Heap} (h : Rel w0 ρ' H' w) (hp : ρ <+: ρ') (hH : H <+: H') (hl : H.length = ρ.length)
    (hsc : ∀ (id : Nat) (B : Blk), H[id]? = some (some B) → ∀ b o, Holds w0 ρ' B b o w → Holds w0 ρ B b o w) : Rel w0 ρ H w := by
  have get1 : ∀ (id : Nat) (x : Option Blk), H[id]? = some x → H'[id]? = some x := fun id x e => by
    obtain ⟨t, rfl⟩ := hH; rw [List.getElem?_append_left (List.getElem?_eq_some_iff.1 e).1]; exact e
  have get2 : ∀ (id : Nat) (x : Loc), ρ[id]? = some x → ρ'[id]? = some x := fun id x e => by
    obtain ⟨t, rfl⟩ := hp; rw [List.getElem?_append_left (List.getElem?_eq_some_iff.1 e).1]; exact e
  refine ⟨hl, h.below, fun id B e => ?_, fun i j B C b o e b' o' e' h1 h2 h3 h4 h5 h6 => h.dist i j B C b o e b' o' e' (get1 _ _ h1) (get1 _ _ h2) h3 (get2 _ _ h4) (get2 _ _ h5) h6⟩
  obtain ⟨b, o, h1, h2⟩ := h.blk id B (get1 _ _ e)
  refine ⟨b, o, ?_, hsc id B e b o h2⟩
  have hlt : id < ρ.length := by rw [← hl]; exact (List.getElem?_eq_some_iff.1 e).1
  obtain ⟨t, rfl⟩ := hp
  rwa [List.getElem?_append_left hlt] at h1

/-- A new block. -/
theorem Rel.alloc {w0 w : World} {ρ : List Loc} {H : Heap} (h : Rel w0 ρ H w) {t : TypeId} {cs : List AV} {vs : Array Value} (hc : RL ρ cs vs.toList) :
    Rel w0 (ρ ++ [(w.heap.size, 0, cs.length)]) (H ++ [lit t cs]) { w with heap := w.heap.push (.cells vs t) } := by
  have hp : ρ <+: ρ ++ [(w.heap.size, 0, cs.length)] := List.prefix_append ..
  have hcell : ∀ a : Addr, a.block < w.heap.size → ({ w with heap := w.heap.push (.cells vs t) } : World).cell? a = w.cell? a := fun a ha => by
    have : a.block ≠ w.heap.size := by omega
    simp only [World.cell?, Array.getElem?_push, this, if_false]
  have hblk : ∀ b, b < w.heap.size → (w.heap.push (.cells vs t))[b]? = w.heap[b]? := fun b hb => by
    rw [Array.getElem?_push, if_neg (by omega)]
  refine ⟨by simp [h.len], h.below.trans ⟨rfl, rfl, rfl, by simp, fun k hk => hblk k (Nat.lt_of_lt_of_le hk h.size)⟩, fun id B e => ?_, fun i j B C b o e b' o' e' h1 h2 h3 h4 h5 h6 => ?_⟩
  · by_cases hid : id < H.length
    · rw [List.getElem?_append_left hid] at e
      obtain ⟨b, o, h1, h2⟩ := h.blk id B e
      have hb := h2.lt h
      refine ⟨b, o, by rw [List.getElem?_append_left (by rw [← h.len]; exact hid)]; exact h1, ⟨fun ix c a hx ha => ?_, h2.wide, fun ho => ?_, h2.old, h2.one⟩⟩
      · obtain ⟨v, k1, k2⟩ := h2.cell ix c a hx ha
        exact ⟨v, (hcell _ hb).trans k1, k2.mono hp⟩
      · obtain ⟨k1, k2, cs', k3⟩ := h2.own ho
        exact ⟨k1, k2, cs', (hblk b hb).trans k3⟩
    · have hid' : id = H.length := by
        have := (List.getElem?_eq_some_iff.1 e).1
        simp at this; omega
      subst hid'
      simp [lit] at e
      subst e
      refine ⟨w.heap.size, 0, by rw [h.len]; simp, ⟨fun ix c a hx ha => ?_, fun _ _ => rfl, fun _ => ⟨rfl, h.size, vs, by simp⟩, fun ho => by simp at ho, fun _ => rfl⟩⟩
      have : ix = 0 := by simp at hx; omega
      subst this
      obtain ⟨v, k1, k2⟩ := hc.get ha
      refine ⟨v, ?_, k2.mono hp⟩
      simp only [World.cell?, Array.getElem?_push_size]
      simpa using k1
  · have key : ∀ (i : Nat) (B : Blk) (b o e : Nat), (H ++ [lit t cs])[i]? = some (some B) → (ρ ++ [(w.heap.size, 0, cs.length)])[i]? = some (b, o, e) →
        (i < H.length ∧ H[i]? = some (some B) ∧ ρ[i]? = some (b, o, e) ∧ b < w.heap.size) ∨ (i = H.length ∧ b = w.heap.size) := fun i B b o e g1 g2 => by
      by_cases hi : i < H.length
      · rw [List.getElem?_append_left hi] at g1
        rw [List.getElem?_append_left (by rw [← h.len]; exact hi)] at g2
        obtain ⟨b1, o1, k1, k2⟩ := h.blk i B g1
        have := k2.lt h
        rw [k1] at g2; simp at g2
        exact .inl ⟨hi, g1, by rw [k1]; simp [g2], by omega⟩
      · have : i = H.length := by
          have := (List.getElem?_eq_some_iff.1 g1).1
          simp at this; omega
        subst this
        rw [h.len] at g2
        simp at g2
        exact .inr ⟨rfl, g2.1.symm⟩
    rcases key i B b o e h1 h4 with ⟨q1, q2, q3, q4⟩ | ⟨q1, q2⟩ <;> rcases key j C b' o' e' h2 h5 with ⟨r1, r2, r3, r4⟩ | ⟨r1, r2⟩
    · exact h.dist i j B C b o e b' o' e' q2 r2 h3 q3 r3 h6
    · omega
    · omega
    · omega
end Go.Proofs.Ytkmhmabkahaekaa.V
