/-
  A second semantics of Go's operations, over values whose memory is a list of own blocks; and that it is sound for the model's.
  Part 1: values, memory, what an operation yields.
-/
import Derived.WalkKit
import Derived.OrdersHeld
import Derived.Below
import Derived.KernelRfl
set_option linter.unusedVariables false
set_option linter.unusedSimpArgs false
namespace Go.Proofs.Ytpfmnmcpffajeaa.V
open Go Go.RowKit

inductive AV where
  | i (k : IntKind) (n : Int)
  | b (x : Bool)
  | s (x : ByteArray)
  | ptr (id ix c : Nat)
  | slc (id ix c len cap : Nat)
  | sls (id ix e len cap : Nat)
  | sla (id len : Nat)
  | nslc
  | fn (f : FuncId) (caps : List AV)
  | agg (cs : List AV)
  | tup (vs : List AV)
  | v (x : Value)
  deriving Inhabited

abbrev Loc := Nat × Nat × Nat

def notAgg : Value → Bool
  | .agg _ => false
  | _ => true

mutual
inductive R (ρ : List Loc) : AV → Value → Prop
  | i (k : IntKind) (n : Int) : R ρ (.i k n) (.int k n)
  | b (x : Bool) : R ρ (.b x) (.bool x)
  | s (x : ByteArray) : R ρ (.s x) (.string x)
  | ptr {id ix c b o e : Nat} (h : ρ[id]? = some (b, o, e)) : R ρ (.ptr id ix c) (.pointer (some ⟨b, o + ix * e + c, none⟩))
  | slc {id ix c l cap b o e : Nat} (h : ρ[id]? = some (b, o, e)) : R ρ (.slc id ix c l cap) (.slice (some ⟨b, o + ix * e + c, none⟩) l cap)
  | sls {id ix l cap b o e : Nat} (h : ρ[id]? = some (b, o, e)) : R ρ (.sls id ix e l cap) (.slice (some ⟨b, o + ix * e, none⟩) l cap)
  | sla {id l b o e C : Nat} (h : ρ[id]? = some (b, o, e)) (hc : ρ[id + 1]? = some (C, 0, 0)) (hl : l ≤ C) : R ρ (.sla id l) (.slice (some ⟨b, o, none⟩) l C)
  | nslc : R ρ .nslc (.slice none 0 0)
  | fn {f : FuncId} {caps : List AV} {vs : List Value} (h : RL ρ caps vs) : R ρ (.fn f caps) (.func (.func f) #[] vs.toArray)
  | agg {cs : List AV} {vs : List Value} (h : RL ρ cs vs) : R ρ (.agg cs) (.agg vs.toArray)
  | tup {cs : List AV} {vs : List Value} (h : RL ρ cs vs) : R ρ (.tup cs) (.tuple vs.toArray)
  | v {x : Value} (h : notAgg x = true) : R ρ (.v x) x
inductive RL (ρ : List Loc) : List AV → List Value → Prop
  | nil : RL ρ [] []
  | cons {a : AV} {v : Value} {as : List AV} {vs : List Value} (h : R ρ a v) (t : RL ρ as vs) : RL ρ (a :: as) (v :: vs)
end

theorem R.mono {ρ ρ' : List Loc} (p : ρ <+: ρ') {a : AV} {v : Value} (h : R ρ a v) : R ρ' a v :=
  R.rec (motive_1 := fun a v _ => R ρ' a v) (motive_2 := fun as vs _ => RL ρ' as vs)
    (fun k n => .i k n) (fun x => .b x) (fun x => .s x)
    (fun {id ix c b o e} h => .ptr (by obtain ⟨t, rfl⟩ := p; rw [List.getElem?_append_left (by rw [List.getElem?_eq_some_iff] at h; exact h.1)]; exact h))
    (fun {id ix c l cap b o e} h => .slc (by obtain ⟨t, rfl⟩ := p; rw [List.getElem?_append_left (by rw [List.getElem?_eq_some_iff] at h; exact h.1)]; exact h))
    (fun {id ix l cap b o e} h => .sls (by obtain ⟨t, rfl⟩ := p; rw [List.getElem?_append_left (by rw [List.getElem?_eq_some_iff] at h; exact h.1)]; exact h))
    (fun {id l b o e C} h hc hl => .sla (e := e) (by obtain ⟨t, rfl⟩ := p; rw [List.getElem?_append_left (by rw [List.getElem?_eq_some_iff] at h; exact h.1)]; exact h)
      (by obtain ⟨t, rfl⟩ := p; rw [List.getElem?_append_left (by rw [List.getElem?_eq_some_iff] at hc; exact hc.1)]; exact hc) hl)
    .nslc (fun _ h => .fn h) (fun _ h => .agg h) (fun _ h => .tup h) (fun h => .v h) .nil (fun _ _ h t => .cons h t) h

theorem RL.mono {ρ ρ' : List Loc} (p : ρ <+: ρ') : ∀ {as : List AV} {vs : List Value}, RL ρ as vs → RL ρ' as vs
  | [], [], _ => .nil
  | _ :: _, _ :: _, h => by cases h with | cons h t => exact .cons (h.mono p) (RL.mono p t)
  | [], _ :: _, h => nomatch h
  | _ :: _, [], h => nomatch h

theorem RL.length {ρ : List Loc} : ∀ {as : List AV} {vs : List Value}, RL ρ as vs → as.length = vs.length
  | [], [], _ => rfl
  | _ :: _, _ :: _, h => by cases h with | cons h t => simp [RL.length t]
  | [], _ :: _, h => nomatch h
  | _ :: _, [], h => nomatch h

theorem RL.get {ρ : List Loc} : ∀ {as : List AV} {vs : List Value}, RL ρ as vs → ∀ {n : Nat} {a : AV}, as[n]? = some a → ∃ v, vs[n]? = some v ∧ R ρ a v
  | [], [], _, n, a, h => by simp at h
  | _ :: _, _ :: _, h, 0, a, e => by cases h with | cons h t => simp at e; subst e; exact ⟨_, rfl, h⟩
  | _ :: _, _ :: _, h, n + 1, a, e => by cases h with | cons h t => simp at e; obtain ⟨v, h1, h2⟩ := RL.get t e; exact ⟨v, by simpa using h1, h2⟩
  | [], _ :: _, h, _, _, _ => nomatch h
  | _ :: _, [], h, _, _, _ => nomatch h

theorem RL.append {ρ : List Loc} : ∀ {as : List AV} {vs : List Value} {bs : List AV} {us : List Value}, RL ρ as vs → RL ρ bs us → RL ρ (as ++ bs) (vs ++ us)
  | [], [], _, _, _, k => k
  | _ :: _, _ :: _, _, _, h, k => by cases h with | cons h t => exact .cons h (RL.append t k)
  | [], _ :: _, _, _, h, _ => nomatch h
  | _ :: _, [], _, _, h, _ => nomatch h

theorem RL.drop {ρ : List Loc} : ∀ (n : Nat) {as : List AV} {vs : List Value}, RL ρ as vs → RL ρ (as.drop n) (vs.drop n)
  | 0, _, _, h => h
  | n + 1, [], [], _ => .nil
  | n + 1, _ :: _, _ :: _, h => by cases h with | cons h t => exact RL.drop n t
  | n + 1, [], _ :: _, h => nomatch h
  | n + 1, _ :: _, [], h => nomatch h

theorem RL.take {ρ : List Loc} : ∀ (n : Nat) {as : List AV} {vs : List Value}, RL ρ as vs → RL ρ (as.take n) (vs.take n)
  | 0, _, _, h => .nil
  | n + 1, [], [], _ => .nil
  | n + 1, _ :: _, _ :: _, h => by cases h with | cons h t => exact .cons h (RL.take n t)
  | n + 1, [], _ :: _, h => nomatch h
  | n + 1, _ :: _, [], h => nomatch h

theorem RL.set {ρ : List Loc} {a : AV} {v : Value} (k : R ρ a v) : ∀ {as : List AV} {vs : List Value} (n : Nat), RL ρ as vs → RL ρ (as.set n a) (vs.set n v)
  | [], [], _, _ => .nil
  | _ :: _, _ :: _, 0, h => by cases h with | cons h t => exact .cons k t
  | _ :: _, _ :: _, n + 1, h => by cases h with | cons h t => exact .cons h (RL.set k n t)
  | [], _ :: _, _, h => nomatch h
  | _ :: _, [], _, h => nomatch h

theorem RL.replicate {ρ : List Loc} {a : AV} {v : Value} (k : R ρ a v) : ∀ n, RL ρ (List.replicate n a) (List.replicate n v)
  | 0 => .nil
  | n + 1 => .cons k (RL.replicate k n)

/-- A list of values known place by place. -/
theorem RL.of {ρ : List Loc} : ∀ {as : List AV} {vs : List Value}, as.length = vs.length → (∀ (n : Nat) (a : AV), as[n]? = some a → ∃ v, vs[n]? = some v ∧ R ρ a v) → RL ρ as vs
  | [], [], _, _ => .nil
  | a :: as, v :: vs, e, h => by
    obtain ⟨v', h1, h2⟩ := h 0 a rfl
    simp at h1; subst h1
    exact .cons h2 (RL.of (by simpa using e) fun n a' h' => by simpa using h (n + 1) a' (by simpa using h'))
  | [], _ :: _, e, _ => by simp at e
  | _ :: _, [], e, _ => by simp at e

def cellsA : AV → List AV
  | .agg cs => cs
  | a => [a]

theorem R.cells {ρ : List Loc} {a : AV} {v : Value} (h : R ρ a v) : RL ρ (cellsA a) v.cells.toList := by
  cases h with
  | agg h => simpa [cellsA, Value.cells] using h
  | v hx =>
    have : v.cells = #[v] := by cases v <;> first | rfl | simp [notAgg] at hx
    rw [this]; exact .cons (.v hx) .nil
  | i k n => exact .cons (.i k n) .nil
  | b x => exact .cons (.b x) .nil
  | s x => exact .cons (.s x) .nil
  | ptr h => exact .cons (.ptr h) .nil
  | slc h => exact .cons (.slc h) .nil
  | sls h => exact .cons (.sls h) .nil
  | sla h hc hl => exact .cons (.sla h hc hl) .nil
  | nslc => exact .cons .nslc .nil
  | fn h => exact .cons (.fn h) .nil
  | tup h => exact .cons (.tup h) .nil

/-! ### Memory -/
structure Blk where
  own : Bool
  ty : TypeId
  esz : Nat
  n : Nat
  sym : Bool
  f : Nat → List AV
  room : Nat

abbrev Heap := List (Option Blk)

/-- A block of one value. -/
def lit (t : TypeId) (cs : List AV) : Option Blk := some ⟨true, t, cs.length, 1, false, fun _ => cs, 0⟩
/-- A row that may be added to: its room is known to the world alone. 'sz': the cells of an element. -/
def roomB (t : TypeId) (sz : Nat) (cs : List AV) : Option Blk := some ⟨true, t, cs.length, 1, false, fun _ => cs, sz⟩

structure Holds (w0 : World) (ρ : List Loc) (B : Blk) (b o : Nat) (w : World) : Prop where
  cell : ∀ (ix c : Nat) (a : AV), ix < B.n → (B.f ix)[c]? = some a → ∃ v, w.cell? ⟨b, o + ix * B.esz + c, none⟩ = some v ∧ R ρ a v
  wide : ∀ ix : Nat, ix < B.n → (B.f ix).length = B.esz
  own : B.own = true → o = 0 ∧ w0.heap.size ≤ b ∧ ∃ cs, w.heap[b]? = some (.cells cs B.ty (0, 0))
  old : B.own = false → b < w0.heap.size
  one : B.sym = false → B.n = 1

/-- A row with room: the world's row has 'C' elements, and the block's are the first of them. -/
def Room (ρ : List Loc) (id : Nat) (B : Blk) (w : World) : Prop :=
  ∃ b o C n cs, ρ[id]? = some (b, o, B.esz) ∧ ρ[id + 1]? = some (C, 0, 0) ∧ w.heap[b]? = some (.cells cs B.ty (0, 0)) ∧ cs.size = C * B.room ∧ B.esz = n * B.room ∧ n ≤ C ∧ C ≤ maxLen ∧ B.own = true ∧ B.n = 1

structure Rel (w0 : World) (ρ : List Loc) (H : Heap) (w : World) : Prop where
  len : H.length = ρ.length
  below : Below w0.heap.size w0 w
  blk : ∀ (id : Nat) (B : Blk), H[id]? = some (some B) → ∃ b o, ρ[id]? = some (b, o, B.esz) ∧ Holds w0 ρ B b o w
  dist : ∀ (i j : Nat) (B C : Blk) (b o e b' o' e' : Nat), H[i]? = some (some B) → H[j]? = some (some C) → B.own = true → ρ[i]? = some (b, o, e) → ρ[j]? = some (b', o', e') → b = b' → i = j
  room : ∀ (id : Nat) (B : Blk), H[id]? = some (some B) → 0 < B.room → Room ρ id B w

theorem Below.drew0 {B : Nat} {a w : World} (h : Below B a w) : Below B a { w with drawn := w.drawn + 1 } := ⟨h.os, h.tape, h.output, h.size, h.block⟩

theorem Rel.drew {w0 w : World} {ρ : List Loc} {H : Heap} (h : Rel w0 ρ H w) : Rel w0 ρ H { w with drawn := w.drawn + 1 } :=
  ⟨h.len, Below.drew0 h.below, fun id B e => by obtain ⟨b, o, h1, h2⟩ := h.blk id B e; exact ⟨b, o, h1, h2.cell, h2.wide, h2.own, h2.old, h2.one⟩, h.dist, fun id B e r => by
    obtain ⟨b, o, C, n, cs, g⟩ := h.room id B e r
    exact ⟨b, o, C, n, cs, g⟩⟩

theorem Rel.size {w0 w : World} {ρ : List Loc} {H : Heap} (h : Rel w0 ρ H w) : w0.heap.size ≤ w.heap.size := h.below.size

theorem Holds.lt {w0 w : World} {ρ : List Loc} {B : Blk} {b o : Nat} {H : Heap} (h : Holds w0 ρ B b o w) (k : Rel w0 ρ H w) : b < w.heap.size := by
  cases e : B.own with
  | true =>
    obtain ⟨_, _, cs, hc⟩ := h.own e
    rw [Array.getElem?_eq_some_iff] at hc
    exact hc.1
  | false => exact Nat.lt_of_lt_of_le (h.old e) k.size

/-- A new block. -/
theorem Rel.alloc {w0 w : World} {ρ : List Loc} {H : Heap} (h : Rel w0 ρ H w) {t : TypeId} {cs : List AV} {vs : Array Value} (hc : RL ρ cs vs.toList) :
    Rel w0 (ρ ++ [(w.heap.size, 0, cs.length)]) (H ++ [lit t cs]) { w with heap := w.heap.push (.cells vs t) } := by
  have hp : ρ <+: ρ ++ [(w.heap.size, 0, cs.length)] := List.prefix_append ..
  have hcell : ∀ a : Addr, a.block < w.heap.size → ({ w with heap := w.heap.push (.cells vs t) } : World).cell? a = w.cell? a := fun a ha => by
    have : a.block ≠ w.heap.size := by omega
    simp only [World.cell?, Array.getElem?_push, this, if_false]
  have hblk : ∀ b, b < w.heap.size → (w.heap.push (.cells vs t))[b]? = w.heap[b]? := fun b hb => by
    rw [Array.getElem?_push, if_neg (by omega)]
  refine ⟨by simp [h.len], h.below.trans ⟨rfl, rfl, rfl, by simp, fun k hk => hblk k (Nat.lt_of_lt_of_le hk h.size)⟩, fun id B e => ?_, fun i j B C b o e b' o' e' h1 h2 h3 h4 h5 h6 => ?_, fun id B e r => ?_⟩
  · by_cases hid : id < H.length
    · rw [List.getElem?_append_left hid] at e
      obtain ⟨b, o, h1, h2⟩ := h.blk id B e
      have hb := h2.lt h
      refine ⟨b, o, by rw [List.getElem?_append_left (by rw [← h.len]; exact hid)]; exact h1, ⟨fun ix c a hx ha => ?_, h2.wide, fun ho => ?_, h2.old, h2.one⟩⟩
      · obtain ⟨v, k1, k2⟩ := h2.cell ix c a hx ha
        exact ⟨v, (hcell _ hb).trans k1, k2.mono hp⟩
      · obtain ⟨k1, k2, cs', k3⟩ := h2.own ho
        exact ⟨k1, k2, cs', (hblk b hb).trans k3⟩
    · have hid' : id = H.length := by
        have := (List.getElem?_eq_some_iff.1 e).1
        simp at this; omega
      subst hid'
      simp [lit] at e
      subst e
      refine ⟨w.heap.size, 0, by rw [h.len]; simp, ⟨fun ix c a hx ha => ?_, fun _ _ => rfl, fun _ => ⟨rfl, h.size, vs, by simp⟩, fun ho => by simp at ho, fun _ => rfl⟩⟩
      have : ix = 0 := by simp at hx; omega
      subst this
      obtain ⟨v, k1, k2⟩ := hc.get ha
      refine ⟨v, ?_, k2.mono hp⟩
      simp only [World.cell?, Array.getElem?_push_size]
      simpa using k1
  · have key : ∀ (i : Nat) (B : Blk) (b o e : Nat), (H ++ [lit t cs])[i]? = some (some B) → (ρ ++ [(w.heap.size, 0, cs.length)])[i]? = some (b, o, e) →
        (i < H.length ∧ H[i]? = some (some B) ∧ ρ[i]? = some (b, o, e) ∧ b < w.heap.size) ∨ (i = H.length ∧ b = w.heap.size) := fun i B b o e g1 g2 => by
      by_cases hi : i < H.length
      · rw [List.getElem?_append_left hi] at g1
        rw [List.getElem?_append_left (by rw [← h.len]; exact hi)] at g2
        obtain ⟨b1, o1, k1, k2⟩ := h.blk i B g1
        have := k2.lt h
        rw [k1] at g2; simp at g2
        exact .inl ⟨hi, g1, by rw [k1]; simp [g2], by omega⟩
      · have : i = H.length := by
          have := (List.getElem?_eq_some_iff.1 g1).1
          simp at this; omega
        subst this
        rw [h.len] at g2
        simp at g2
        exact .inr ⟨rfl, g2.1.symm⟩
    rcases key i B b o e h1 h4 with ⟨q1, q2, q3, q4⟩ | ⟨q1, q2⟩ <;> rcases key j C b' o' e' h2 h5 with ⟨r1, r2, r3, r4⟩ | ⟨r1, r2⟩
    · exact h.dist i j B C b o e b' o' e' q2 r2 h3 q3 r3 h6
    · omega
    · omega
    · omega
  · by_cases hid : id < H.length
    · rw [List.getElem?_append_left hid] at e
      obtain ⟨b, o, C, n, cs', g1, g2, g3, g⟩ := h.room id B e r
      have hb : b < w.heap.size := (Array.getElem?_eq_some_iff.1 g3).1
      exact ⟨b, o, C, n, cs', by rw [List.getElem?_append_left (List.getElem?_eq_some_iff.1 g1).1]; exact g1, by rw [List.getElem?_append_left (List.getElem?_eq_some_iff.1 g2).1]; exact g2, (hblk b hb).trans g3, g⟩
    · have hid' : id = H.length := by
        have := (List.getElem?_eq_some_iff.1 e).1
        simp at this; omega
      subst hid'
      simp [lit] at e
      subst e
      exact absurd r (Nat.lt_irrefl 0)

/-- A row with room in a block of its own, or in that of a row that is given up. -/
theorem Rel.row {w0 w w' : World} {ρ : List Loc} {H : Heap} (h : Rel w0 ρ H w) (dead : Nat) {g C n sz : Nat} {ty : TypeId} {as : List AV} {cs : Array Value}
    (hb : Below w0.heap.size w0 w') (hsz : w.heap.size ≤ w'.heap.size) (hother : ∀ k, k < w.heap.size → k ≠ g → w'.heap[k]? = w.heap[k]?) (hg : w0.heap.size ≤ g)
    (hfree : ∀ (i : Nat) (B : Blk) (b o e : Nat), i ≠ dead → H[i]? = some (some B) → ρ[i]? = some (b, o, e) → b ≠ g)
    (hnew : w'.heap[g]? = some (.cells cs ty (0, 0))) (hcs : cs.size = C * sz) (hn : n ≤ C) (hC : C ≤ maxLen) (hRL : RL ρ as (cs.toList.take (n * sz))) (hlen : as.length = n * sz) :
    Rel w0 (ρ ++ [(g, 0, n * sz), (C, 0, 0)]) (H.set dead none ++ [roomB ty sz as, none]) w' := by
  have hp : ρ <+: ρ ++ [(g, 0, n * sz), (C, 0, 0)] := List.prefix_append ..
  have hl : (H.set dead none).length = ρ.length := by rw [List.length_set, h.len]
  have hold : ∀ (id : Nat) (B : Blk), id < (H.set dead none).length → (H.set dead none ++ [roomB ty sz as, none])[id]? = some (some B) → id ≠ dead ∧ H[id]? = some (some B) := fun id B hid e => by
    rw [List.getElem?_append_left hid, List.getElem?_set] at e
    by_cases hd : dead = id
    · rw [if_pos hd] at e
      split at e <;> simp at e
    · rw [if_neg hd] at e
      exact ⟨fun x => hd x.symm, e⟩
  have hrest : ∀ (id : Nat) (B : Blk), ¬ id < (H.set dead none).length → (H.set dead none ++ [roomB ty sz as, none])[id]? = some (some B) → id = ρ.length ∧ some B = roomB ty sz as := fun id B hid e => by
    rw [List.getElem?_append_right (by omega)] at e
    have hlt := (List.getElem?_eq_some_iff.1 e).1
    simp only [List.length_cons, List.length_nil] at hlt
    rcases (show id - (H.set dead none).length = 0 ∨ id - (H.set dead none).length = 1 by omega) with k | k
    · rw [k] at e
      simp only [List.getElem?_cons_zero, Option.some.injEq] at e
      exact ⟨by omega, e.symm⟩
    · rw [k] at e
      simp at e
  have hnewρ : (ρ ++ [(g, 0, n * sz), (C, 0, 0)])[ρ.length]? = some (g, 0, n * sz) := by simp
  have hnewρ1 : (ρ ++ [(g, 0, n * sz), (C, 0, 0)])[ρ.length + 1]? = some (C, 0, 0) := by simp
  have hgsz : g < w'.heap.size := (Array.getElem?_eq_some_iff.1 hnew).1
  refine ⟨by simp [h.len], hb, fun id B e => ?_, fun i j B D b o e b' o' e' h1 h2 h3 h4 h5 h6 => ?_, fun id B e r => ?_⟩
  · by_cases hid : id < (H.set dead none).length
    · obtain ⟨hd, e⟩ := hold id B hid e
      obtain ⟨b, o, h1, h2⟩ := h.blk id B e
      have hlt := h2.lt h
      have hne := hfree id B b o _ hd e h1
      refine ⟨b, o, by rw [List.getElem?_append_left (List.getElem?_eq_some_iff.1 h1).1]; exact h1, ⟨fun ix c a hx ha => ?_, h2.wide, fun ho => ?_, h2.old, h2.one⟩⟩
      · obtain ⟨v, k1, k2⟩ := h2.cell ix c a hx ha
        refine ⟨v, ?_, k2.mono hp⟩
        rw [← k1]
        simp only [World.cell?, hother b hlt hne]
      · obtain ⟨k1, k2, cs', k3⟩ := h2.own ho
        exact ⟨k1, k2, cs', (hother b hlt hne).trans k3⟩
    · obtain ⟨rfl, e2⟩ := hrest id B hid e
      clear e
      simp only [roomB, Option.some.injEq] at e2
      subst e2
      refine ⟨g, 0, by simp only [hlen]; exact hnewρ, ⟨fun ix c a hx ha => ?_, fun _ _ => rfl, fun _ => ⟨rfl, hg, cs, hnew⟩, fun ho => by simp at ho, fun _ => rfl⟩⟩
      have : ix = 0 := by simp at hx; omega
      subst this
      obtain ⟨v, k1, k2⟩ := hRL.get ha
      refine ⟨v, ?_, k2.mono hp⟩
      have hc : c < n * sz := by
        have := (List.getElem?_eq_some_iff.1 k1).1
        simp at this; omega
      rw [List.getElem?_take_of_lt hc] at k1
      simp only [World.cell?, hnew]
      simpa using k1
  · have key : ∀ (i : Nat) (B : Blk) (b o e : Nat), (H.set dead none ++ [roomB ty sz as, none])[i]? = some (some B) → (ρ ++ [(g, 0, n * sz), (C, 0, 0)])[i]? = some (b, o, e) →
        (i ≠ dead ∧ H[i]? = some (some B) ∧ ρ[i]? = some (b, o, e)) ∨ (i = ρ.length ∧ b = g) := fun i B b o e g1 g2 => by
      by_cases hi : i < (H.set dead none).length
      · obtain ⟨hd, g1⟩ := hold i B hi g1
        rw [List.getElem?_append_left (by omega)] at g2
        exact .inl ⟨hd, g1, g2⟩
      · obtain ⟨rfl, _⟩ := hrest i B hi g1
        rw [hnewρ] at g2
        simp at g2
        exact .inr ⟨rfl, g2.1.symm⟩
    rcases key i B b o e h1 h4 with ⟨q0, q1, q2⟩ | ⟨q1, q2⟩ <;> rcases key j D b' o' e' h2 h5 with ⟨r0, r1, r2⟩ | ⟨r1, r2⟩
    · exact h.dist i j B D b o e b' o' e' q1 r1 h3 q2 r2 h6
    · exact absurd (h6.trans r2) (hfree i B b o e q0 q1 q2)
    · exact absurd (h6.symm.trans q2) (hfree j D b' o' e' r0 r1 r2)
    · omega
  · by_cases hid : id < (H.set dead none).length
    · obtain ⟨hd, e⟩ := hold id B hid e
      obtain ⟨b, o, C', n', cs', g1, g2, g3, g4⟩ := h.room id B e r
      have hlt : b < w.heap.size := (Array.getElem?_eq_some_iff.1 g3).1
      exact ⟨b, o, C', n', cs', by rw [List.getElem?_append_left (List.getElem?_eq_some_iff.1 g1).1]; exact g1, by rw [List.getElem?_append_left (List.getElem?_eq_some_iff.1 g2).1]; exact g2,
        (hother b hlt (hfree id B b o _ hd e g1)).trans g3, g4⟩
    · obtain ⟨rfl, e2⟩ := hrest id B hid e
      clear e
      simp only [roomB, Option.some.injEq] at e2
      subst e2
      exact ⟨g, 0, C, n, cs, by simp only [hlen]; exact hnewρ, hnewρ1, hnew, hcs, hlen, hn, hC, rfl, rfl⟩
end Go.Proofs.Ytpfmnmcpffajeaa.V
