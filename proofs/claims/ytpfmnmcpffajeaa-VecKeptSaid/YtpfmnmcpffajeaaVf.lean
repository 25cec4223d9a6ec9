/-
  A second semantics of Go's operations. Part 6: what writes memory.
-/
import Derived.Test.YtpfmnmcpffajeaaVe
set_option linter.unusedVariables false
set_option linter.unusedSimpArgs false
namespace Go.Proofs.Ytpfmnmcpffajeaa.V
open Go Go.RowKit

def Blk.put (B : Blk) (ix c : Nat) (cs : List AV) : Blk :=
  { B with f := cond B.sym (fun j => cond (j.beq ix) (splice (B.f ix) c cs) (B.f j)) (let l := splice (B.f 0) c cs; fun _ => l) }

theorem splice_length {l : List AV} {c : Nat} {cs : List AV} (h : c + cs.length ≤ l.length) : (splice l c cs).length = l.length := by
  unfold splice; simp; omega

theorem splice_get {l : List AV} {c : Nat} {cs : List AV} (h : c + cs.length ≤ l.length) (j : Nat) : (splice l c cs)[j]? = if j < c then l[j]? else if j < c + cs.length then cs[j - c]? else l[j]? := by
  unfold splice
  simp only [List.getElem?_append, List.length_append, List.length_take, List.getElem?_take, List.getElem?_drop]
  rw [show min c l.length = c from by omega]
  by_cases h1 : j < c
  · simp only [h1, if_true, show j < c + cs.length from by omega]
  · by_cases h2 : j < c + cs.length
    · simp only [h1, h2, if_true, if_false]
    · simp only [h1, h2, if_false]
      congr 1; omega

theorem Blk.put_f {B : Blk} {ix c : Nat} {cs : List AV} (h1 : B.sym = false → B.n = 1) (hix : ix < B.n) {j : Nat} (hj : j < B.n) : (B.put ix c cs).f j = if j = ix then splice (B.f ix) c cs else B.f j := by
  unfold Blk.put
  cases hs : B.sym with
  | false =>
    have := h1 hs
    have e1 : ix = 0 := by omega
    have e2 : j = 0 := by omega
    subst e1; subst e2
    simp
  | true =>
    simp only [cond_true]
    by_cases h : j = ix
    · subst h; simp
    · simp only [if_neg h, beq_no h, cond_false]

def World.withRow (w : World) (b : Nat) (cs : List Value) (t : TypeId) : World := { w with heap := w.heap.setIfInBounds b (.cells cs.toArray t (0, 0)) }

theorem setCell_row {w : World} {b off : Nat} {cs : Array Value} {t : TypeId} (h : w.heap[b]? = some (.cells cs t (0, 0))) (v : Value) : w.setCell ⟨b, off, none⟩ v = World.withRow w b (cs.toList.set off v) t := by
  unfold World.setCell World.withRow
  congr 1
  apply Array.ext_getElem?
  intro i
  rw [Array.getElem?_modify, Array.getElem?_setIfInBounds]
  by_cases hi : b = i
  · subst hi
    simp only [if_true, h, Option.map_some]
    have hlt : b < w.heap.size := (Array.getElem?_eq_some_iff.1 h).1
    rw [if_pos hlt]
    congr 2
    apply Array.ext'
    simp
  · simp only [if_neg hi]

theorem run_storeCells {P : Program} {b off : Nat} {t : TypeId} : ∀ (vs : List Value) (i : Nat) (w : World) (cs : List Value), w.heap[b]? = some (.cells cs.toArray t (0, 0)) → off + i + vs.length ≤ cs.length → (∀ v ∈ vs, v.oneCell' = true) →
    (storeCells ⟨b, off, none⟩ vs i).run P w = .ok () (World.withRow w b (cs.take (off + i) ++ vs ++ cs.drop (off + i + vs.length)) t)
  | [], i, w, cs, h, hl, _ => by
    simp only [storeCells, Sem.run_pure, List.append_nil, List.length_nil, Nat.add_zero, List.take_append_drop]
    congr 1
    unfold World.withRow
    have hlt : b < w.heap.size := (Array.getElem?_eq_some_iff.1 h).1
    have : w.heap.setIfInBounds b (.cells cs.toArray t (0, 0)) = w.heap := by
      apply Array.ext_getElem?
      intro j
      rw [Array.getElem?_setIfInBounds]
      split
      · rename_i e; subst e; first | exact h.symm | (rw [if_pos hlt]; exact h.symm)
      · rfl
    rw [this]
  | v :: vs, i, w, cs, h, hl, hv => by
    simp only [List.length_cons] at hl
    have hlt : b < w.heap.size := (Array.getElem?_eq_some_iff.1 h).1
    have hcell : w.cell? ⟨b, off + i, none⟩ = some (cs[off + i]'(by omega)) := by
      simp only [World.cell?, h]
      simp [show off + i < cs.length from by omega]
    have hfr : w.frozen? ⟨b, off + i, none⟩ = false := by simp [World.frozen?, h]
    have hst : (store (Addr.add ⟨b, off, none⟩ i) v .plain).run P w = .ok () (World.withRow w b (cs.set (off + i) v) t) := by
      rw [add_at, run_store P w _ v _ (hv v (by simp)), hcell]
      simp only [hfr, Bool.false_eq_true, if_false]
      rw [setCell_row h]
    simp only [storeCells, Sem.run_bind]
    rw [hst]
    simp only [Result.andThen_ok]
    have h' : (World.withRow w b (cs.set (off + i) v) t).heap[b]? = some (.cells (cs.set (off + i) v).toArray t (0, 0)) := by
      simp [World.withRow, hlt]
    have := run_storeCells (P := P) (off := off) vs (i + 1) (World.withRow w b (cs.set (off + i) v) t) (cs.set (off + i) v) h' (by simp; omega) (fun u hu => hv u (by simp [hu]))
    rw [this]
    congr 1
    unfold World.withRow
    simp only [Array.setIfInBounds_setIfInBounds]
    congr 4
    apply List.ext_getElem?
    intro j
    simp only [List.getElem?_append, List.getElem?_take, List.length_take, List.length_set, List.getElem?_set, List.getElem?_drop, List.length_append, List.length_cons]
    rcases Nat.lt_trichotomy j (off + i) with hj | hj | hj
    · simp only [show j < min (off + (i + 1)) cs.length + vs.length from by omega, show j < min (off + (i + 1)) cs.length from by omega, if_true, show j < off + (i + 1) from by omega,
        show j < min (off + i) cs.length + (vs.length + 1) from by omega, show j < min (off + i) cs.length from by omega, show ¬ off + i = j from by omega, if_false, hj]
    · subst hj
      simp only [show off + i < min (off + (i + 1)) cs.length + vs.length from by omega, show off + i < min (off + (i + 1)) cs.length from by omega, if_true, show off + i < off + (i + 1) from by omega,
        show off + i < min (off + i) cs.length + (vs.length + 1) from by omega, show ¬ off + i < min (off + i) cs.length from by omega, if_false, show off + i < cs.length from by omega]
      rw [show off + i - min (off + i) cs.length = 0 from by omega]
      rfl
    · by_cases h2 : j < off + i + 1 + vs.length
      · simp only [show j < min (off + (i + 1)) cs.length + vs.length from by omega, show ¬ j < min (off + (i + 1)) cs.length from by omega, if_true, if_false,
          show j < min (off + i) cs.length + (vs.length + 1) from by omega, show ¬ j < min (off + i) cs.length from by omega]
        rw [show j - min (off + i) cs.length = (j - min (off + (i + 1)) cs.length) + 1 from by omega, List.getElem?_cons_succ]
      · simp only [show ¬ j < min (off + (i + 1)) cs.length + vs.length from by omega, if_false, show ¬ j < min (off + i) cs.length + (vs.length + 1) from by omega]
        rw [if_neg (by omega)]
        congr 1
        omega

theorem cell_withRow_same {w : World} {b : Nat} {cs : List Value} {t : TypeId} (h : b < w.heap.size) (j : Nat) : (World.withRow w b cs t).cell? ⟨b, j, none⟩ = cs[j]? := by
  simp [World.withRow, World.cell?, h]
theorem heap_withRow_other {w : World} {b k : Nat} {cs : List Value} {t : TypeId} (h : k ≠ b) : (World.withRow w b cs t).heap[k]? = w.heap[k]? := by
  unfold World.withRow
  simp only
  rw [Array.getElem?_setIfInBounds, if_neg (fun e => h e.symm)]
theorem cell_withRow_other {w : World} {b : Nat} {cs : List Value} {t : TypeId} {a : Addr} (h : a.block ≠ b) : (World.withRow w b cs t).cell? a = w.cell? a := by
  unfold World.cell?
  rw [heap_withRow_other h]

/-- A store into an own block. -/
theorem Rel.put {w0 w : World} {ρ : List Loc} {H : Heap} (h : Rel w0 ρ H w) {id b o : Nat} {B : Blk} (hB : H[id]? = some (some B)) (hρ : ρ[id]? = some (b, o, B.esz)) (hh : Holds w0 ρ B b o w) (hown : B.own = true)
    {ix c : Nat} (hix : ix < B.n) {as : List AV} {vs : List Value} (hRL : RL ρ as vs) (hle : c + as.length ≤ (B.f ix).length) {cs : List Value} (hcs : w.heap[b]? = some (.cells cs.toArray B.ty (0, 0))) :
    Rel w0 ρ (H.set id (some (B.put ix c as))) (World.withRow w b (cs.take (ix * B.esz + c) ++ vs ++ cs.drop (ix * B.esz + c + vs.length)) B.ty) := by
  obtain ⟨ho, hb, _⟩ := hh.own hown
  have hlt : b < w.heap.size := hh.lt h
  have hvl := hRL.length
  have hesz := hh.wide ix hix
  have hidl : id < H.length := (List.getElem?_eq_some_iff.1 hB).1
  -- the row is long enough
  have hlen : ix * B.esz + c + vs.length ≤ cs.length := by
    rcases Nat.eq_zero_or_pos vs.length with h0 | h0
    · rcases Nat.eq_zero_or_pos (B.f ix).length with h1 | h1
      · by_cases hix0 : ix = 0
        · subst hix0; omega
        · have : c = 0 := by omega
          rw [hesz] at h1
          rw [h1]; omega
      · have hl : (B.f ix).length - 1 < (B.f ix).length := by omega
        obtain ⟨v, k1, _⟩ := hh.cell ix ((B.f ix).length - 1) _ hix (List.getElem?_eq_getElem hl)
        rw [ho] at k1
        simp only [World.cell?, hcs] at k1
        have := (List.getElem?_eq_some_iff.1 (by simpa using k1)).1
        omega
    · have hl : c + as.length - 1 < (B.f ix).length := by omega
      obtain ⟨v, k1, _⟩ := hh.cell ix (c + as.length - 1) _ hix (List.getElem?_eq_getElem hl)
      rw [ho] at k1
      simp only [World.cell?, hcs] at k1
      have := (List.getElem?_eq_some_iff.1 (by simpa using k1)).1
      omega
  generalize hcs' : cs.take (ix * B.esz + c) ++ vs ++ cs.drop (ix * B.esz + c + vs.length) = cs'
  have hget : ∀ j : Nat, cs'[j]? = if j < ix * B.esz + c then cs[j]? else if j < ix * B.esz + c + vs.length then vs[j - (ix * B.esz + c)]? else cs[j]? := fun j => by
    subst hcs'
    simp only [List.getElem?_append, List.length_append, List.length_take, List.getElem?_take, List.getElem?_drop]
    rw [show min (ix * B.esz + c) cs.length = ix * B.esz + c from by omega]
    by_cases h1 : j < ix * B.esz + c
    · simp only [h1, if_true, show j < ix * B.esz + c + vs.length from by omega]
    · by_cases h2 : j < ix * B.esz + c + vs.length
      · simp only [h1, h2, if_true, if_false]
      · simp only [h1, h2, if_false]
        congr 1; omega
  refine ⟨by simp [h.len], h.below.trans ⟨rfl, rfl, rfl, by simp [World.withRow], fun k hk => heap_withRow_other (by omega)⟩, fun i C e => ?_, fun i j C D b1 o1 e1 b2 o2 e2 h1 h2 h3 h4 h5 h6 => ?_, fun i C e r => ?_⟩
  · by_cases hi : id = i
    · subst hi
      rw [List.getElem?_set_self hidl] at e
      simp only [Option.some.injEq] at e
      subst e
      refine ⟨b, o, hρ, ⟨fun j d a hj ha => ?_, fun j hj => ?_, fun _ => ⟨ho, hb, cs'.toArray, by simp [World.withRow, hlt, Blk.put]⟩, fun hf => by simp [Blk.put, hown] at hf, fun hs => hh.one hs⟩⟩
      · have hj' : j < B.n := hj
        rw [Blk.put_f hh.one hix hj'] at ha
        subst ho
        show ∃ v, (World.withRow w b cs' B.ty).cell? ⟨b, 0 + j * B.esz + d, none⟩ = some v ∧ R ρ a v
        rw [cell_withRow_same hlt, hget]
        have hold : ∀ a', (B.f j)[d]? = some a' → ∃ v, cs[0 + j * B.esz + d]? = some v ∧ R ρ a' v := fun a' ha' => by
          obtain ⟨v, k1, k2⟩ := hh.cell j d a' hj' ha'
          simp only [World.cell?, hcs] at k1
          exact ⟨v, by simpa using k1, k2⟩
        have hwj := hh.wide j hj'
        by_cases hji : j = ix
        · subst hji
          rw [if_pos rfl, splice_get hle] at ha
          by_cases q1 : d < c
          · rw [if_pos q1] at ha
            rw [if_pos (by omega)]
            exact hold a ha
          · rw [if_neg q1] at ha
            rw [if_neg (by omega)]
            by_cases q2 : d < c + as.length
            · rw [if_pos q2] at ha
              rw [if_pos (by omega)]
              obtain ⟨v, k1, k2⟩ := hRL.get ha
              exact ⟨v, by rw [← k1]; congr 1; omega, k2⟩
            · rw [if_neg q2] at ha
              rw [if_neg (by omega)]
              exact hold a ha
        · rw [if_neg hji] at ha
          have hd : d < B.esz := by rw [← hwj]; exact (List.getElem?_eq_some_iff.1 ha).1
          have hne : ¬ (ix * B.esz + c ≤ 0 + j * B.esz + d ∧ 0 + j * B.esz + d < ix * B.esz + c + vs.length) := by
            rintro ⟨g1, g2⟩
            rcases Nat.lt_or_gt_of_ne hji with hlt2 | hlt2
            · have : (j + 1) * B.esz ≤ ix * B.esz := Nat.mul_le_mul_right _ hlt2
              rw [Nat.add_mul] at this
              omega
            · have : (ix + 1) * B.esz ≤ j * B.esz := Nat.mul_le_mul_right _ hlt2
              rw [Nat.add_mul] at this
              omega
          by_cases q1 : 0 + j * B.esz + d < ix * B.esz + c
          · rw [if_pos q1]; exact hold a ha
          · rw [if_neg q1, if_neg (by omega)]; exact hold a ha
      · have hj' : j < B.n := hj
        rw [Blk.put_f hh.one hix hj']
        split
        · rename_i e; subst e; rw [splice_length hle]; exact hesz
        · exact hh.wide j hj'
    · rw [List.getElem?_set_ne hi] at e
      obtain ⟨b1, o1, k1, k2⟩ := h.blk i C e
      have hne : b1 ≠ b := fun e' => hi (h.dist id i B C b o B.esz b1 o1 C.esz hB e hown hρ k1 e'.symm)
      exact ⟨b1, o1, k1, ⟨fun j d a hj ha => by
        obtain ⟨v, g1, g2⟩ := k2.cell j d a hj ha
        exact ⟨v, by rw [cell_withRow_other hne]; exact g1, g2⟩, k2.wide, fun hw => by
        obtain ⟨g1, g2, cs1, g3⟩ := k2.own hw
        exact ⟨g1, g2, cs1, by rw [heap_withRow_other hne]; exact g3⟩, k2.old, k2.one⟩⟩
  · have key : ∀ (i : Nat) (C : Blk), (H.set id (some (B.put ix c as)))[i]? = some (some C) → ∃ C', H[i]? = some (some C') ∧ C'.own = C.own := fun i C e => by
      by_cases hi : id = i
      · subst hi
        rw [List.getElem?_set_self hidl] at e
        simp only [Option.some.injEq] at e
        subst e
        exact ⟨B, hB, rfl⟩
      · rw [List.getElem?_set_ne hi] at e
        exact ⟨C, e, rfl⟩
    obtain ⟨C', g1, g2⟩ := key i C h1
    obtain ⟨D', g3, g4⟩ := key j D h2
    exact h.dist i j C' D' b1 o1 e1 b2 o2 e2 g1 g3 (g2.trans h3) h4 h5 h6
  · by_cases hi : id = i
    · subst hi
      rw [List.getElem?_set_self hidl] at e
      simp only [Option.some.injEq] at e
      subst e
      obtain ⟨b1, o1, D, n, cs1, g1, g2, g3, g4, g5, g6, g7, g8, g9⟩ := h.room id B hB r
      have eb : b1 = b := by
        have := g1.symm.trans hρ
        simp at this; exact this.1
      subst eb
      rw [hcs] at g3
      simp only [Option.some.injEq, Obj.cells.injEq, and_true] at g3
      have hl2 : cs'.length = cs.length := by
        rw [← hcs']
        simp only [List.length_append, List.length_take, List.length_drop]
        omega
      have hl1 : cs.length = D * B.room := by rw [← g4, ← g3]; simp
      exact ⟨b1, o1, D, n, cs'.toArray, g1, g2, by simp [World.withRow, hlt, Blk.put], by
        rw [List.size_toArray, hl2]
        exact hl1, g5, g6, g7, g8, g9⟩
    · rw [List.getElem?_set_ne hi] at e
      obtain ⟨b1, o1, D, n, cs1, g1, g2, g3, g⟩ := h.room i C e r
      have hne : b1 ≠ b := fun e' => hi (h.dist id i B C b o B.esz b1 o1 C.esz hB e hown hρ g1 e'.symm)
      exact ⟨b1, o1, D, n, cs1, g1, g2, by rw [heap_withRow_other hne]; exact g3, g⟩
end Go.Proofs.Ytpfmnmcpffajeaa.V
