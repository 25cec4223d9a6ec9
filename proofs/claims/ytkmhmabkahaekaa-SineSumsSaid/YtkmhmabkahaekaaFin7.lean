/-
  Powers of a turn of rational numbers, near the n-th part of a quarter: a finite check against the cosines and sines.
-/
import Derived.Test.YtkmhmabkahaekaaFin0
set_option linter.unusedVariables false
namespace Go.Proofs.Ytkmhmabkahaekaa.V
namespace Fin
/-- The tangent of half the angle, times 10^15. -/
def pOf (n : Nat) : Nat := cond (Nat.beq n 1) 1000000000000000 (Nat.div (Nat.mul (Nat.div (Nat.mul (sinPs (sqP (angP 1 (Nat.mul 4 n)))) (angP 1 (Nat.mul 4 n))) 1000000000000000000) 1000000000000000) (Nat.add 1000000000000000000 (cosPs (sqP (angP 1 (Nat.mul 4 n))))))
def aOf (p : Nat) : Nat := Nat.sub 1000000000000000000000000000000 (Nat.mul p p)
def bOf (p : Nat) : Nat := Nat.mul 2000000000000000 p
def dOf (p : Nat) : Nat := Nat.add 1000000000000000000000000000000 (Nat.mul p p)
def nearB (lo hi w : Nat) : Bool := Nat.ble (Nat.mul lo 1000000000) (Nat.add w 1000000) && Nat.ble w (Nat.add (Nat.mul hi 1000000000) 1000000)
def chkJ (n j c s : Nat) : Bool := Nat.beq j 0 || Nat.blt n (Nat.mul 2 j) ||
  (nearB (cosMP (angP j (Nat.mul 4 n))) (Nat.succ (cosMP (angP j (Nat.mul 4 n)))) c && cond (Nat.beq (Nat.mul 3 j) n) (nearB 500000 500000 s) (nearB (sinMP (angP j (Nat.mul 4 n))) (Nat.succ (sinMP (angP j (Nat.mul 4 n)))) s))
def endB (A B D c s : Nat) : Bool := Nat.ble (Nat.mul c A) (Nat.add (Nat.mul s B) (Nat.mul 2000000 D)) && Nat.ble (Nat.mul s B) (Nat.add (Nat.mul c A) (Nat.mul 2000000 D)) &&
  Nat.ble (Nat.add (Nat.mul s A) (Nat.mul c B)) (Nat.mul 1000000002000000 D) && Nat.ble (Nat.mul 999999998000000 D) (Nat.add (Nat.mul s A) (Nat.mul c B))
def stC (A B D c s : Nat) : Nat := Nat.div (Nat.sub (Nat.mul c A) (Nat.mul s B)) D
def stS (A B D c s : Nat) : Nat := Nat.div (Nat.add (Nat.mul s A) (Nat.mul c B)) D
def runW (n A B D : Nat) (k : Nat) : Nat → Nat → Nat → Bool :=
  Nat.rec (motive := fun _ => Nat → Nat → Nat → Bool) (fun j c s => chkJ n j c s && endB A B D c s)
    (fun _ ih j c s => chkJ n j c s && Nat.ble (Nat.mul s B) (Nat.mul c A) && ih (Nat.succ j) (stC A B D c s) (stS A B D c s)) k
def chkW (n : Nat) : Bool := Nat.ble (pOf n) 1000000000000000 && runW n (aOf (pOf n)) (bOf (pOf n)) (dOf (pOf n)) (Nat.sub n 1) 0 1000000000000000 0
def chkV (a : Nat) (k : Nat) : Bool := Nat.rec true (fun i r => chkW (Nat.add a i) && r) k
end Fin
end Go.Proofs.Ytkmhmabkahaekaa.V
