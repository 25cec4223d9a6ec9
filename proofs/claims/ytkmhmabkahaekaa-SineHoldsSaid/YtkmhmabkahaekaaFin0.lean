/-
  Cosines and sines by both programs' series, in natural numbers, for a finite check.
-/
set_option linter.unusedVariables false
namespace Go.Proofs.Ytkmhmabkahaekaa.V
namespace Fin
def cP (sq c d : Nat) : Nat := Nat.sub 1000000000000000000 (Nat.div (Nat.div (Nat.mul c sq) 1000000000000000000) d)
def cosPs (sq : Nat) : Nat := cP sq (cP sq (cP sq (cP sq (cP sq (cP sq (cP sq (cP sq (cP sq (cP sq (cP sq (cP sq (cP sq 1000000000000000000 650) 552) 462) 380) 306) 240) 182) 132) 90) 56) 30) 12) 2
def sinPs (sq : Nat) : Nat := cP sq (cP sq (cP sq (cP sq (cP sq (cP sq (cP sq (cP sq (cP sq (cP sq (cP sq (cP sq (cP sq 1000000000000000000 702) 600) 506) 420) 342) 272) 210) 156) 110) 72) 42) 20) 6
def sqP (x : Nat) : Nat := Nat.div (Nat.mul x x) 1000000000000000000
def angP (k n : Nat) : Nat := Nat.div (Nat.mul 6283185307179586477 k) n
def tR (sq d t : Nat) : Nat := Nat.div (Nat.mod (Nat.div (Nat.mul t sq) 100000000000000000) 9223372036854775808) d
def sm (s t : Nat) : Nat := Nat.mod (Nat.sub (Nat.add s 18446744073709551616) t) 18446744073709551616
def sp (s t : Nat) : Nat := Nat.mod (Nat.add s t) 18446744073709551616
def serR (sq f : Nat) (d1 d2 d3 d4 d5 d6 d7 d8 d9 d10 d11 d12 : Nat) : Nat :=
  (fun t1 => (fun t2 => (fun t3 => (fun t4 => (fun t5 => (fun t6 => (fun t7 => (fun t8 => (fun t9 => (fun t10 => (fun t11 => (fun t12 => 
   sp (sm (sp (sm (sp (sm (sp (sm (sp (sm (sp (sm f t1) t2) t3) t4) t5) t6) t7) t8) t9) t10) t11) t12) (tR sq d12 t11)) (tR sq d11 t10)) (tR sq d10 t9)) (tR sq d9 t8)) (tR sq d8 t7)) (tR sq d7 t6)) (tR sq d6 t5)) (tR sq d5 t4)) (tR sq d4 t3)) (tR sq d3 t2)) (tR sq d2 t1)) (tR sq d1 f)
def sqR (x : Nat) : Nat := Nat.mod (Nat.div (Nat.mul x x) 100000000000000000) 9223372036854775808
def angR (k n : Nat) : Nat := Nat.div (Nat.mul 628318530717958648 k) n
def cosR (sq : Nat) : Nat := serR sq 100000000000000000 2 12 30 56 90 132 182 240 306 380 462 552
def sinR (sq x : Nat) : Nat := serR sq x 6 20 42 72 110 156 210 272 342 420 506 600
/-- Millionths of a cosine, a sine: the program's, the reference's. -/
def cosMP (x : Nat) : Nat := Nat.div (cosPs (sqP x)) 1000000000000
def sinMP (x : Nat) : Nat := Nat.div (Nat.div (Nat.mul (sinPs (sqP x)) x) 1000000000000000000) 1000000000000
def cosMR (x : Nat) : Nat := Nat.div (cosR (sqR x)) 100000000000
def sinMR (x : Nat) : Nat := Nat.div (sinR (sqR x) x) 100000000000
/-- Squares add up to 1. -/
def circ (a b : Nat) : Bool := Nat.ble (Nat.add (Nat.mul a a) (Nat.mul b b)) 1000000000000 && Nat.ble 1000000000000 (Nat.add (Nat.mul (Nat.add a 1) (Nat.add a 1)) (Nat.mul (Nat.add b 1) (Nat.add b 1))) && Nat.blt a 1000000
def chk1 (j m : Nat) : Bool := Nat.beq j 0 ||
  (Nat.beq (cosMP (angP j m)) (cosMR (angR j m)) && (Nat.beq (Nat.mul 12 j) m || Nat.beq (sinMP (angP j m)) (sinMR (angR j m))) && circ (cosMP (angP j m)) (sinMP (angP j m)))
def chkN (n : Nat) : Bool := Nat.rec true (fun j r => chk1 j (Nat.mul 4 n) && r) (Nat.succ (Nat.div n 2))
def chkR (a : Nat) (k : Nat) : Bool := Nat.rec true (fun i r => chkN (Nat.add a i) && r) k
end Fin
end Go.Proofs.Ytkmhmabkahaekaa.V
