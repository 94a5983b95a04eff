/- The reckoning for points in sixteenths: their angles, lengths and sines, in intervals. No program. -/
import Derived.Test.YtkhoifgljalfcaaLd
namespace Go.Proofs.Ytkhoifgljalfcaa
open Ieee
set_option linter.unusedVariables false
set_option linter.unusedSimpArgs false

/-- The angle of a quotient, in turns. -/
def angC (S B : Iv) (gt : Bool) (k : Iv → Bool) : Bool :=
  cDv S B fun t0 => stC t0 fun t1 => stC t1 fun t2 => stC t2 fun t3 => cMl t3 t3 fun u => Nat.ble u.hi pTop && pCm u 3 5 p5I fun p => cMl t3 p fun m => cMl (cI 8) m fun e => cDv e turnI fun a0 =>
    match gt with
    | false => k a0
    | true => cSb ⟨quart, quart⟩ a0 k
/-- An interval's ends on a coarser grid. -/
def crs (A : Iv) (s : Nat) (k : Nat → Nat → Bool) : Bool := seqN (A.lo / s) fun l => seqN ((A.hi + (s - 1)) / s) fun h => Nat.ble h 16777216 && k l h
/-- The length, in 32 bits, widened. -/
def lngC (p q : Nat) (k : Iv → Bool) : Bool := seqN ((p * p + q * q) * 4294967296) fun n => cSq ⟨n, n⟩ fun S => crs S 524288 fun l h => k ⟨l * 524288, h * 524288⟩
def gapE : Nat := 109951162
def gapK (G : Iv) (Z : Int) (S : Iv) (t : Bool) : Bool := crs S 131072 fun l h => (mlI ⟨l * 131072, h * 131072⟩ G).seq fun M => M.ok &&
  match t with
  | true => decide (-(M.lo : Int) - Z ≤ gapE) && decide (Z + M.hi ≤ gapE)
  | false => decide ((M.hi : Int) - Z ≤ gapE) && decide (Z - M.lo ≤ gapE)
def p36 : Nat := 68719476736
def sgZ (n : Bool) (z : Nat) : Int := match n with | true => -(z : Int) | false => (z : Int)
/-- A point with an angle between l and h, in 2^-24: both sines lead back. -/
def twoC (G : Iv) (p q : Nat) (xn yn : Bool) (l h : Nat) : Bool := Nat.ble h 8388608 &&
    match yn with
    | false => sinK ((l * 65536 : Nat) : Int) ((h * 65536 : Nat) : Int) (gapK G ((p * p36 : Nat) : Int)) &&
        sinK (((l + 4194304) * 65536 : Nat) : Int) (((h + 4194304) * 65536 : Nat) : Int) (gapK G (sgZ xn (q * p36)))
    | true => sinK (-((h * 65536 : Nat) : Int)) (-((l * 65536 : Nat) : Int)) (gapK G (-((p * p36 : Nat) : Int))) &&
        sinK ((274877906944 : Int) - ((h * 65536 : Nat) : Int)) ((274877906944 : Int) - ((l * 65536 : Nat) : Int)) (gapK G (sgZ xn (q * p36)))
def pnt (p q : Nat) : Bool :=
  lngC p q fun G => angC ⟨min p q * p36, min p q * p36⟩ ⟨max p q * p36, max p q * p36⟩ (Nat.blt q p) fun T =>
    (crs T 65536 fun l h => twoC G p q false false l h && twoC G p q false true l h) &&
    (cSb ⟨half, half⟩ T fun T => crs T 65536 fun l h => twoC G p q true false l h && twoC G p q true true l h)
/-- All points of a column. -/
def colC (q n : Nat) : Bool := Nat.rec (Nat.beq q 0 || pnt 0 q) (fun p ih => pnt (p + 1) q && ih) n

end Go.Proofs.Ytkhoifgljalfcaa
