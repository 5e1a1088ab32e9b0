/-
  Short forms of instructions: what the document writes.
-/
import Derived.Test.YtklenhohljeacaaDoorEncF
import Derived.Test.YtklenhohljeacaaDoorEncK
namespace Go.Proofs.YtklenhohljeacaaDoor.Ex
open Go

def lowT (f : Nat) : SE := match f with
  | 97 => .bin .sub .i64 (.var 0) (.lit 8)
  | 108 => .bin .sub .i64 (.var 0) (.lit 8)
  | 115 => .bin .sub .i64 (.var 2) (.lit 8)
  | 109 => .bin .sub .i64 (.var 2) (.lit 8)
  | 118 => .var 2
  | 100 => .var 2
  | 116 => .var 2
  | _ => .lit 0
def highT (f : Nat) : SE := match f with
  | 108 => .bin .sub .i64 (.var 1) (.lit 8)
  | 115 => .bin .sub .i64 (.var 1) (.lit 8)
  | 114 => .var 0
  | 122 => .var 0
  | 117 => .var 0
  | 119 => .var 0
  | 113 => .bin .sub .i64 (.var 0) (.lit 8)
  | 109 => .bin .sub .i64 (.var 0) (.lit 8)
  | 98 => .bin .sub .i64 (.var 1) (.lit 8)
  | 74 => .var 1
  | 75 => .var 1
  | 118 => .var 0
  | 100 => .var 0
  | _ => .lit 0
def addA (x y : SE) : SE := match x, y with
  | .lit m, .lit n => .lit (m + n)
  | x, y => .bin .add .i64 x y
def mulA (c : Int) (x : SE) : SE := match x with
  | .lit n => .lit (c * n)
  | x => .bin .mul .i64 (.lit c) x
def sc5 (V : SE) : List Nat → Nat → SE → SE
  | [], _, acc => acc
  | p :: ps, i, acc => sc5 V ps (i + 1) (.bin .add .i64 acc (.bin .mul .i64 (.wrap .i64 (.wrap .u32 (.bin .rem .i64 (.bin .quo .i64 V (.lit ((2 ^ i : Nat) : Int))) (.lit 2)))) (.lit ((2 ^ p : Nat) : Int))))
def nT (r : RowL) (V : SE) : SE := match r.places with
  | [] => .lit 0
  | _ => .wrap .i64 (.wrap .u32 (sc5 V r.places 0 (.lit 0)))
def sumT (r : RowL) (N : SE) : SE := addA (addA (addA (.lit (r.base : Nat)) (mulA 4 (lowT r.form))) (mulA 128 (highT r.form))) N
def valA (x : SE) : AV := match x with
  | .lit n => .int .u16 n
  | x => .sint .u16 (.wrap .u16 x)
/-- by the tests of a number: which text it is written by -/
def brT (leafF : SE → AV) (r : RowL) : Tr :=
  let room : Int := ((2 ^ r.places.length : Nat) : Int)
  let v0 : SE := .bin .quo .i64 (.var 3) (.lit (r.unit : Nat))
  let part (v : SE) : Tr := let V : SE := .wrap .i64 (.wrap .u32 (.bin .rem .i64 v (.lit room))); .lt V (.lit room) (.leaf (leafF (nT r V))) (.leaf (leafF (.lit 0)))
  .lt v0 (.lit 0) (part (.bin .add .i64 v0 (.lit room))) (part v0)
def writTr (r : RowL) : Tr := brT (fun N => .tup [valA (sumT r N), .int .i64 0]) r
def eI' : SE := eI
section defs
variable [Dec]
def orcFind (args : List AV) (H : AHeap) : Option (AV × AHeap) :=
  match args with
  | [i] => (insn? i).bind fun e => if isT (Dec.eqs (.fn 12 e) (.lit 1)) = true then some (mkInt .i64 (.fn 15 e), H) else none
  | _ => none
end defs
def orcB (may find : FuncId) (F : Fa) : ACall := orElse (only may (@orcMay F.dec)) (only find (@orcFind F.dec))
def FW (k : Int) : Fa := ⟨[(.fn 12 eI, .lit 1, true)], opFacts, [(.fn 15 eI, k)]⟩
def FX : Fa := ⟨[(.fn 12 eI, .lit 1, false)], opFacts, []⟩
end Go.Proofs.YtklenhohljeacaaDoor.Ex
