/-
  Half words: what the program reads, whatever their fields are (trees written by a program), and as a plain function.
-/
import Derived.Test.YtoehlmiadiiimaaGreatDoorEncTr
namespace Go.Proofs.YtoehlmiadiiimaaGreatDoor.Ex
open Go

def wS : SE := .wrap .u32 (.var 0)
def gT : List Nat → Nat → SE → SE
  | [], _, acc => acc
  | p :: ps, i, acc => gT ps (i + 1) (.bin .or .u32 acc (.bin .shl .u32 (.bin .and .u32 (.bin .shr .u32 wS (.lit (p : Nat))) (.lit 1)) (.lit (i : Nat))))
def swT : SE := .bin .or .u32 (.bin .shl .u32 (.bin .and .u32 wS (.lit 3)) (.lit 3)) (.bin .shr .u32 wS (.lit 13))
def whichT : SE := .bin .or .u32 (.bin .shl .u32 (.bin .and .u32 (.bin .shr .u32 wS (.lit 12)) (.lit 1)) (.lit 2)) (.bin .and .u32 (.bin .shr .u32 wS (.lit 5)) (.lit 3))
def signedL : List (List Nat) := [[2,3,4,5,6,12],[6,2,5,3,4,12],[3,4,5,11,2,7,6,9,10,8,12],[3,4,10,11,2,5,6,12]]
def clsOf (n : Nat) : Nat := if n < 32 then n else 12
def rawTr : Nat → Tr
  | 0 => (.leaf (.agg [(.int .u8 22), (.sint .i64 (.bin .add .i64 (.bin .and .i64 (.wrap .i64 (.bin .and .u32 (.bin .shr .u32 wS (.lit 2)) (.lit 31))) (.lit 7)) (.lit 8))), (.int .i64 2), (.int .i64 0), (.sint .i64 (.bin .mul .i64 (.lit 4) (.wrap .i64 (gT [6, 5, 11, 12, 7, 8, 9, 10] 0 (.lit 0)))))]))
  | 1 => (.leaf (.agg [(.int .u8 0), (.int .i64 0), (.int .i64 0), (.int .i64 0), (.int .i64 0)]))
  | 2 => (.leaf (.agg [(.int .u8 13), (.sint .i64 (.bin .add .i64 (.bin .and .i64 (.wrap .i64 (.bin .and .u32 (.bin .shr .u32 wS (.lit 2)) (.lit 31))) (.lit 7)) (.lit 8))), (.sint .i64 (.bin .add .i64 (.bin .and .i64 (.wrap .i64 (.bin .and .u32 (.bin .shr .u32 wS (.lit 7)) (.lit 31))) (.lit 7)) (.lit 8))), (.int .i64 0), (.sint .i64 (.bin .mul .i64 (.lit 4) (.wrap .i64 (gT [6, 10, 11, 12, 5] 0 (.lit 0)))))]))
  | 3 => (.leaf (.agg [(.int .u8 14), (.sint .i64 (.bin .add .i64 (.bin .and .i64 (.wrap .i64 (.bin .and .u32 (.bin .shr .u32 wS (.lit 2)) (.lit 31))) (.lit 7)) (.lit 8))), (.sint .i64 (.bin .add .i64 (.bin .and .i64 (.wrap .i64 (.bin .and .u32 (.bin .shr .u32 wS (.lit 7)) (.lit 31))) (.lit 7)) (.lit 8))), (.int .i64 0), (.sint .i64 (.bin .mul .i64 (.lit 8) (.wrap .i64 (gT [10, 11, 12, 5, 6] 0 (.lit 0)))))]))
  | 4 => (.leaf (.agg [(.int .u8 0), (.int .i64 0), (.int .i64 0), (.int .i64 0), (.int .i64 0)]))
  | 5 => (.leaf (.agg [(.int .u8 0), (.int .i64 0), (.int .i64 0), (.int .i64 0), (.int .i64 0)]))
  | 6 => (.leaf (.agg [(.int .u8 20), (.int .i64 0), (.sint .i64 (.bin .add .i64 (.bin .and .i64 (.wrap .i64 (.bin .and .u32 (.bin .shr .u32 wS (.lit 7)) (.lit 31))) (.lit 7)) (.lit 8))), (.sint .i64 (.bin .add .i64 (.bin .and .i64 (.wrap .i64 (.bin .and .u32 (.bin .shr .u32 wS (.lit 2)) (.lit 31))) (.lit 7)) (.lit 8))), (.sint .i64 (.bin .mul .i64 (.lit 4) (.wrap .i64 (gT [6, 10, 11, 12, 5] 0 (.lit 0)))))]))
  | 7 => (.leaf (.agg [(.int .u8 21), (.int .i64 0), (.sint .i64 (.bin .add .i64 (.bin .and .i64 (.wrap .i64 (.bin .and .u32 (.bin .shr .u32 wS (.lit 7)) (.lit 31))) (.lit 7)) (.lit 8))), (.sint .i64 (.bin .add .i64 (.bin .and .i64 (.wrap .i64 (.bin .and .u32 (.bin .shr .u32 wS (.lit 2)) (.lit 31))) (.lit 7)) (.lit 8))), (.sint .i64 (.bin .mul .i64 (.lit 8) (.wrap .i64 (gT [10, 11, 12, 5, 6] 0 (.lit 0)))))]))
  | 8 => (.leaf (.agg [(.int .u8 22), (.sint .i64 (.wrap .i64 (.bin .and .u32 (.bin .shr .u32 wS (.lit 7)) (.lit 31)))), (.sint .i64 (.wrap .i64 (.bin .and .u32 (.bin .shr .u32 wS (.lit 7)) (.lit 31)))), (.int .i64 0), (.sint .i64 (.wrap .i64 (.bin .shr .i32 (.wrap .i32 (.bin .shl .u32 (gT [2, 3, 4, 5, 6, 12] 0 (.lit 0)) (.lit 26))) (.lit 26))))]))
  | 9 => (.leaf (.agg [(.int .u8 41), (.sint .i64 (.wrap .i64 (.bin .and .u32 (.bin .shr .u32 wS (.lit 7)) (.lit 31)))), (.sint .i64 (.wrap .i64 (.bin .and .u32 (.bin .shr .u32 wS (.lit 7)) (.lit 31)))), (.int .i64 0), (.sint .i64 (.wrap .i64 (.bin .shr .i32 (.wrap .i32 (.bin .shl .u32 (gT [2, 3, 4, 5, 6, 12] 0 (.lit 0)) (.lit 26))) (.lit 26))))]))
  | 10 => (.leaf (.agg [(.int .u8 22), (.sint .i64 (.wrap .i64 (.bin .and .u32 (.bin .shr .u32 wS (.lit 7)) (.lit 31)))), (.int .i64 0), (.int .i64 0), (.sint .i64 (.wrap .i64 (.bin .shr .i32 (.wrap .i32 (.bin .shl .u32 (gT [2, 3, 4, 5, 6, 12] 0 (.lit 0)) (.lit 26))) (.lit 26))))]))
  | 11 => (.eq (.wrap .i64 (.bin .and .u32 (.bin .shr .u32 wS (.lit 7)) (.lit 31))) (.lit 2)
    (.leaf (.agg [(.int .u8 22), (.int .i64 2), (.int .i64 2), (.int .i64 0), (.sint .i64 (.bin .mul .i64 (.lit 16) (.wrap .i64 (.bin .shr .i32 (.wrap .i32 (.bin .shl .u32 (gT [6, 2, 5, 3, 4, 12] 0 (.lit 0)) (.lit 26))) (.lit 26)))))]))
    (.leaf (.agg [(.int .u8 1), (.sint .i64 (.wrap .i64 (.bin .and .u32 (.bin .shr .u32 wS (.lit 7)) (.lit 31)))), (.int .i64 0), (.int .i64 0), (.sint .i64 (.bin .and .i64 (.wrap .i64 (.bin .shr .i32 (.wrap .i32 (.bin .shl .u32 (gT [2, 3, 4, 5, 6, 12] 0 (.lit 0)) (.lit 26))) (.lit 26))) (.lit 1048575)))])))
  | 12 => (.eq (.bin .and .u32 (.bin .shr .u32 wS (.lit 10)) (.lit 3)) (.lit 0)
    (.leaf (.agg [(.int .u8 29), (.sint .i64 (.bin .add .i64 (.bin .and .i64 (.wrap .i64 (.bin .and .u32 (.bin .shr .u32 wS (.lit 7)) (.lit 31))) (.lit 7)) (.lit 8))), (.sint .i64 (.bin .add .i64 (.bin .and .i64 (.wrap .i64 (.bin .and .u32 (.bin .shr .u32 wS (.lit 7)) (.lit 31))) (.lit 7)) (.lit 8))), (.int .i64 0), (.sint .i64 (.wrap .i64 (gT [2, 3, 4, 5, 6, 12] 0 (.lit 0))))]))
    (.eq (.bin .and .u32 (.bin .shr .u32 wS (.lit 10)) (.lit 3)) (.lit 1)
    (.leaf (.agg [(.int .u8 30), (.sint .i64 (.bin .add .i64 (.bin .and .i64 (.wrap .i64 (.bin .and .u32 (.bin .shr .u32 wS (.lit 7)) (.lit 31))) (.lit 7)) (.lit 8))), (.sint .i64 (.bin .add .i64 (.bin .and .i64 (.wrap .i64 (.bin .and .u32 (.bin .shr .u32 wS (.lit 7)) (.lit 31))) (.lit 7)) (.lit 8))), (.int .i64 0), (.sint .i64 (.wrap .i64 (gT [2, 3, 4, 5, 6, 12] 0 (.lit 0))))]))
    (.eq (.bin .and .u32 (.bin .shr .u32 wS (.lit 10)) (.lit 3)) (.lit 2)
    (.leaf (.agg [(.int .u8 27), (.sint .i64 (.bin .add .i64 (.bin .and .i64 (.wrap .i64 (.bin .and .u32 (.bin .shr .u32 wS (.lit 7)) (.lit 31))) (.lit 7)) (.lit 8))), (.sint .i64 (.bin .add .i64 (.bin .and .i64 (.wrap .i64 (.bin .and .u32 (.bin .shr .u32 wS (.lit 7)) (.lit 31))) (.lit 7)) (.lit 8))), (.int .i64 0), (.sint .i64 (.wrap .i64 (.bin .shr .i32 (.wrap .i32 (.bin .shl .u32 (gT [2, 3, 4, 5, 6, 12] 0 (.lit 0)) (.lit 26))) (.lit 26))))]))
    (.leaf (.agg [(.int .u8 32), (.sint .i64 (.bin .add .i64 (.bin .and .i64 (.wrap .i64 (.bin .and .u32 (.bin .shr .u32 wS (.lit 7)) (.lit 31))) (.lit 7)) (.lit 8))), (.sint .i64 (.bin .add .i64 (.bin .and .i64 (.wrap .i64 (.bin .and .u32 (.bin .shr .u32 wS (.lit 7)) (.lit 31))) (.lit 7)) (.lit 8))), (.sint .i64 (.bin .add .i64 (.bin .and .i64 (.wrap .i64 (.bin .and .u32 (.bin .shr .u32 wS (.lit 2)) (.lit 31))) (.lit 7)) (.lit 8))), (.int .i64 0)])))))
  | 13 => (.leaf (.agg [(.int .u8 3), (.int .i64 0), (.int .i64 0), (.int .i64 0), (.sint .i64 (.bin .mul .i64 (.lit 2) (.wrap .i64 (.bin .shr .i32 (.wrap .i32 (.bin .shl .u32 (gT [3, 4, 5, 11, 2, 7, 6, 9, 10, 8, 12] 0 (.lit 0)) (.lit 21))) (.lit 21)))))]))
  | 14 => (.eq (.bin .and .u32 (.bin .shr .u32 wS (.lit 13)) (.lit 1)) (.lit 1)
    (.leaf (.agg [(.int .u8 6), (.int .i64 0), (.sint .i64 (.bin .add .i64 (.bin .and .i64 (.wrap .i64 (.bin .and .u32 (.bin .shr .u32 wS (.lit 7)) (.lit 31))) (.lit 7)) (.lit 8))), (.int .i64 0), (.sint .i64 (.bin .mul .i64 (.lit 2) (.wrap .i64 (.bin .shr .i32 (.wrap .i32 (.bin .shl .u32 (gT [3, 4, 10, 11, 2, 5, 6, 12] 0 (.lit 0)) (.lit 24))) (.lit 24)))))]))
    (.leaf (.agg [(.int .u8 5), (.int .i64 0), (.sint .i64 (.bin .add .i64 (.bin .and .i64 (.wrap .i64 (.bin .and .u32 (.bin .shr .u32 wS (.lit 7)) (.lit 31))) (.lit 7)) (.lit 8))), (.int .i64 0), (.sint .i64 (.bin .mul .i64 (.lit 2) (.wrap .i64 (.bin .shr .i32 (.wrap .i32 (.bin .shl .u32 (gT [3, 4, 10, 11, 2, 5, 6, 12] 0 (.lit 0)) (.lit 24))) (.lit 24)))))])))
  | 15 => (.eq (.bin .and .u32 (.bin .shr .u32 wS (.lit 13)) (.lit 1)) (.lit 1)
    (.leaf (.agg [(.int .u8 6), (.int .i64 0), (.sint .i64 (.bin .add .i64 (.bin .and .i64 (.wrap .i64 (.bin .and .u32 (.bin .shr .u32 wS (.lit 7)) (.lit 31))) (.lit 7)) (.lit 8))), (.int .i64 0), (.sint .i64 (.bin .mul .i64 (.lit 2) (.wrap .i64 (.bin .shr .i32 (.wrap .i32 (.bin .shl .u32 (gT [3, 4, 10, 11, 2, 5, 6, 12] 0 (.lit 0)) (.lit 24))) (.lit 24)))))]))
    (.leaf (.agg [(.int .u8 5), (.int .i64 0), (.sint .i64 (.bin .add .i64 (.bin .and .i64 (.wrap .i64 (.bin .and .u32 (.bin .shr .u32 wS (.lit 7)) (.lit 31))) (.lit 7)) (.lit 8))), (.int .i64 0), (.sint .i64 (.bin .mul .i64 (.lit 2) (.wrap .i64 (.bin .shr .i32 (.wrap .i32 (.bin .shl .u32 (gT [3, 4, 10, 11, 2, 5, 6, 12] 0 (.lit 0)) (.lit 24))) (.lit 24)))))])))
  | 16 => (.leaf (.agg [(.int .u8 28), (.sint .i64 (.wrap .i64 (.bin .and .u32 (.bin .shr .u32 wS (.lit 7)) (.lit 31)))), (.sint .i64 (.wrap .i64 (.bin .and .u32 (.bin .shr .u32 wS (.lit 7)) (.lit 31)))), (.int .i64 0), (.sint .i64 (.wrap .i64 (gT [2, 3, 4, 5, 6, 12] 0 (.lit 0))))]))
  | 17 => (.leaf (.agg [(.int .u8 0), (.int .i64 0), (.int .i64 0), (.int .i64 0), (.int .i64 0)]))
  | 18 => (.leaf (.agg [(.int .u8 13), (.sint .i64 (.wrap .i64 (.bin .and .u32 (.bin .shr .u32 wS (.lit 7)) (.lit 31)))), (.int .i64 2), (.int .i64 0), (.sint .i64 (.bin .mul .i64 (.lit 4) (.wrap .i64 (gT [4, 5, 6, 12, 2, 3] 0 (.lit 0)))))]))
  | 19 => (.leaf (.agg [(.int .u8 14), (.sint .i64 (.wrap .i64 (.bin .and .u32 (.bin .shr .u32 wS (.lit 7)) (.lit 31)))), (.int .i64 2), (.int .i64 0), (.sint .i64 (.bin .mul .i64 (.lit 8) (.wrap .i64 (gT [5, 6, 12, 2, 3, 4] 0 (.lit 0)))))]))
  | 20 => (.eq (.wrap .i64 (.bin .and .u32 (.bin .shr .u32 wS (.lit 2)) (.lit 31))) (.lit 0)
    (.eq (.wrap .i64 (.bin .and .u32 (.bin .shr .u32 wS (.lit 7)) (.lit 31))) (.lit 0)
    (.eq (.bin .and .u32 (.bin .shr .u32 wS (.lit 12)) (.lit 1)) (.lit 1)
    (.leaf (.agg [(.int .u8 66), (.int .i64 0), (.int .i64 0), (.int .i64 0), (.int .i64 0)]))
    (.leaf (.agg [(.int .u8 4), (.sint .i64 (.wrap .i64 (.bin .and .u32 (.bin .shr .u32 wS (.lit 12)) (.lit 1)))), (.sint .i64 (.wrap .i64 (.bin .and .u32 (.bin .shr .u32 wS (.lit 7)) (.lit 31)))), (.int .i64 0), (.int .i64 0)])))
    (.leaf (.agg [(.int .u8 4), (.sint .i64 (.wrap .i64 (.bin .and .u32 (.bin .shr .u32 wS (.lit 12)) (.lit 1)))), (.sint .i64 (.wrap .i64 (.bin .and .u32 (.bin .shr .u32 wS (.lit 7)) (.lit 31)))), (.int .i64 0), (.int .i64 0)])))
    (.eq (.bin .and .u32 (.bin .shr .u32 wS (.lit 12)) (.lit 1)) (.lit 0)
    (.leaf (.agg [(.int .u8 31), (.sint .i64 (.wrap .i64 (.bin .and .u32 (.bin .shr .u32 wS (.lit 7)) (.lit 31)))), (.int .i64 0), (.sint .i64 (.wrap .i64 (.bin .and .u32 (.bin .shr .u32 wS (.lit 2)) (.lit 31)))), (.int .i64 0)]))
    (.leaf (.agg [(.int .u8 31), (.sint .i64 (.wrap .i64 (.bin .and .u32 (.bin .shr .u32 wS (.lit 7)) (.lit 31)))), (.sint .i64 (.wrap .i64 (.bin .and .u32 (.bin .shr .u32 wS (.lit 7)) (.lit 31)))), (.sint .i64 (.wrap .i64 (.bin .and .u32 (.bin .shr .u32 wS (.lit 2)) (.lit 31)))), (.int .i64 0)]))))
  | 21 => (.leaf (.agg [(.int .u8 0), (.int .i64 0), (.int .i64 0), (.int .i64 0), (.int .i64 0)]))
  | 22 => (.leaf (.agg [(.int .u8 20), (.int .i64 0), (.int .i64 2), (.sint .i64 (.wrap .i64 (.bin .and .u32 (.bin .shr .u32 wS (.lit 2)) (.lit 31)))), (.sint .i64 (.bin .mul .i64 (.lit 4) (.wrap .i64 (gT [9, 10, 11, 12, 7, 8] 0 (.lit 0)))))]))
  | 23 => (.leaf (.agg [(.int .u8 21), (.int .i64 0), (.int .i64 2), (.sint .i64 (.wrap .i64 (.bin .and .u32 (.bin .shr .u32 wS (.lit 2)) (.lit 31)))), (.sint .i64 (.bin .mul .i64 (.lit 8) (.wrap .i64 (gT [10, 11, 12, 7, 8, 9] 0 (.lit 0)))))]))
  | 24 => (.leaf (.agg [(.int .u8 0), (.int .i64 0), (.int .i64 0), (.int .i64 0), (.int .i64 0)]))
  | 25 => (.leaf (.agg [(.int .u8 0), (.int .i64 0), (.int .i64 0), (.int .i64 0), (.int .i64 0)]))
  | 26 => (.leaf (.agg [(.int .u8 0), (.int .i64 0), (.int .i64 0), (.int .i64 0), (.int .i64 0)]))
  | 27 => (.leaf (.agg [(.int .u8 0), (.int .i64 0), (.int .i64 0), (.int .i64 0), (.int .i64 0)]))
  | 28 => (.leaf (.agg [(.int .u8 0), (.int .i64 0), (.int .i64 0), (.int .i64 0), (.int .i64 0)]))
  | 29 => (.leaf (.agg [(.int .u8 0), (.int .i64 0), (.int .i64 0), (.int .i64 0), (.int .i64 0)]))
  | 30 => (.leaf (.agg [(.int .u8 0), (.int .i64 0), (.int .i64 0), (.int .i64 0), (.int .i64 0)]))
  | 31 => (.leaf (.agg [(.int .u8 0), (.int .i64 0), (.int .i64 0), (.int .i64 0), (.int .i64 0)]))
  | 32 => (.eq (.bin .and .u32 (.bin .shr .u32 wS (.lit 10)) (.lit 3)) (.lit 0)
    (.leaf (.agg [(.int .u8 29), (.sint .i64 (.bin .add .i64 (.bin .and .i64 (.wrap .i64 (.bin .and .u32 (.bin .shr .u32 wS (.lit 7)) (.lit 31))) (.lit 7)) (.lit 8))), (.sint .i64 (.bin .add .i64 (.bin .and .i64 (.wrap .i64 (.bin .and .u32 (.bin .shr .u32 wS (.lit 7)) (.lit 31))) (.lit 7)) (.lit 8))), (.int .i64 0), (.sint .i64 (.wrap .i64 (gT [2, 3, 4, 5, 6, 12] 0 (.lit 0))))]))
    (.eq (.bin .and .u32 (.bin .shr .u32 wS (.lit 10)) (.lit 3)) (.lit 1)
    (.leaf (.agg [(.int .u8 30), (.sint .i64 (.bin .add .i64 (.bin .and .i64 (.wrap .i64 (.bin .and .u32 (.bin .shr .u32 wS (.lit 7)) (.lit 31))) (.lit 7)) (.lit 8))), (.sint .i64 (.bin .add .i64 (.bin .and .i64 (.wrap .i64 (.bin .and .u32 (.bin .shr .u32 wS (.lit 7)) (.lit 31))) (.lit 7)) (.lit 8))), (.int .i64 0), (.sint .i64 (.wrap .i64 (gT [2, 3, 4, 5, 6, 12] 0 (.lit 0))))]))
    (.eq (.bin .and .u32 (.bin .shr .u32 wS (.lit 10)) (.lit 3)) (.lit 2)
    (.leaf (.agg [(.int .u8 27), (.sint .i64 (.bin .add .i64 (.bin .and .i64 (.wrap .i64 (.bin .and .u32 (.bin .shr .u32 wS (.lit 7)) (.lit 31))) (.lit 7)) (.lit 8))), (.sint .i64 (.bin .add .i64 (.bin .and .i64 (.wrap .i64 (.bin .and .u32 (.bin .shr .u32 wS (.lit 7)) (.lit 31))) (.lit 7)) (.lit 8))), (.int .i64 0), (.sint .i64 (.wrap .i64 (.bin .shr .i32 (.wrap .i32 (.bin .shl .u32 (gT [2, 3, 4, 5, 6, 12] 0 (.lit 0)) (.lit 26))) (.lit 26))))]))
    (.leaf (.agg [(.int .u8 36), (.sint .i64 (.bin .add .i64 (.bin .and .i64 (.wrap .i64 (.bin .and .u32 (.bin .shr .u32 wS (.lit 7)) (.lit 31))) (.lit 7)) (.lit 8))), (.sint .i64 (.bin .add .i64 (.bin .and .i64 (.wrap .i64 (.bin .and .u32 (.bin .shr .u32 wS (.lit 7)) (.lit 31))) (.lit 7)) (.lit 8))), (.sint .i64 (.bin .add .i64 (.bin .and .i64 (.wrap .i64 (.bin .and .u32 (.bin .shr .u32 wS (.lit 2)) (.lit 31))) (.lit 7)) (.lit 8))), (.int .i64 0)])))))
  | 33 => (.eq (.bin .and .u32 (.bin .shr .u32 wS (.lit 10)) (.lit 3)) (.lit 0)
    (.leaf (.agg [(.int .u8 29), (.sint .i64 (.bin .add .i64 (.bin .and .i64 (.wrap .i64 (.bin .and .u32 (.bin .shr .u32 wS (.lit 7)) (.lit 31))) (.lit 7)) (.lit 8))), (.sint .i64 (.bin .add .i64 (.bin .and .i64 (.wrap .i64 (.bin .and .u32 (.bin .shr .u32 wS (.lit 7)) (.lit 31))) (.lit 7)) (.lit 8))), (.int .i64 0), (.sint .i64 (.wrap .i64 (gT [2, 3, 4, 5, 6, 12] 0 (.lit 0))))]))
    (.eq (.bin .and .u32 (.bin .shr .u32 wS (.lit 10)) (.lit 3)) (.lit 1)
    (.leaf (.agg [(.int .u8 30), (.sint .i64 (.bin .add .i64 (.bin .and .i64 (.wrap .i64 (.bin .and .u32 (.bin .shr .u32 wS (.lit 7)) (.lit 31))) (.lit 7)) (.lit 8))), (.sint .i64 (.bin .add .i64 (.bin .and .i64 (.wrap .i64 (.bin .and .u32 (.bin .shr .u32 wS (.lit 7)) (.lit 31))) (.lit 7)) (.lit 8))), (.int .i64 0), (.sint .i64 (.wrap .i64 (gT [2, 3, 4, 5, 6, 12] 0 (.lit 0))))]))
    (.eq (.bin .and .u32 (.bin .shr .u32 wS (.lit 10)) (.lit 3)) (.lit 2)
    (.leaf (.agg [(.int .u8 27), (.sint .i64 (.bin .add .i64 (.bin .and .i64 (.wrap .i64 (.bin .and .u32 (.bin .shr .u32 wS (.lit 7)) (.lit 31))) (.lit 7)) (.lit 8))), (.sint .i64 (.bin .add .i64 (.bin .and .i64 (.wrap .i64 (.bin .and .u32 (.bin .shr .u32 wS (.lit 7)) (.lit 31))) (.lit 7)) (.lit 8))), (.int .i64 0), (.sint .i64 (.wrap .i64 (.bin .shr .i32 (.wrap .i32 (.bin .shl .u32 (gT [2, 3, 4, 5, 6, 12] 0 (.lit 0)) (.lit 26))) (.lit 26))))]))
    (.leaf (.agg [(.int .u8 39), (.sint .i64 (.bin .add .i64 (.bin .and .i64 (.wrap .i64 (.bin .and .u32 (.bin .shr .u32 wS (.lit 7)) (.lit 31))) (.lit 7)) (.lit 8))), (.sint .i64 (.bin .add .i64 (.bin .and .i64 (.wrap .i64 (.bin .and .u32 (.bin .shr .u32 wS (.lit 7)) (.lit 31))) (.lit 7)) (.lit 8))), (.sint .i64 (.bin .add .i64 (.bin .and .i64 (.wrap .i64 (.bin .and .u32 (.bin .shr .u32 wS (.lit 2)) (.lit 31))) (.lit 7)) (.lit 8))), (.int .i64 0)])))))
  | 34 => (.eq (.bin .and .u32 (.bin .shr .u32 wS (.lit 10)) (.lit 3)) (.lit 0)
    (.leaf (.agg [(.int .u8 29), (.sint .i64 (.bin .add .i64 (.bin .and .i64 (.wrap .i64 (.bin .and .u32 (.bin .shr .u32 wS (.lit 7)) (.lit 31))) (.lit 7)) (.lit 8))), (.sint .i64 (.bin .add .i64 (.bin .and .i64 (.wrap .i64 (.bin .and .u32 (.bin .shr .u32 wS (.lit 7)) (.lit 31))) (.lit 7)) (.lit 8))), (.int .i64 0), (.sint .i64 (.wrap .i64 (gT [2, 3, 4, 5, 6, 12] 0 (.lit 0))))]))
    (.eq (.bin .and .u32 (.bin .shr .u32 wS (.lit 10)) (.lit 3)) (.lit 1)
    (.leaf (.agg [(.int .u8 30), (.sint .i64 (.bin .add .i64 (.bin .and .i64 (.wrap .i64 (.bin .and .u32 (.bin .shr .u32 wS (.lit 7)) (.lit 31))) (.lit 7)) (.lit 8))), (.sint .i64 (.bin .add .i64 (.bin .and .i64 (.wrap .i64 (.bin .and .u32 (.bin .shr .u32 wS (.lit 7)) (.lit 31))) (.lit 7)) (.lit 8))), (.int .i64 0), (.sint .i64 (.wrap .i64 (gT [2, 3, 4, 5, 6, 12] 0 (.lit 0))))]))
    (.eq (.bin .and .u32 (.bin .shr .u32 wS (.lit 10)) (.lit 3)) (.lit 2)
    (.leaf (.agg [(.int .u8 27), (.sint .i64 (.bin .add .i64 (.bin .and .i64 (.wrap .i64 (.bin .and .u32 (.bin .shr .u32 wS (.lit 7)) (.lit 31))) (.lit 7)) (.lit 8))), (.sint .i64 (.bin .add .i64 (.bin .and .i64 (.wrap .i64 (.bin .and .u32 (.bin .shr .u32 wS (.lit 7)) (.lit 31))) (.lit 7)) (.lit 8))), (.int .i64 0), (.sint .i64 (.wrap .i64 (.bin .shr .i32 (.wrap .i32 (.bin .shl .u32 (gT [2, 3, 4, 5, 6, 12] 0 (.lit 0)) (.lit 26))) (.lit 26))))]))
    (.leaf (.agg [(.int .u8 40), (.sint .i64 (.bin .add .i64 (.bin .and .i64 (.wrap .i64 (.bin .and .u32 (.bin .shr .u32 wS (.lit 7)) (.lit 31))) (.lit 7)) (.lit 8))), (.sint .i64 (.bin .add .i64 (.bin .and .i64 (.wrap .i64 (.bin .and .u32 (.bin .shr .u32 wS (.lit 7)) (.lit 31))) (.lit 7)) (.lit 8))), (.sint .i64 (.bin .add .i64 (.bin .and .i64 (.wrap .i64 (.bin .and .u32 (.bin .shr .u32 wS (.lit 2)) (.lit 31))) (.lit 7)) (.lit 8))), (.int .i64 0)])))))
  | 35 => (.eq (.bin .and .u32 (.bin .shr .u32 wS (.lit 10)) (.lit 3)) (.lit 0)
    (.leaf (.agg [(.int .u8 29), (.sint .i64 (.bin .add .i64 (.bin .and .i64 (.wrap .i64 (.bin .and .u32 (.bin .shr .u32 wS (.lit 7)) (.lit 31))) (.lit 7)) (.lit 8))), (.sint .i64 (.bin .add .i64 (.bin .and .i64 (.wrap .i64 (.bin .and .u32 (.bin .shr .u32 wS (.lit 7)) (.lit 31))) (.lit 7)) (.lit 8))), (.int .i64 0), (.sint .i64 (.wrap .i64 (gT [2, 3, 4, 5, 6, 12] 0 (.lit 0))))]))
    (.eq (.bin .and .u32 (.bin .shr .u32 wS (.lit 10)) (.lit 3)) (.lit 1)
    (.leaf (.agg [(.int .u8 30), (.sint .i64 (.bin .add .i64 (.bin .and .i64 (.wrap .i64 (.bin .and .u32 (.bin .shr .u32 wS (.lit 7)) (.lit 31))) (.lit 7)) (.lit 8))), (.sint .i64 (.bin .add .i64 (.bin .and .i64 (.wrap .i64 (.bin .and .u32 (.bin .shr .u32 wS (.lit 7)) (.lit 31))) (.lit 7)) (.lit 8))), (.int .i64 0), (.sint .i64 (.wrap .i64 (gT [2, 3, 4, 5, 6, 12] 0 (.lit 0))))]))
    (.eq (.bin .and .u32 (.bin .shr .u32 wS (.lit 10)) (.lit 3)) (.lit 2)
    (.leaf (.agg [(.int .u8 27), (.sint .i64 (.bin .add .i64 (.bin .and .i64 (.wrap .i64 (.bin .and .u32 (.bin .shr .u32 wS (.lit 7)) (.lit 31))) (.lit 7)) (.lit 8))), (.sint .i64 (.bin .add .i64 (.bin .and .i64 (.wrap .i64 (.bin .and .u32 (.bin .shr .u32 wS (.lit 7)) (.lit 31))) (.lit 7)) (.lit 8))), (.int .i64 0), (.sint .i64 (.wrap .i64 (.bin .shr .i32 (.wrap .i32 (.bin .shl .u32 (gT [2, 3, 4, 5, 6, 12] 0 (.lit 0)) (.lit 26))) (.lit 26))))]))
    (.leaf (.agg [(.int .u8 46), (.sint .i64 (.bin .add .i64 (.bin .and .i64 (.wrap .i64 (.bin .and .u32 (.bin .shr .u32 wS (.lit 7)) (.lit 31))) (.lit 7)) (.lit 8))), (.sint .i64 (.bin .add .i64 (.bin .and .i64 (.wrap .i64 (.bin .and .u32 (.bin .shr .u32 wS (.lit 7)) (.lit 31))) (.lit 7)) (.lit 8))), (.sint .i64 (.bin .add .i64 (.bin .and .i64 (.wrap .i64 (.bin .and .u32 (.bin .shr .u32 wS (.lit 2)) (.lit 31))) (.lit 7)) (.lit 8))), (.int .i64 0)])))))
  | 36 => (.eq (.bin .and .u32 (.bin .shr .u32 wS (.lit 10)) (.lit 3)) (.lit 0)
    (.leaf (.agg [(.int .u8 29), (.sint .i64 (.bin .add .i64 (.bin .and .i64 (.wrap .i64 (.bin .and .u32 (.bin .shr .u32 wS (.lit 7)) (.lit 31))) (.lit 7)) (.lit 8))), (.sint .i64 (.bin .add .i64 (.bin .and .i64 (.wrap .i64 (.bin .and .u32 (.bin .shr .u32 wS (.lit 7)) (.lit 31))) (.lit 7)) (.lit 8))), (.int .i64 0), (.sint .i64 (.wrap .i64 (gT [2, 3, 4, 5, 6, 12] 0 (.lit 0))))]))
    (.eq (.bin .and .u32 (.bin .shr .u32 wS (.lit 10)) (.lit 3)) (.lit 1)
    (.leaf (.agg [(.int .u8 30), (.sint .i64 (.bin .add .i64 (.bin .and .i64 (.wrap .i64 (.bin .and .u32 (.bin .shr .u32 wS (.lit 7)) (.lit 31))) (.lit 7)) (.lit 8))), (.sint .i64 (.bin .add .i64 (.bin .and .i64 (.wrap .i64 (.bin .and .u32 (.bin .shr .u32 wS (.lit 7)) (.lit 31))) (.lit 7)) (.lit 8))), (.int .i64 0), (.sint .i64 (.wrap .i64 (gT [2, 3, 4, 5, 6, 12] 0 (.lit 0))))]))
    (.eq (.bin .and .u32 (.bin .shr .u32 wS (.lit 10)) (.lit 3)) (.lit 2)
    (.leaf (.agg [(.int .u8 27), (.sint .i64 (.bin .add .i64 (.bin .and .i64 (.wrap .i64 (.bin .and .u32 (.bin .shr .u32 wS (.lit 7)) (.lit 31))) (.lit 7)) (.lit 8))), (.sint .i64 (.bin .add .i64 (.bin .and .i64 (.wrap .i64 (.bin .and .u32 (.bin .shr .u32 wS (.lit 7)) (.lit 31))) (.lit 7)) (.lit 8))), (.int .i64 0), (.sint .i64 (.wrap .i64 (.bin .shr .i32 (.wrap .i32 (.bin .shl .u32 (gT [2, 3, 4, 5, 6, 12] 0 (.lit 0)) (.lit 26))) (.lit 26))))]))
    (.leaf (.agg [(.int .u8 45), (.sint .i64 (.bin .add .i64 (.bin .and .i64 (.wrap .i64 (.bin .and .u32 (.bin .shr .u32 wS (.lit 7)) (.lit 31))) (.lit 7)) (.lit 8))), (.sint .i64 (.bin .add .i64 (.bin .and .i64 (.wrap .i64 (.bin .and .u32 (.bin .shr .u32 wS (.lit 7)) (.lit 31))) (.lit 7)) (.lit 8))), (.sint .i64 (.bin .add .i64 (.bin .and .i64 (.wrap .i64 (.bin .and .u32 (.bin .shr .u32 wS (.lit 2)) (.lit 31))) (.lit 7)) (.lit 8))), (.int .i64 0)])))))
  | 37 => (.eq (.bin .and .u32 (.bin .shr .u32 wS (.lit 10)) (.lit 3)) (.lit 0)
    (.leaf (.agg [(.int .u8 29), (.sint .i64 (.bin .add .i64 (.bin .and .i64 (.wrap .i64 (.bin .and .u32 (.bin .shr .u32 wS (.lit 7)) (.lit 31))) (.lit 7)) (.lit 8))), (.sint .i64 (.bin .add .i64 (.bin .and .i64 (.wrap .i64 (.bin .and .u32 (.bin .shr .u32 wS (.lit 7)) (.lit 31))) (.lit 7)) (.lit 8))), (.int .i64 0), (.sint .i64 (.wrap .i64 (gT [2, 3, 4, 5, 6, 12] 0 (.lit 0))))]))
    (.eq (.bin .and .u32 (.bin .shr .u32 wS (.lit 10)) (.lit 3)) (.lit 1)
    (.leaf (.agg [(.int .u8 30), (.sint .i64 (.bin .add .i64 (.bin .and .i64 (.wrap .i64 (.bin .and .u32 (.bin .shr .u32 wS (.lit 7)) (.lit 31))) (.lit 7)) (.lit 8))), (.sint .i64 (.bin .add .i64 (.bin .and .i64 (.wrap .i64 (.bin .and .u32 (.bin .shr .u32 wS (.lit 7)) (.lit 31))) (.lit 7)) (.lit 8))), (.int .i64 0), (.sint .i64 (.wrap .i64 (gT [2, 3, 4, 5, 6, 12] 0 (.lit 0))))]))
    (.eq (.bin .and .u32 (.bin .shr .u32 wS (.lit 10)) (.lit 3)) (.lit 2)
    (.leaf (.agg [(.int .u8 27), (.sint .i64 (.bin .add .i64 (.bin .and .i64 (.wrap .i64 (.bin .and .u32 (.bin .shr .u32 wS (.lit 7)) (.lit 31))) (.lit 7)) (.lit 8))), (.sint .i64 (.bin .add .i64 (.bin .and .i64 (.wrap .i64 (.bin .and .u32 (.bin .shr .u32 wS (.lit 7)) (.lit 31))) (.lit 7)) (.lit 8))), (.int .i64 0), (.sint .i64 (.wrap .i64 (.bin .shr .i32 (.wrap .i32 (.bin .shl .u32 (gT [2, 3, 4, 5, 6, 12] 0 (.lit 0)) (.lit 26))) (.lit 26))))]))
    (.leaf (.agg [(.int .u8 0), (.int .i64 0), (.int .i64 0), (.int .i64 0), (.int .i64 0)])))))
  | 38 => (.eq (.bin .and .u32 (.bin .shr .u32 wS (.lit 10)) (.lit 3)) (.lit 0)
    (.leaf (.agg [(.int .u8 29), (.sint .i64 (.bin .add .i64 (.bin .and .i64 (.wrap .i64 (.bin .and .u32 (.bin .shr .u32 wS (.lit 7)) (.lit 31))) (.lit 7)) (.lit 8))), (.sint .i64 (.bin .add .i64 (.bin .and .i64 (.wrap .i64 (.bin .and .u32 (.bin .shr .u32 wS (.lit 7)) (.lit 31))) (.lit 7)) (.lit 8))), (.int .i64 0), (.sint .i64 (.wrap .i64 (gT [2, 3, 4, 5, 6, 12] 0 (.lit 0))))]))
    (.eq (.bin .and .u32 (.bin .shr .u32 wS (.lit 10)) (.lit 3)) (.lit 1)
    (.leaf (.agg [(.int .u8 30), (.sint .i64 (.bin .add .i64 (.bin .and .i64 (.wrap .i64 (.bin .and .u32 (.bin .shr .u32 wS (.lit 7)) (.lit 31))) (.lit 7)) (.lit 8))), (.sint .i64 (.bin .add .i64 (.bin .and .i64 (.wrap .i64 (.bin .and .u32 (.bin .shr .u32 wS (.lit 7)) (.lit 31))) (.lit 7)) (.lit 8))), (.int .i64 0), (.sint .i64 (.wrap .i64 (gT [2, 3, 4, 5, 6, 12] 0 (.lit 0))))]))
    (.eq (.bin .and .u32 (.bin .shr .u32 wS (.lit 10)) (.lit 3)) (.lit 2)
    (.leaf (.agg [(.int .u8 27), (.sint .i64 (.bin .add .i64 (.bin .and .i64 (.wrap .i64 (.bin .and .u32 (.bin .shr .u32 wS (.lit 7)) (.lit 31))) (.lit 7)) (.lit 8))), (.sint .i64 (.bin .add .i64 (.bin .and .i64 (.wrap .i64 (.bin .and .u32 (.bin .shr .u32 wS (.lit 7)) (.lit 31))) (.lit 7)) (.lit 8))), (.int .i64 0), (.sint .i64 (.wrap .i64 (.bin .shr .i32 (.wrap .i32 (.bin .shl .u32 (gT [2, 3, 4, 5, 6, 12] 0 (.lit 0)) (.lit 26))) (.lit 26))))]))
    (.leaf (.agg [(.int .u8 0), (.int .i64 0), (.int .i64 0), (.int .i64 0), (.int .i64 0)])))))
  | _ => .bad

def whichN (h : Nat) : Nat := Nat.lor (Nat.land (h / 4096) 1 * 4) (Nat.land (h / 32) 3)
/-- A half word's class. -/
def clsN (h : Nat) : Nat := match Nat.beq (8 * (h % 4) + h / 8192) 12 with
  | true => match Nat.beq (whichN h) 0 with
    | true => 12
    | false => 31 + whichN h
  | false => 8 * (h % 4) + h / 8192
structure InsnR where
  op : Int
  d : Int
  s : Int
  t : Int
  m : Int
def fieldV (η : Nat → Int) (φ : Nat → List Int → Int) : AV → Int
  | .int _ n => n
  | .sint _ e => e.ev η φ
  | _ => 0
def insnOf (η : Nat → Int) (φ : Nat → List Int → Int) : Option AV → InsnR
  | some (.agg [o, d, s, t, m]) => ⟨fieldV η φ o, fieldV η φ d, fieldV η φ s, fieldV η φ t, fieldV η φ m⟩
  | _ => ⟨0, 0, 0, 0, 0⟩
def ηh (h : Int) : Nat → Int := fun i => [h].getD i 0
/-- What the program reads. -/
def rawR (h : Nat) : InsnR := insnOf (ηh h) (fun _ _ => 0) ((rawTr (clsN h)).at (ηh h) (fun _ _ => 0))
end Go.Proofs.YtoehlmiadiiimaaGreatDoor.Ex
