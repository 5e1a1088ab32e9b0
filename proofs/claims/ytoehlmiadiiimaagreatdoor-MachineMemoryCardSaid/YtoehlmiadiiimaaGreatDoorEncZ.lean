/-
  Half words: a tree for the law CdecSize (written by a program), and what is known class by class.
-/
import Derived.Test.YtoehlmiadiiimaaGreatDoorEncK
namespace Go.Proofs.YtoehlmiadiiimaaGreatDoor.Ex
open Go

def litJ (o d s t m : Int) : SE := .pair (.lit o) (.pair (.lit d) (.pair (.lit s) (.pair (.lit t) (.lit m))))
def signF (ps : List Nat) : SE × SE × Bool := (.bin .andNot .u32 (gT ps 0 (.lit 0)) (.lit ((2 ^ ps.length - 1 : Nat) : Int)), .lit 0, true)
def aliveF : List (SE × Int) := [(.fn 200 (litJ 22 1 1 0 5), 0x95), (.fn 201 (litJ 22 1 1 0 5), 0), (.fn 200 (litJ 31 10 0 11 0), 0x852e), (.fn 201 (litJ 31 10 0 11 0), 0), (.fn 200 (litJ 4 0 1 0 0), 0x8082), (.fn 201 (litJ 4 0 1 0 0), 0),
   (.fn 200 (litJ 13 8 9 0 4), 0x40c0), (.fn 201 (litJ 13 8 9 0 4), 0), (.fn 201 (litJ 0 0 0 0 0), 20), (.fn 200 (litJ 0 0 0 0 0), 0)]
/-- A half word's class: what is known of it. -/
def FS (n : Nat) : Fa := ⟨((.bin .and .u16 (.var 0) (.lit 3)), .lit 3, decide (24 ≤ clsOf n)) :: signedL.map signF, [], (swT, (clsOf n : Int)) :: ((if clsOf n = 12 then [(whichT, ((n - 31 : Nat) : Int))] else []) ++ aliveF)⟩
def sizeTr : Nat → Tr
  | 0 => (.eq (.fn 201 (.pair (.lit 22) (.pair (.bin .add .i64 (.bin .and .i64 (.wrap .i64 (.bin .and .u32 (.bin .shr .u32 wS (.lit 2)) (.lit 31))) (.lit 7)) (.lit 8)) (.pair (.lit 2) (.pair (.lit 0) (.bin .mul .i64 (.lit 4) (.wrap .i64 (gT [6, 5, 11, 12, 7, 8, 9, 10] 0 (.lit 0))))))))) (.lit 0)
    (.eq (.fn 200 (.pair (.lit 22) (.pair (.bin .add .i64 (.bin .and .i64 (.wrap .i64 (.bin .and .u32 (.bin .shr .u32 wS (.lit 2)) (.lit 31))) (.lit 7)) (.lit 8)) (.pair (.lit 2) (.pair (.lit 0) (.bin .mul .i64 (.lit 4) (.wrap .i64 (gT [6, 5, 11, 12, 7, 8, 9, 10] 0 (.lit 0))))))))) (.var 0)
    (.leaf (.bool true))
    (.eq (.bin .add .i64 (.bin .and .i64 (.wrap .i64 (.bin .and .u32 (.bin .shr .u32 wS (.lit 2)) (.lit 31))) (.lit 7)) (.lit 8)) (.lit 2)
    (.eq (.bin .rem .i64 (.bin .mul .i64 (.lit 4) (.wrap .i64 (gT [6, 5, 11, 12, 7, 8, 9, 10] 0 (.lit 0)))) (.lit 16)) (.lit 0)
    (.eq (.bin .mul .i64 (.lit 4) (.wrap .i64 (gT [6, 5, 11, 12, 7, 8, 9, 10] 0 (.lit 0)))) (.lit 0)
    (.leaf (.bool true))
    (.eq (.bin .shr .u16 (.var 0) (.lit 13)) (.lit 3)
    (.leaf (.bool true))
    (.leaf (.bool true))))
    (.leaf (.bool true)))
    (.leaf (.bool true))))
    (.leaf (.bool true)))
  | 1 => (.leaf (.bool true))
  | 2 => (.eq (.fn 201 (.pair (.lit 13) (.pair (.bin .add .i64 (.bin .and .i64 (.wrap .i64 (.bin .and .u32 (.bin .shr .u32 wS (.lit 2)) (.lit 31))) (.lit 7)) (.lit 8)) (.pair (.bin .add .i64 (.bin .and .i64 (.wrap .i64 (.bin .and .u32 (.bin .shr .u32 wS (.lit 7)) (.lit 31))) (.lit 7)) (.lit 8)) (.pair (.lit 0) (.bin .mul .i64 (.lit 4) (.wrap .i64 (gT [6, 10, 11, 12, 5] 0 (.lit 0))))))))) (.lit 0)
    (.eq (.fn 200 (.pair (.lit 13) (.pair (.bin .add .i64 (.bin .and .i64 (.wrap .i64 (.bin .and .u32 (.bin .shr .u32 wS (.lit 2)) (.lit 31))) (.lit 7)) (.lit 8)) (.pair (.bin .add .i64 (.bin .and .i64 (.wrap .i64 (.bin .and .u32 (.bin .shr .u32 wS (.lit 7)) (.lit 31))) (.lit 7)) (.lit 8)) (.pair (.lit 0) (.bin .mul .i64 (.lit 4) (.wrap .i64 (gT [6, 10, 11, 12, 5] 0 (.lit 0))))))))) (.var 0)
    (.leaf (.bool true))
    (.leaf (.bool true)))
    (.leaf (.bool true)))
  | 3 => (.eq (.fn 201 (.pair (.lit 14) (.pair (.bin .add .i64 (.bin .and .i64 (.wrap .i64 (.bin .and .u32 (.bin .shr .u32 wS (.lit 2)) (.lit 31))) (.lit 7)) (.lit 8)) (.pair (.bin .add .i64 (.bin .and .i64 (.wrap .i64 (.bin .and .u32 (.bin .shr .u32 wS (.lit 7)) (.lit 31))) (.lit 7)) (.lit 8)) (.pair (.lit 0) (.bin .mul .i64 (.lit 8) (.wrap .i64 (gT [10, 11, 12, 5, 6] 0 (.lit 0))))))))) (.lit 0)
    (.eq (.fn 200 (.pair (.lit 14) (.pair (.bin .add .i64 (.bin .and .i64 (.wrap .i64 (.bin .and .u32 (.bin .shr .u32 wS (.lit 2)) (.lit 31))) (.lit 7)) (.lit 8)) (.pair (.bin .add .i64 (.bin .and .i64 (.wrap .i64 (.bin .and .u32 (.bin .shr .u32 wS (.lit 7)) (.lit 31))) (.lit 7)) (.lit 8)) (.pair (.lit 0) (.bin .mul .i64 (.lit 8) (.wrap .i64 (gT [10, 11, 12, 5, 6] 0 (.lit 0))))))))) (.var 0)
    (.leaf (.bool true))
    (.leaf (.bool true)))
    (.leaf (.bool true)))
  | 4 => (.leaf (.bool true))
  | 5 => (.leaf (.bool true))
  | 6 => (.eq (.fn 201 (.pair (.lit 20) (.pair (.lit 0) (.pair (.bin .add .i64 (.bin .and .i64 (.wrap .i64 (.bin .and .u32 (.bin .shr .u32 wS (.lit 7)) (.lit 31))) (.lit 7)) (.lit 8)) (.pair (.bin .add .i64 (.bin .and .i64 (.wrap .i64 (.bin .and .u32 (.bin .shr .u32 wS (.lit 2)) (.lit 31))) (.lit 7)) (.lit 8)) (.bin .mul .i64 (.lit 4) (.wrap .i64 (gT [6, 10, 11, 12, 5] 0 (.lit 0))))))))) (.lit 0)
    (.eq (.fn 200 (.pair (.lit 20) (.pair (.lit 0) (.pair (.bin .add .i64 (.bin .and .i64 (.wrap .i64 (.bin .and .u32 (.bin .shr .u32 wS (.lit 7)) (.lit 31))) (.lit 7)) (.lit 8)) (.pair (.bin .add .i64 (.bin .and .i64 (.wrap .i64 (.bin .and .u32 (.bin .shr .u32 wS (.lit 2)) (.lit 31))) (.lit 7)) (.lit 8)) (.bin .mul .i64 (.lit 4) (.wrap .i64 (gT [6, 10, 11, 12, 5] 0 (.lit 0))))))))) (.var 0)
    (.leaf (.bool true))
    (.leaf (.bool true)))
    (.leaf (.bool true)))
  | 7 => (.eq (.fn 201 (.pair (.lit 21) (.pair (.lit 0) (.pair (.bin .add .i64 (.bin .and .i64 (.wrap .i64 (.bin .and .u32 (.bin .shr .u32 wS (.lit 7)) (.lit 31))) (.lit 7)) (.lit 8)) (.pair (.bin .add .i64 (.bin .and .i64 (.wrap .i64 (.bin .and .u32 (.bin .shr .u32 wS (.lit 2)) (.lit 31))) (.lit 7)) (.lit 8)) (.bin .mul .i64 (.lit 8) (.wrap .i64 (gT [10, 11, 12, 5, 6] 0 (.lit 0))))))))) (.lit 0)
    (.eq (.fn 200 (.pair (.lit 21) (.pair (.lit 0) (.pair (.bin .add .i64 (.bin .and .i64 (.wrap .i64 (.bin .and .u32 (.bin .shr .u32 wS (.lit 7)) (.lit 31))) (.lit 7)) (.lit 8)) (.pair (.bin .add .i64 (.bin .and .i64 (.wrap .i64 (.bin .and .u32 (.bin .shr .u32 wS (.lit 2)) (.lit 31))) (.lit 7)) (.lit 8)) (.bin .mul .i64 (.lit 8) (.wrap .i64 (gT [10, 11, 12, 5, 6] 0 (.lit 0))))))))) (.var 0)
    (.leaf (.bool true))
    (.leaf (.bool true)))
    (.leaf (.bool true)))
  | 8 => (.eq (.fn 201 (.pair (.lit 22) (.pair (.wrap .i64 (.bin .and .u32 (.bin .shr .u32 wS (.lit 7)) (.lit 31))) (.pair (.wrap .i64 (.bin .and .u32 (.bin .shr .u32 wS (.lit 7)) (.lit 31))) (.pair (.lit 0) (.wrap .i64 (.bin .shr .i32 (.wrap .i32 (.bin .shl .u32 (gT [2, 3, 4, 5, 6, 12] 0 (.lit 0)) (.lit 26))) (.lit 26)))))))) (.lit 0)
    (.eq (.fn 200 (.pair (.lit 22) (.pair (.wrap .i64 (.bin .and .u32 (.bin .shr .u32 wS (.lit 7)) (.lit 31))) (.pair (.wrap .i64 (.bin .and .u32 (.bin .shr .u32 wS (.lit 7)) (.lit 31))) (.pair (.lit 0) (.wrap .i64 (.bin .shr .i32 (.wrap .i32 (.bin .shl .u32 (gT [2, 3, 4, 5, 6, 12] 0 (.lit 0)) (.lit 26))) (.lit 26)))))))) (.var 0)
    (.leaf (.bool true))
    (.eq (.wrap .i64 (.bin .and .u32 (.bin .shr .u32 wS (.lit 7)) (.lit 31))) (.lit 2)
    (.eq (.bin .rem .i64 (.wrap .i64 (.bin .shr .i32 (.wrap .i32 (.bin .shl .u32 (gT [2, 3, 4, 5, 6, 12] 0 (.lit 0)) (.lit 26))) (.lit 26))) (.lit 16)) (.lit 0)
    (.eq (.wrap .i64 (.bin .shr .i32 (.wrap .i32 (.bin .shl .u32 (gT [2, 3, 4, 5, 6, 12] 0 (.lit 0)) (.lit 26))) (.lit 26))) (.lit 0)
    (.leaf (.bool true))
    (.eq (.bin .shr .u16 (.var 0) (.lit 13)) (.lit 3)
    (.leaf (.bool true))
    (.leaf (.bool true))))
    (.leaf (.bool true)))
    (.leaf (.bool true))))
    (.leaf (.bool true)))
  | 9 => (.eq (.fn 201 (.pair (.lit 41) (.pair (.wrap .i64 (.bin .and .u32 (.bin .shr .u32 wS (.lit 7)) (.lit 31))) (.pair (.wrap .i64 (.bin .and .u32 (.bin .shr .u32 wS (.lit 7)) (.lit 31))) (.pair (.lit 0) (.wrap .i64 (.bin .shr .i32 (.wrap .i32 (.bin .shl .u32 (gT [2, 3, 4, 5, 6, 12] 0 (.lit 0)) (.lit 26))) (.lit 26)))))))) (.lit 0)
    (.eq (.fn 200 (.pair (.lit 41) (.pair (.wrap .i64 (.bin .and .u32 (.bin .shr .u32 wS (.lit 7)) (.lit 31))) (.pair (.wrap .i64 (.bin .and .u32 (.bin .shr .u32 wS (.lit 7)) (.lit 31))) (.pair (.lit 0) (.wrap .i64 (.bin .shr .i32 (.wrap .i32 (.bin .shl .u32 (gT [2, 3, 4, 5, 6, 12] 0 (.lit 0)) (.lit 26))) (.lit 26)))))))) (.var 0)
    (.leaf (.bool true))
    (.leaf (.bool true)))
    (.leaf (.bool true)))
  | 10 => (.eq (.fn 201 (.pair (.lit 22) (.pair (.wrap .i64 (.bin .and .u32 (.bin .shr .u32 wS (.lit 7)) (.lit 31))) (.pair (.lit 0) (.pair (.lit 0) (.wrap .i64 (.bin .shr .i32 (.wrap .i32 (.bin .shl .u32 (gT [2, 3, 4, 5, 6, 12] 0 (.lit 0)) (.lit 26))) (.lit 26)))))))) (.lit 0)
    (.eq (.fn 200 (.pair (.lit 22) (.pair (.wrap .i64 (.bin .and .u32 (.bin .shr .u32 wS (.lit 7)) (.lit 31))) (.pair (.lit 0) (.pair (.lit 0) (.wrap .i64 (.bin .shr .i32 (.wrap .i32 (.bin .shl .u32 (gT [2, 3, 4, 5, 6, 12] 0 (.lit 0)) (.lit 26))) (.lit 26)))))))) (.var 0)
    (.leaf (.bool true))
    (.eq (.wrap .i64 (.bin .and .u32 (.bin .shr .u32 wS (.lit 7)) (.lit 31))) (.lit 2)
    (.leaf (.bool true))
    (.leaf (.bool true))))
    (.leaf (.bool true)))
  | 11 => (.eq (.wrap .i64 (.bin .and .u32 (.bin .shr .u32 wS (.lit 7)) (.lit 31))) (.lit 2)
    (.eq (.fn 201 (.pair (.lit 22) (.pair (.lit 2) (.pair (.lit 2) (.pair (.lit 0) (.bin .mul .i64 (.lit 16) (.wrap .i64 (.bin .shr .i32 (.wrap .i32 (.bin .shl .u32 (gT [6, 2, 5, 3, 4, 12] 0 (.lit 0)) (.lit 26))) (.lit 26))))))))) (.lit 0)
    (.eq (.fn 200 (.pair (.lit 22) (.pair (.lit 2) (.pair (.lit 2) (.pair (.lit 0) (.bin .mul .i64 (.lit 16) (.wrap .i64 (.bin .shr .i32 (.wrap .i32 (.bin .shl .u32 (gT [6, 2, 5, 3, 4, 12] 0 (.lit 0)) (.lit 26))) (.lit 26))))))))) (.var 0)
    (.leaf (.bool true))
    (.eq (.bin .rem .i64 (.bin .mul .i64 (.lit 16) (.wrap .i64 (.bin .shr .i32 (.wrap .i32 (.bin .shl .u32 (gT [6, 2, 5, 3, 4, 12] 0 (.lit 0)) (.lit 26))) (.lit 26)))) (.lit 16)) (.lit 0)
    (.eq (.bin .mul .i64 (.lit 16) (.wrap .i64 (.bin .shr .i32 (.wrap .i32 (.bin .shl .u32 (gT [6, 2, 5, 3, 4, 12] 0 (.lit 0)) (.lit 26))) (.lit 26)))) (.lit 0)
    (.leaf (.bool true))
    (.eq (.bin .shr .u16 (.var 0) (.lit 13)) (.lit 3)
    (.leaf (.bool true))
    (.leaf (.bool true))))
    (.leaf (.bool true))))
    (.leaf (.bool true)))
    (.eq (.fn 201 (.pair (.lit 1) (.pair (.wrap .i64 (.bin .and .u32 (.bin .shr .u32 wS (.lit 7)) (.lit 31))) (.pair (.lit 0) (.pair (.lit 0) (.bin .and .i64 (.wrap .i64 (.bin .shr .i32 (.wrap .i32 (.bin .shl .u32 (gT [2, 3, 4, 5, 6, 12] 0 (.lit 0)) (.lit 26))) (.lit 26))) (.lit 1048575))))))) (.lit 0)
    (.eq (.fn 200 (.pair (.lit 1) (.pair (.wrap .i64 (.bin .and .u32 (.bin .shr .u32 wS (.lit 7)) (.lit 31))) (.pair (.lit 0) (.pair (.lit 0) (.bin .and .i64 (.wrap .i64 (.bin .shr .i32 (.wrap .i32 (.bin .shl .u32 (gT [2, 3, 4, 5, 6, 12] 0 (.lit 0)) (.lit 26))) (.lit 26))) (.lit 1048575))))))) (.var 0)
    (.leaf (.bool true))
    (.leaf (.bool true)))
    (.leaf (.bool true))))
  | 12 => (.eq (.bin .and .u32 (.bin .shr .u32 wS (.lit 10)) (.lit 3)) (.lit 0)
    (.eq (.fn 201 (.pair (.lit 29) (.pair (.bin .add .i64 (.bin .and .i64 (.wrap .i64 (.bin .and .u32 (.bin .shr .u32 wS (.lit 7)) (.lit 31))) (.lit 7)) (.lit 8)) (.pair (.bin .add .i64 (.bin .and .i64 (.wrap .i64 (.bin .and .u32 (.bin .shr .u32 wS (.lit 7)) (.lit 31))) (.lit 7)) (.lit 8)) (.pair (.lit 0) (.wrap .i64 (gT [2, 3, 4, 5, 6, 12] 0 (.lit 0)))))))) (.lit 0)
    (.eq (.fn 200 (.pair (.lit 29) (.pair (.bin .add .i64 (.bin .and .i64 (.wrap .i64 (.bin .and .u32 (.bin .shr .u32 wS (.lit 7)) (.lit 31))) (.lit 7)) (.lit 8)) (.pair (.bin .add .i64 (.bin .and .i64 (.wrap .i64 (.bin .and .u32 (.bin .shr .u32 wS (.lit 7)) (.lit 31))) (.lit 7)) (.lit 8)) (.pair (.lit 0) (.wrap .i64 (gT [2, 3, 4, 5, 6, 12] 0 (.lit 0)))))))) (.var 0)
    (.leaf (.bool true))
    (.leaf (.bool true)))
    (.leaf (.bool true)))
    (.eq (.bin .and .u32 (.bin .shr .u32 wS (.lit 10)) (.lit 3)) (.lit 1)
    (.eq (.fn 201 (.pair (.lit 30) (.pair (.bin .add .i64 (.bin .and .i64 (.wrap .i64 (.bin .and .u32 (.bin .shr .u32 wS (.lit 7)) (.lit 31))) (.lit 7)) (.lit 8)) (.pair (.bin .add .i64 (.bin .and .i64 (.wrap .i64 (.bin .and .u32 (.bin .shr .u32 wS (.lit 7)) (.lit 31))) (.lit 7)) (.lit 8)) (.pair (.lit 0) (.wrap .i64 (gT [2, 3, 4, 5, 6, 12] 0 (.lit 0)))))))) (.lit 0)
    (.eq (.fn 200 (.pair (.lit 30) (.pair (.bin .add .i64 (.bin .and .i64 (.wrap .i64 (.bin .and .u32 (.bin .shr .u32 wS (.lit 7)) (.lit 31))) (.lit 7)) (.lit 8)) (.pair (.bin .add .i64 (.bin .and .i64 (.wrap .i64 (.bin .and .u32 (.bin .shr .u32 wS (.lit 7)) (.lit 31))) (.lit 7)) (.lit 8)) (.pair (.lit 0) (.wrap .i64 (gT [2, 3, 4, 5, 6, 12] 0 (.lit 0)))))))) (.var 0)
    (.leaf (.bool true))
    (.leaf (.bool true)))
    (.leaf (.bool true)))
    (.eq (.bin .and .u32 (.bin .shr .u32 wS (.lit 10)) (.lit 3)) (.lit 2)
    (.eq (.fn 201 (.pair (.lit 27) (.pair (.bin .add .i64 (.bin .and .i64 (.wrap .i64 (.bin .and .u32 (.bin .shr .u32 wS (.lit 7)) (.lit 31))) (.lit 7)) (.lit 8)) (.pair (.bin .add .i64 (.bin .and .i64 (.wrap .i64 (.bin .and .u32 (.bin .shr .u32 wS (.lit 7)) (.lit 31))) (.lit 7)) (.lit 8)) (.pair (.lit 0) (.wrap .i64 (.bin .shr .i32 (.wrap .i32 (.bin .shl .u32 (gT [2, 3, 4, 5, 6, 12] 0 (.lit 0)) (.lit 26))) (.lit 26)))))))) (.lit 0)
    (.eq (.fn 200 (.pair (.lit 27) (.pair (.bin .add .i64 (.bin .and .i64 (.wrap .i64 (.bin .and .u32 (.bin .shr .u32 wS (.lit 7)) (.lit 31))) (.lit 7)) (.lit 8)) (.pair (.bin .add .i64 (.bin .and .i64 (.wrap .i64 (.bin .and .u32 (.bin .shr .u32 wS (.lit 7)) (.lit 31))) (.lit 7)) (.lit 8)) (.pair (.lit 0) (.wrap .i64 (.bin .shr .i32 (.wrap .i32 (.bin .shl .u32 (gT [2, 3, 4, 5, 6, 12] 0 (.lit 0)) (.lit 26))) (.lit 26)))))))) (.var 0)
    (.leaf (.bool true))
    (.leaf (.bool true)))
    (.leaf (.bool true)))
    (.eq (.fn 201 (.pair (.lit 32) (.pair (.bin .add .i64 (.bin .and .i64 (.wrap .i64 (.bin .and .u32 (.bin .shr .u32 wS (.lit 7)) (.lit 31))) (.lit 7)) (.lit 8)) (.pair (.bin .add .i64 (.bin .and .i64 (.wrap .i64 (.bin .and .u32 (.bin .shr .u32 wS (.lit 7)) (.lit 31))) (.lit 7)) (.lit 8)) (.pair (.bin .add .i64 (.bin .and .i64 (.wrap .i64 (.bin .and .u32 (.bin .shr .u32 wS (.lit 2)) (.lit 31))) (.lit 7)) (.lit 8)) (.lit 0)))))) (.lit 0)
    (.eq (.fn 200 (.pair (.lit 32) (.pair (.bin .add .i64 (.bin .and .i64 (.wrap .i64 (.bin .and .u32 (.bin .shr .u32 wS (.lit 7)) (.lit 31))) (.lit 7)) (.lit 8)) (.pair (.bin .add .i64 (.bin .and .i64 (.wrap .i64 (.bin .and .u32 (.bin .shr .u32 wS (.lit 7)) (.lit 31))) (.lit 7)) (.lit 8)) (.pair (.bin .add .i64 (.bin .and .i64 (.wrap .i64 (.bin .and .u32 (.bin .shr .u32 wS (.lit 2)) (.lit 31))) (.lit 7)) (.lit 8)) (.lit 0)))))) (.var 0)
    (.leaf (.bool true))
    (.leaf (.bool true)))
    (.leaf (.bool true))))))
  | 13 => (.eq (.fn 201 (.pair (.lit 3) (.pair (.lit 0) (.pair (.lit 0) (.pair (.lit 0) (.bin .mul .i64 (.lit 2) (.wrap .i64 (.bin .shr .i32 (.wrap .i32 (.bin .shl .u32 (gT [3, 4, 5, 11, 2, 7, 6, 9, 10, 8, 12] 0 (.lit 0)) (.lit 21))) (.lit 21))))))))) (.lit 0)
    (.eq (.fn 200 (.pair (.lit 3) (.pair (.lit 0) (.pair (.lit 0) (.pair (.lit 0) (.bin .mul .i64 (.lit 2) (.wrap .i64 (.bin .shr .i32 (.wrap .i32 (.bin .shl .u32 (gT [3, 4, 5, 11, 2, 7, 6, 9, 10, 8, 12] 0 (.lit 0)) (.lit 21))) (.lit 21))))))))) (.var 0)
    (.leaf (.bool true))
    (.leaf (.bool true)))
    (.leaf (.bool true)))
  | 14 => (.eq (.bin .and .u32 (.bin .shr .u32 wS (.lit 13)) (.lit 1)) (.lit 1)
    (.eq (.fn 201 (.pair (.lit 6) (.pair (.lit 0) (.pair (.bin .add .i64 (.bin .and .i64 (.wrap .i64 (.bin .and .u32 (.bin .shr .u32 wS (.lit 7)) (.lit 31))) (.lit 7)) (.lit 8)) (.pair (.lit 0) (.bin .mul .i64 (.lit 2) (.wrap .i64 (.bin .shr .i32 (.wrap .i32 (.bin .shl .u32 (gT [3, 4, 10, 11, 2, 5, 6, 12] 0 (.lit 0)) (.lit 24))) (.lit 24))))))))) (.lit 0)
    (.eq (.fn 200 (.pair (.lit 6) (.pair (.lit 0) (.pair (.bin .add .i64 (.bin .and .i64 (.wrap .i64 (.bin .and .u32 (.bin .shr .u32 wS (.lit 7)) (.lit 31))) (.lit 7)) (.lit 8)) (.pair (.lit 0) (.bin .mul .i64 (.lit 2) (.wrap .i64 (.bin .shr .i32 (.wrap .i32 (.bin .shl .u32 (gT [3, 4, 10, 11, 2, 5, 6, 12] 0 (.lit 0)) (.lit 24))) (.lit 24))))))))) (.var 0)
    (.leaf (.bool true))
    (.leaf (.bool true)))
    (.leaf (.bool true)))
    (.eq (.fn 201 (.pair (.lit 5) (.pair (.lit 0) (.pair (.bin .add .i64 (.bin .and .i64 (.wrap .i64 (.bin .and .u32 (.bin .shr .u32 wS (.lit 7)) (.lit 31))) (.lit 7)) (.lit 8)) (.pair (.lit 0) (.bin .mul .i64 (.lit 2) (.wrap .i64 (.bin .shr .i32 (.wrap .i32 (.bin .shl .u32 (gT [3, 4, 10, 11, 2, 5, 6, 12] 0 (.lit 0)) (.lit 24))) (.lit 24))))))))) (.lit 0)
    (.eq (.fn 200 (.pair (.lit 5) (.pair (.lit 0) (.pair (.bin .add .i64 (.bin .and .i64 (.wrap .i64 (.bin .and .u32 (.bin .shr .u32 wS (.lit 7)) (.lit 31))) (.lit 7)) (.lit 8)) (.pair (.lit 0) (.bin .mul .i64 (.lit 2) (.wrap .i64 (.bin .shr .i32 (.wrap .i32 (.bin .shl .u32 (gT [3, 4, 10, 11, 2, 5, 6, 12] 0 (.lit 0)) (.lit 24))) (.lit 24))))))))) (.var 0)
    (.leaf (.bool true))
    (.leaf (.bool true)))
    (.leaf (.bool true))))
  | 15 => (.eq (.bin .and .u32 (.bin .shr .u32 wS (.lit 13)) (.lit 1)) (.lit 1)
    (.eq (.fn 201 (.pair (.lit 6) (.pair (.lit 0) (.pair (.bin .add .i64 (.bin .and .i64 (.wrap .i64 (.bin .and .u32 (.bin .shr .u32 wS (.lit 7)) (.lit 31))) (.lit 7)) (.lit 8)) (.pair (.lit 0) (.bin .mul .i64 (.lit 2) (.wrap .i64 (.bin .shr .i32 (.wrap .i32 (.bin .shl .u32 (gT [3, 4, 10, 11, 2, 5, 6, 12] 0 (.lit 0)) (.lit 24))) (.lit 24))))))))) (.lit 0)
    (.eq (.fn 200 (.pair (.lit 6) (.pair (.lit 0) (.pair (.bin .add .i64 (.bin .and .i64 (.wrap .i64 (.bin .and .u32 (.bin .shr .u32 wS (.lit 7)) (.lit 31))) (.lit 7)) (.lit 8)) (.pair (.lit 0) (.bin .mul .i64 (.lit 2) (.wrap .i64 (.bin .shr .i32 (.wrap .i32 (.bin .shl .u32 (gT [3, 4, 10, 11, 2, 5, 6, 12] 0 (.lit 0)) (.lit 24))) (.lit 24))))))))) (.var 0)
    (.leaf (.bool true))
    (.leaf (.bool true)))
    (.leaf (.bool true)))
    (.eq (.fn 201 (.pair (.lit 5) (.pair (.lit 0) (.pair (.bin .add .i64 (.bin .and .i64 (.wrap .i64 (.bin .and .u32 (.bin .shr .u32 wS (.lit 7)) (.lit 31))) (.lit 7)) (.lit 8)) (.pair (.lit 0) (.bin .mul .i64 (.lit 2) (.wrap .i64 (.bin .shr .i32 (.wrap .i32 (.bin .shl .u32 (gT [3, 4, 10, 11, 2, 5, 6, 12] 0 (.lit 0)) (.lit 24))) (.lit 24))))))))) (.lit 0)
    (.eq (.fn 200 (.pair (.lit 5) (.pair (.lit 0) (.pair (.bin .add .i64 (.bin .and .i64 (.wrap .i64 (.bin .and .u32 (.bin .shr .u32 wS (.lit 7)) (.lit 31))) (.lit 7)) (.lit 8)) (.pair (.lit 0) (.bin .mul .i64 (.lit 2) (.wrap .i64 (.bin .shr .i32 (.wrap .i32 (.bin .shl .u32 (gT [3, 4, 10, 11, 2, 5, 6, 12] 0 (.lit 0)) (.lit 24))) (.lit 24))))))))) (.var 0)
    (.leaf (.bool true))
    (.leaf (.bool true)))
    (.leaf (.bool true))))
  | 16 => (.eq (.fn 201 (.pair (.lit 28) (.pair (.wrap .i64 (.bin .and .u32 (.bin .shr .u32 wS (.lit 7)) (.lit 31))) (.pair (.wrap .i64 (.bin .and .u32 (.bin .shr .u32 wS (.lit 7)) (.lit 31))) (.pair (.lit 0) (.wrap .i64 (gT [2, 3, 4, 5, 6, 12] 0 (.lit 0)))))))) (.lit 0)
    (.eq (.fn 200 (.pair (.lit 28) (.pair (.wrap .i64 (.bin .and .u32 (.bin .shr .u32 wS (.lit 7)) (.lit 31))) (.pair (.wrap .i64 (.bin .and .u32 (.bin .shr .u32 wS (.lit 7)) (.lit 31))) (.pair (.lit 0) (.wrap .i64 (gT [2, 3, 4, 5, 6, 12] 0 (.lit 0)))))))) (.var 0)
    (.leaf (.bool true))
    (.leaf (.bool true)))
    (.leaf (.bool true)))
  | 17 => (.leaf (.bool true))
  | 18 => (.eq (.fn 201 (.pair (.lit 13) (.pair (.wrap .i64 (.bin .and .u32 (.bin .shr .u32 wS (.lit 7)) (.lit 31))) (.pair (.lit 2) (.pair (.lit 0) (.bin .mul .i64 (.lit 4) (.wrap .i64 (gT [4, 5, 6, 12, 2, 3] 0 (.lit 0))))))))) (.lit 0)
    (.eq (.fn 200 (.pair (.lit 13) (.pair (.wrap .i64 (.bin .and .u32 (.bin .shr .u32 wS (.lit 7)) (.lit 31))) (.pair (.lit 2) (.pair (.lit 0) (.bin .mul .i64 (.lit 4) (.wrap .i64 (gT [4, 5, 6, 12, 2, 3] 0 (.lit 0))))))))) (.var 0)
    (.leaf (.bool true))
    (.leaf (.bool true)))
    (.leaf (.bool true)))
  | 19 => (.eq (.fn 201 (.pair (.lit 14) (.pair (.wrap .i64 (.bin .and .u32 (.bin .shr .u32 wS (.lit 7)) (.lit 31))) (.pair (.lit 2) (.pair (.lit 0) (.bin .mul .i64 (.lit 8) (.wrap .i64 (gT [5, 6, 12, 2, 3, 4] 0 (.lit 0))))))))) (.lit 0)
    (.eq (.fn 200 (.pair (.lit 14) (.pair (.wrap .i64 (.bin .and .u32 (.bin .shr .u32 wS (.lit 7)) (.lit 31))) (.pair (.lit 2) (.pair (.lit 0) (.bin .mul .i64 (.lit 8) (.wrap .i64 (gT [5, 6, 12, 2, 3, 4] 0 (.lit 0))))))))) (.var 0)
    (.leaf (.bool true))
    (.leaf (.bool true)))
    (.leaf (.bool true)))
  | 20 => (.eq (.wrap .i64 (.bin .and .u32 (.bin .shr .u32 wS (.lit 2)) (.lit 31))) (.lit 0)
    (.eq (.wrap .i64 (.bin .and .u32 (.bin .shr .u32 wS (.lit 7)) (.lit 31))) (.lit 0)
    (.eq (.bin .and .u32 (.bin .shr .u32 wS (.lit 12)) (.lit 1)) (.lit 1)
    (.eq (.fn 201 (.pair (.lit 66) (.pair (.lit 0) (.pair (.lit 0) (.pair (.lit 0) (.lit 0)))))) (.lit 0)
    (.eq (.fn 200 (.pair (.lit 66) (.pair (.lit 0) (.pair (.lit 0) (.pair (.lit 0) (.lit 0)))))) (.var 0)
    (.leaf (.bool true))
    (.leaf (.bool true)))
    (.leaf (.bool true)))
    (.eq (.fn 201 (.pair (.lit 4) (.pair (.wrap .i64 (.bin .and .u32 (.bin .shr .u32 wS (.lit 12)) (.lit 1))) (.pair (.wrap .i64 (.bin .and .u32 (.bin .shr .u32 wS (.lit 7)) (.lit 31))) (.pair (.lit 0) (.lit 0)))))) (.lit 0)
    (.eq (.fn 200 (.pair (.lit 4) (.pair (.wrap .i64 (.bin .and .u32 (.bin .shr .u32 wS (.lit 12)) (.lit 1))) (.pair (.wrap .i64 (.bin .and .u32 (.bin .shr .u32 wS (.lit 7)) (.lit 31))) (.pair (.lit 0) (.lit 0)))))) (.var 0)
    (.leaf (.bool true))
    (.leaf (.bool true)))
    (.leaf (.bool true))))
    (.eq (.fn 201 (.pair (.lit 4) (.pair (.wrap .i64 (.bin .and .u32 (.bin .shr .u32 wS (.lit 12)) (.lit 1))) (.pair (.wrap .i64 (.bin .and .u32 (.bin .shr .u32 wS (.lit 7)) (.lit 31))) (.pair (.lit 0) (.lit 0)))))) (.lit 0)
    (.eq (.fn 200 (.pair (.lit 4) (.pair (.wrap .i64 (.bin .and .u32 (.bin .shr .u32 wS (.lit 12)) (.lit 1))) (.pair (.wrap .i64 (.bin .and .u32 (.bin .shr .u32 wS (.lit 7)) (.lit 31))) (.pair (.lit 0) (.lit 0)))))) (.var 0)
    (.leaf (.bool true))
    (.leaf (.bool true)))
    (.leaf (.bool true))))
    (.eq (.bin .and .u32 (.bin .shr .u32 wS (.lit 12)) (.lit 1)) (.lit 0)
    (.eq (.fn 201 (.pair (.lit 31) (.pair (.wrap .i64 (.bin .and .u32 (.bin .shr .u32 wS (.lit 7)) (.lit 31))) (.pair (.lit 0) (.pair (.wrap .i64 (.bin .and .u32 (.bin .shr .u32 wS (.lit 2)) (.lit 31))) (.lit 0)))))) (.lit 0)
    (.eq (.fn 200 (.pair (.lit 31) (.pair (.wrap .i64 (.bin .and .u32 (.bin .shr .u32 wS (.lit 7)) (.lit 31))) (.pair (.lit 0) (.pair (.wrap .i64 (.bin .and .u32 (.bin .shr .u32 wS (.lit 2)) (.lit 31))) (.lit 0)))))) (.var 0)
    (.leaf (.bool true))
    (.leaf (.bool true)))
    (.leaf (.bool true)))
    (.eq (.fn 201 (.pair (.lit 31) (.pair (.wrap .i64 (.bin .and .u32 (.bin .shr .u32 wS (.lit 7)) (.lit 31))) (.pair (.wrap .i64 (.bin .and .u32 (.bin .shr .u32 wS (.lit 7)) (.lit 31))) (.pair (.wrap .i64 (.bin .and .u32 (.bin .shr .u32 wS (.lit 2)) (.lit 31))) (.lit 0)))))) (.lit 0)
    (.eq (.fn 200 (.pair (.lit 31) (.pair (.wrap .i64 (.bin .and .u32 (.bin .shr .u32 wS (.lit 7)) (.lit 31))) (.pair (.wrap .i64 (.bin .and .u32 (.bin .shr .u32 wS (.lit 7)) (.lit 31))) (.pair (.wrap .i64 (.bin .and .u32 (.bin .shr .u32 wS (.lit 2)) (.lit 31))) (.lit 0)))))) (.var 0)
    (.leaf (.bool true))
    (.leaf (.bool true)))
    (.leaf (.bool true)))))
  | 21 => (.leaf (.bool true))
  | 22 => (.eq (.fn 201 (.pair (.lit 20) (.pair (.lit 0) (.pair (.lit 2) (.pair (.wrap .i64 (.bin .and .u32 (.bin .shr .u32 wS (.lit 2)) (.lit 31))) (.bin .mul .i64 (.lit 4) (.wrap .i64 (gT [9, 10, 11, 12, 7, 8] 0 (.lit 0))))))))) (.lit 0)
    (.eq (.fn 200 (.pair (.lit 20) (.pair (.lit 0) (.pair (.lit 2) (.pair (.wrap .i64 (.bin .and .u32 (.bin .shr .u32 wS (.lit 2)) (.lit 31))) (.bin .mul .i64 (.lit 4) (.wrap .i64 (gT [9, 10, 11, 12, 7, 8] 0 (.lit 0))))))))) (.var 0)
    (.leaf (.bool true))
    (.leaf (.bool true)))
    (.leaf (.bool true)))
  | 23 => (.eq (.fn 201 (.pair (.lit 21) (.pair (.lit 0) (.pair (.lit 2) (.pair (.wrap .i64 (.bin .and .u32 (.bin .shr .u32 wS (.lit 2)) (.lit 31))) (.bin .mul .i64 (.lit 8) (.wrap .i64 (gT [10, 11, 12, 7, 8, 9] 0 (.lit 0))))))))) (.lit 0)
    (.eq (.fn 200 (.pair (.lit 21) (.pair (.lit 0) (.pair (.lit 2) (.pair (.wrap .i64 (.bin .and .u32 (.bin .shr .u32 wS (.lit 2)) (.lit 31))) (.bin .mul .i64 (.lit 8) (.wrap .i64 (gT [10, 11, 12, 7, 8, 9] 0 (.lit 0))))))))) (.var 0)
    (.leaf (.bool true))
    (.leaf (.bool true)))
    (.leaf (.bool true)))
  | 24 => (.leaf (.bool true))
  | 25 => (.leaf (.bool true))
  | 26 => (.leaf (.bool true))
  | 27 => (.leaf (.bool true))
  | 28 => (.leaf (.bool true))
  | 29 => (.leaf (.bool true))
  | 30 => (.leaf (.bool true))
  | 31 => (.leaf (.bool true))
  | 32 => (.eq (.bin .and .u32 (.bin .shr .u32 wS (.lit 10)) (.lit 3)) (.lit 0)
    (.eq (.fn 201 (.pair (.lit 29) (.pair (.bin .add .i64 (.bin .and .i64 (.wrap .i64 (.bin .and .u32 (.bin .shr .u32 wS (.lit 7)) (.lit 31))) (.lit 7)) (.lit 8)) (.pair (.bin .add .i64 (.bin .and .i64 (.wrap .i64 (.bin .and .u32 (.bin .shr .u32 wS (.lit 7)) (.lit 31))) (.lit 7)) (.lit 8)) (.pair (.lit 0) (.wrap .i64 (gT [2, 3, 4, 5, 6, 12] 0 (.lit 0)))))))) (.lit 0)
    (.eq (.fn 200 (.pair (.lit 29) (.pair (.bin .add .i64 (.bin .and .i64 (.wrap .i64 (.bin .and .u32 (.bin .shr .u32 wS (.lit 7)) (.lit 31))) (.lit 7)) (.lit 8)) (.pair (.bin .add .i64 (.bin .and .i64 (.wrap .i64 (.bin .and .u32 (.bin .shr .u32 wS (.lit 7)) (.lit 31))) (.lit 7)) (.lit 8)) (.pair (.lit 0) (.wrap .i64 (gT [2, 3, 4, 5, 6, 12] 0 (.lit 0)))))))) (.var 0)
    (.leaf (.bool true))
    (.leaf (.bool true)))
    (.leaf (.bool true)))
    (.eq (.bin .and .u32 (.bin .shr .u32 wS (.lit 10)) (.lit 3)) (.lit 1)
    (.eq (.fn 201 (.pair (.lit 30) (.pair (.bin .add .i64 (.bin .and .i64 (.wrap .i64 (.bin .and .u32 (.bin .shr .u32 wS (.lit 7)) (.lit 31))) (.lit 7)) (.lit 8)) (.pair (.bin .add .i64 (.bin .and .i64 (.wrap .i64 (.bin .and .u32 (.bin .shr .u32 wS (.lit 7)) (.lit 31))) (.lit 7)) (.lit 8)) (.pair (.lit 0) (.wrap .i64 (gT [2, 3, 4, 5, 6, 12] 0 (.lit 0)))))))) (.lit 0)
    (.eq (.fn 200 (.pair (.lit 30) (.pair (.bin .add .i64 (.bin .and .i64 (.wrap .i64 (.bin .and .u32 (.bin .shr .u32 wS (.lit 7)) (.lit 31))) (.lit 7)) (.lit 8)) (.pair (.bin .add .i64 (.bin .and .i64 (.wrap .i64 (.bin .and .u32 (.bin .shr .u32 wS (.lit 7)) (.lit 31))) (.lit 7)) (.lit 8)) (.pair (.lit 0) (.wrap .i64 (gT [2, 3, 4, 5, 6, 12] 0 (.lit 0)))))))) (.var 0)
    (.leaf (.bool true))
    (.leaf (.bool true)))
    (.leaf (.bool true)))
    (.eq (.bin .and .u32 (.bin .shr .u32 wS (.lit 10)) (.lit 3)) (.lit 2)
    (.eq (.fn 201 (.pair (.lit 27) (.pair (.bin .add .i64 (.bin .and .i64 (.wrap .i64 (.bin .and .u32 (.bin .shr .u32 wS (.lit 7)) (.lit 31))) (.lit 7)) (.lit 8)) (.pair (.bin .add .i64 (.bin .and .i64 (.wrap .i64 (.bin .and .u32 (.bin .shr .u32 wS (.lit 7)) (.lit 31))) (.lit 7)) (.lit 8)) (.pair (.lit 0) (.wrap .i64 (.bin .shr .i32 (.wrap .i32 (.bin .shl .u32 (gT [2, 3, 4, 5, 6, 12] 0 (.lit 0)) (.lit 26))) (.lit 26)))))))) (.lit 0)
    (.eq (.fn 200 (.pair (.lit 27) (.pair (.bin .add .i64 (.bin .and .i64 (.wrap .i64 (.bin .and .u32 (.bin .shr .u32 wS (.lit 7)) (.lit 31))) (.lit 7)) (.lit 8)) (.pair (.bin .add .i64 (.bin .and .i64 (.wrap .i64 (.bin .and .u32 (.bin .shr .u32 wS (.lit 7)) (.lit 31))) (.lit 7)) (.lit 8)) (.pair (.lit 0) (.wrap .i64 (.bin .shr .i32 (.wrap .i32 (.bin .shl .u32 (gT [2, 3, 4, 5, 6, 12] 0 (.lit 0)) (.lit 26))) (.lit 26)))))))) (.var 0)
    (.leaf (.bool true))
    (.leaf (.bool true)))
    (.leaf (.bool true)))
    (.eq (.fn 201 (.pair (.lit 36) (.pair (.bin .add .i64 (.bin .and .i64 (.wrap .i64 (.bin .and .u32 (.bin .shr .u32 wS (.lit 7)) (.lit 31))) (.lit 7)) (.lit 8)) (.pair (.bin .add .i64 (.bin .and .i64 (.wrap .i64 (.bin .and .u32 (.bin .shr .u32 wS (.lit 7)) (.lit 31))) (.lit 7)) (.lit 8)) (.pair (.bin .add .i64 (.bin .and .i64 (.wrap .i64 (.bin .and .u32 (.bin .shr .u32 wS (.lit 2)) (.lit 31))) (.lit 7)) (.lit 8)) (.lit 0)))))) (.lit 0)
    (.eq (.fn 200 (.pair (.lit 36) (.pair (.bin .add .i64 (.bin .and .i64 (.wrap .i64 (.bin .and .u32 (.bin .shr .u32 wS (.lit 7)) (.lit 31))) (.lit 7)) (.lit 8)) (.pair (.bin .add .i64 (.bin .and .i64 (.wrap .i64 (.bin .and .u32 (.bin .shr .u32 wS (.lit 7)) (.lit 31))) (.lit 7)) (.lit 8)) (.pair (.bin .add .i64 (.bin .and .i64 (.wrap .i64 (.bin .and .u32 (.bin .shr .u32 wS (.lit 2)) (.lit 31))) (.lit 7)) (.lit 8)) (.lit 0)))))) (.var 0)
    (.leaf (.bool true))
    (.leaf (.bool true)))
    (.leaf (.bool true))))))
  | 33 => (.eq (.bin .and .u32 (.bin .shr .u32 wS (.lit 10)) (.lit 3)) (.lit 0)
    (.eq (.fn 201 (.pair (.lit 29) (.pair (.bin .add .i64 (.bin .and .i64 (.wrap .i64 (.bin .and .u32 (.bin .shr .u32 wS (.lit 7)) (.lit 31))) (.lit 7)) (.lit 8)) (.pair (.bin .add .i64 (.bin .and .i64 (.wrap .i64 (.bin .and .u32 (.bin .shr .u32 wS (.lit 7)) (.lit 31))) (.lit 7)) (.lit 8)) (.pair (.lit 0) (.wrap .i64 (gT [2, 3, 4, 5, 6, 12] 0 (.lit 0)))))))) (.lit 0)
    (.eq (.fn 200 (.pair (.lit 29) (.pair (.bin .add .i64 (.bin .and .i64 (.wrap .i64 (.bin .and .u32 (.bin .shr .u32 wS (.lit 7)) (.lit 31))) (.lit 7)) (.lit 8)) (.pair (.bin .add .i64 (.bin .and .i64 (.wrap .i64 (.bin .and .u32 (.bin .shr .u32 wS (.lit 7)) (.lit 31))) (.lit 7)) (.lit 8)) (.pair (.lit 0) (.wrap .i64 (gT [2, 3, 4, 5, 6, 12] 0 (.lit 0)))))))) (.var 0)
    (.leaf (.bool true))
    (.leaf (.bool true)))
    (.leaf (.bool true)))
    (.eq (.bin .and .u32 (.bin .shr .u32 wS (.lit 10)) (.lit 3)) (.lit 1)
    (.eq (.fn 201 (.pair (.lit 30) (.pair (.bin .add .i64 (.bin .and .i64 (.wrap .i64 (.bin .and .u32 (.bin .shr .u32 wS (.lit 7)) (.lit 31))) (.lit 7)) (.lit 8)) (.pair (.bin .add .i64 (.bin .and .i64 (.wrap .i64 (.bin .and .u32 (.bin .shr .u32 wS (.lit 7)) (.lit 31))) (.lit 7)) (.lit 8)) (.pair (.lit 0) (.wrap .i64 (gT [2, 3, 4, 5, 6, 12] 0 (.lit 0)))))))) (.lit 0)
    (.eq (.fn 200 (.pair (.lit 30) (.pair (.bin .add .i64 (.bin .and .i64 (.wrap .i64 (.bin .and .u32 (.bin .shr .u32 wS (.lit 7)) (.lit 31))) (.lit 7)) (.lit 8)) (.pair (.bin .add .i64 (.bin .and .i64 (.wrap .i64 (.bin .and .u32 (.bin .shr .u32 wS (.lit 7)) (.lit 31))) (.lit 7)) (.lit 8)) (.pair (.lit 0) (.wrap .i64 (gT [2, 3, 4, 5, 6, 12] 0 (.lit 0)))))))) (.var 0)
    (.leaf (.bool true))
    (.leaf (.bool true)))
    (.leaf (.bool true)))
    (.eq (.bin .and .u32 (.bin .shr .u32 wS (.lit 10)) (.lit 3)) (.lit 2)
    (.eq (.fn 201 (.pair (.lit 27) (.pair (.bin .add .i64 (.bin .and .i64 (.wrap .i64 (.bin .and .u32 (.bin .shr .u32 wS (.lit 7)) (.lit 31))) (.lit 7)) (.lit 8)) (.pair (.bin .add .i64 (.bin .and .i64 (.wrap .i64 (.bin .and .u32 (.bin .shr .u32 wS (.lit 7)) (.lit 31))) (.lit 7)) (.lit 8)) (.pair (.lit 0) (.wrap .i64 (.bin .shr .i32 (.wrap .i32 (.bin .shl .u32 (gT [2, 3, 4, 5, 6, 12] 0 (.lit 0)) (.lit 26))) (.lit 26)))))))) (.lit 0)
    (.eq (.fn 200 (.pair (.lit 27) (.pair (.bin .add .i64 (.bin .and .i64 (.wrap .i64 (.bin .and .u32 (.bin .shr .u32 wS (.lit 7)) (.lit 31))) (.lit 7)) (.lit 8)) (.pair (.bin .add .i64 (.bin .and .i64 (.wrap .i64 (.bin .and .u32 (.bin .shr .u32 wS (.lit 7)) (.lit 31))) (.lit 7)) (.lit 8)) (.pair (.lit 0) (.wrap .i64 (.bin .shr .i32 (.wrap .i32 (.bin .shl .u32 (gT [2, 3, 4, 5, 6, 12] 0 (.lit 0)) (.lit 26))) (.lit 26)))))))) (.var 0)
    (.leaf (.bool true))
    (.leaf (.bool true)))
    (.leaf (.bool true)))
    (.eq (.fn 201 (.pair (.lit 39) (.pair (.bin .add .i64 (.bin .and .i64 (.wrap .i64 (.bin .and .u32 (.bin .shr .u32 wS (.lit 7)) (.lit 31))) (.lit 7)) (.lit 8)) (.pair (.bin .add .i64 (.bin .and .i64 (.wrap .i64 (.bin .and .u32 (.bin .shr .u32 wS (.lit 7)) (.lit 31))) (.lit 7)) (.lit 8)) (.pair (.bin .add .i64 (.bin .and .i64 (.wrap .i64 (.bin .and .u32 (.bin .shr .u32 wS (.lit 2)) (.lit 31))) (.lit 7)) (.lit 8)) (.lit 0)))))) (.lit 0)
    (.eq (.fn 200 (.pair (.lit 39) (.pair (.bin .add .i64 (.bin .and .i64 (.wrap .i64 (.bin .and .u32 (.bin .shr .u32 wS (.lit 7)) (.lit 31))) (.lit 7)) (.lit 8)) (.pair (.bin .add .i64 (.bin .and .i64 (.wrap .i64 (.bin .and .u32 (.bin .shr .u32 wS (.lit 7)) (.lit 31))) (.lit 7)) (.lit 8)) (.pair (.bin .add .i64 (.bin .and .i64 (.wrap .i64 (.bin .and .u32 (.bin .shr .u32 wS (.lit 2)) (.lit 31))) (.lit 7)) (.lit 8)) (.lit 0)))))) (.var 0)
    (.leaf (.bool true))
    (.leaf (.bool true)))
    (.leaf (.bool true))))))
  | 34 => (.eq (.bin .and .u32 (.bin .shr .u32 wS (.lit 10)) (.lit 3)) (.lit 0)
    (.eq (.fn 201 (.pair (.lit 29) (.pair (.bin .add .i64 (.bin .and .i64 (.wrap .i64 (.bin .and .u32 (.bin .shr .u32 wS (.lit 7)) (.lit 31))) (.lit 7)) (.lit 8)) (.pair (.bin .add .i64 (.bin .and .i64 (.wrap .i64 (.bin .and .u32 (.bin .shr .u32 wS (.lit 7)) (.lit 31))) (.lit 7)) (.lit 8)) (.pair (.lit 0) (.wrap .i64 (gT [2, 3, 4, 5, 6, 12] 0 (.lit 0)))))))) (.lit 0)
    (.eq (.fn 200 (.pair (.lit 29) (.pair (.bin .add .i64 (.bin .and .i64 (.wrap .i64 (.bin .and .u32 (.bin .shr .u32 wS (.lit 7)) (.lit 31))) (.lit 7)) (.lit 8)) (.pair (.bin .add .i64 (.bin .and .i64 (.wrap .i64 (.bin .and .u32 (.bin .shr .u32 wS (.lit 7)) (.lit 31))) (.lit 7)) (.lit 8)) (.pair (.lit 0) (.wrap .i64 (gT [2, 3, 4, 5, 6, 12] 0 (.lit 0)))))))) (.var 0)
    (.leaf (.bool true))
    (.leaf (.bool true)))
    (.leaf (.bool true)))
    (.eq (.bin .and .u32 (.bin .shr .u32 wS (.lit 10)) (.lit 3)) (.lit 1)
    (.eq (.fn 201 (.pair (.lit 30) (.pair (.bin .add .i64 (.bin .and .i64 (.wrap .i64 (.bin .and .u32 (.bin .shr .u32 wS (.lit 7)) (.lit 31))) (.lit 7)) (.lit 8)) (.pair (.bin .add .i64 (.bin .and .i64 (.wrap .i64 (.bin .and .u32 (.bin .shr .u32 wS (.lit 7)) (.lit 31))) (.lit 7)) (.lit 8)) (.pair (.lit 0) (.wrap .i64 (gT [2, 3, 4, 5, 6, 12] 0 (.lit 0)))))))) (.lit 0)
    (.eq (.fn 200 (.pair (.lit 30) (.pair (.bin .add .i64 (.bin .and .i64 (.wrap .i64 (.bin .and .u32 (.bin .shr .u32 wS (.lit 7)) (.lit 31))) (.lit 7)) (.lit 8)) (.pair (.bin .add .i64 (.bin .and .i64 (.wrap .i64 (.bin .and .u32 (.bin .shr .u32 wS (.lit 7)) (.lit 31))) (.lit 7)) (.lit 8)) (.pair (.lit 0) (.wrap .i64 (gT [2, 3, 4, 5, 6, 12] 0 (.lit 0)))))))) (.var 0)
    (.leaf (.bool true))
    (.leaf (.bool true)))
    (.leaf (.bool true)))
    (.eq (.bin .and .u32 (.bin .shr .u32 wS (.lit 10)) (.lit 3)) (.lit 2)
    (.eq (.fn 201 (.pair (.lit 27) (.pair (.bin .add .i64 (.bin .and .i64 (.wrap .i64 (.bin .and .u32 (.bin .shr .u32 wS (.lit 7)) (.lit 31))) (.lit 7)) (.lit 8)) (.pair (.bin .add .i64 (.bin .and .i64 (.wrap .i64 (.bin .and .u32 (.bin .shr .u32 wS (.lit 7)) (.lit 31))) (.lit 7)) (.lit 8)) (.pair (.lit 0) (.wrap .i64 (.bin .shr .i32 (.wrap .i32 (.bin .shl .u32 (gT [2, 3, 4, 5, 6, 12] 0 (.lit 0)) (.lit 26))) (.lit 26)))))))) (.lit 0)
    (.eq (.fn 200 (.pair (.lit 27) (.pair (.bin .add .i64 (.bin .and .i64 (.wrap .i64 (.bin .and .u32 (.bin .shr .u32 wS (.lit 7)) (.lit 31))) (.lit 7)) (.lit 8)) (.pair (.bin .add .i64 (.bin .and .i64 (.wrap .i64 (.bin .and .u32 (.bin .shr .u32 wS (.lit 7)) (.lit 31))) (.lit 7)) (.lit 8)) (.pair (.lit 0) (.wrap .i64 (.bin .shr .i32 (.wrap .i32 (.bin .shl .u32 (gT [2, 3, 4, 5, 6, 12] 0 (.lit 0)) (.lit 26))) (.lit 26)))))))) (.var 0)
    (.leaf (.bool true))
    (.leaf (.bool true)))
    (.leaf (.bool true)))
    (.eq (.fn 201 (.pair (.lit 40) (.pair (.bin .add .i64 (.bin .and .i64 (.wrap .i64 (.bin .and .u32 (.bin .shr .u32 wS (.lit 7)) (.lit 31))) (.lit 7)) (.lit 8)) (.pair (.bin .add .i64 (.bin .and .i64 (.wrap .i64 (.bin .and .u32 (.bin .shr .u32 wS (.lit 7)) (.lit 31))) (.lit 7)) (.lit 8)) (.pair (.bin .add .i64 (.bin .and .i64 (.wrap .i64 (.bin .and .u32 (.bin .shr .u32 wS (.lit 2)) (.lit 31))) (.lit 7)) (.lit 8)) (.lit 0)))))) (.lit 0)
    (.eq (.fn 200 (.pair (.lit 40) (.pair (.bin .add .i64 (.bin .and .i64 (.wrap .i64 (.bin .and .u32 (.bin .shr .u32 wS (.lit 7)) (.lit 31))) (.lit 7)) (.lit 8)) (.pair (.bin .add .i64 (.bin .and .i64 (.wrap .i64 (.bin .and .u32 (.bin .shr .u32 wS (.lit 7)) (.lit 31))) (.lit 7)) (.lit 8)) (.pair (.bin .add .i64 (.bin .and .i64 (.wrap .i64 (.bin .and .u32 (.bin .shr .u32 wS (.lit 2)) (.lit 31))) (.lit 7)) (.lit 8)) (.lit 0)))))) (.var 0)
    (.leaf (.bool true))
    (.leaf (.bool true)))
    (.leaf (.bool true))))))
  | 35 => (.eq (.bin .and .u32 (.bin .shr .u32 wS (.lit 10)) (.lit 3)) (.lit 0)
    (.eq (.fn 201 (.pair (.lit 29) (.pair (.bin .add .i64 (.bin .and .i64 (.wrap .i64 (.bin .and .u32 (.bin .shr .u32 wS (.lit 7)) (.lit 31))) (.lit 7)) (.lit 8)) (.pair (.bin .add .i64 (.bin .and .i64 (.wrap .i64 (.bin .and .u32 (.bin .shr .u32 wS (.lit 7)) (.lit 31))) (.lit 7)) (.lit 8)) (.pair (.lit 0) (.wrap .i64 (gT [2, 3, 4, 5, 6, 12] 0 (.lit 0)))))))) (.lit 0)
    (.eq (.fn 200 (.pair (.lit 29) (.pair (.bin .add .i64 (.bin .and .i64 (.wrap .i64 (.bin .and .u32 (.bin .shr .u32 wS (.lit 7)) (.lit 31))) (.lit 7)) (.lit 8)) (.pair (.bin .add .i64 (.bin .and .i64 (.wrap .i64 (.bin .and .u32 (.bin .shr .u32 wS (.lit 7)) (.lit 31))) (.lit 7)) (.lit 8)) (.pair (.lit 0) (.wrap .i64 (gT [2, 3, 4, 5, 6, 12] 0 (.lit 0)))))))) (.var 0)
    (.leaf (.bool true))
    (.leaf (.bool true)))
    (.leaf (.bool true)))
    (.eq (.bin .and .u32 (.bin .shr .u32 wS (.lit 10)) (.lit 3)) (.lit 1)
    (.eq (.fn 201 (.pair (.lit 30) (.pair (.bin .add .i64 (.bin .and .i64 (.wrap .i64 (.bin .and .u32 (.bin .shr .u32 wS (.lit 7)) (.lit 31))) (.lit 7)) (.lit 8)) (.pair (.bin .add .i64 (.bin .and .i64 (.wrap .i64 (.bin .and .u32 (.bin .shr .u32 wS (.lit 7)) (.lit 31))) (.lit 7)) (.lit 8)) (.pair (.lit 0) (.wrap .i64 (gT [2, 3, 4, 5, 6, 12] 0 (.lit 0)))))))) (.lit 0)
    (.eq (.fn 200 (.pair (.lit 30) (.pair (.bin .add .i64 (.bin .and .i64 (.wrap .i64 (.bin .and .u32 (.bin .shr .u32 wS (.lit 7)) (.lit 31))) (.lit 7)) (.lit 8)) (.pair (.bin .add .i64 (.bin .and .i64 (.wrap .i64 (.bin .and .u32 (.bin .shr .u32 wS (.lit 7)) (.lit 31))) (.lit 7)) (.lit 8)) (.pair (.lit 0) (.wrap .i64 (gT [2, 3, 4, 5, 6, 12] 0 (.lit 0)))))))) (.var 0)
    (.leaf (.bool true))
    (.leaf (.bool true)))
    (.leaf (.bool true)))
    (.eq (.bin .and .u32 (.bin .shr .u32 wS (.lit 10)) (.lit 3)) (.lit 2)
    (.eq (.fn 201 (.pair (.lit 27) (.pair (.bin .add .i64 (.bin .and .i64 (.wrap .i64 (.bin .and .u32 (.bin .shr .u32 wS (.lit 7)) (.lit 31))) (.lit 7)) (.lit 8)) (.pair (.bin .add .i64 (.bin .and .i64 (.wrap .i64 (.bin .and .u32 (.bin .shr .u32 wS (.lit 7)) (.lit 31))) (.lit 7)) (.lit 8)) (.pair (.lit 0) (.wrap .i64 (.bin .shr .i32 (.wrap .i32 (.bin .shl .u32 (gT [2, 3, 4, 5, 6, 12] 0 (.lit 0)) (.lit 26))) (.lit 26)))))))) (.lit 0)
    (.eq (.fn 200 (.pair (.lit 27) (.pair (.bin .add .i64 (.bin .and .i64 (.wrap .i64 (.bin .and .u32 (.bin .shr .u32 wS (.lit 7)) (.lit 31))) (.lit 7)) (.lit 8)) (.pair (.bin .add .i64 (.bin .and .i64 (.wrap .i64 (.bin .and .u32 (.bin .shr .u32 wS (.lit 7)) (.lit 31))) (.lit 7)) (.lit 8)) (.pair (.lit 0) (.wrap .i64 (.bin .shr .i32 (.wrap .i32 (.bin .shl .u32 (gT [2, 3, 4, 5, 6, 12] 0 (.lit 0)) (.lit 26))) (.lit 26)))))))) (.var 0)
    (.leaf (.bool true))
    (.leaf (.bool true)))
    (.leaf (.bool true)))
    (.eq (.fn 201 (.pair (.lit 46) (.pair (.bin .add .i64 (.bin .and .i64 (.wrap .i64 (.bin .and .u32 (.bin .shr .u32 wS (.lit 7)) (.lit 31))) (.lit 7)) (.lit 8)) (.pair (.bin .add .i64 (.bin .and .i64 (.wrap .i64 (.bin .and .u32 (.bin .shr .u32 wS (.lit 7)) (.lit 31))) (.lit 7)) (.lit 8)) (.pair (.bin .add .i64 (.bin .and .i64 (.wrap .i64 (.bin .and .u32 (.bin .shr .u32 wS (.lit 2)) (.lit 31))) (.lit 7)) (.lit 8)) (.lit 0)))))) (.lit 0)
    (.eq (.fn 200 (.pair (.lit 46) (.pair (.bin .add .i64 (.bin .and .i64 (.wrap .i64 (.bin .and .u32 (.bin .shr .u32 wS (.lit 7)) (.lit 31))) (.lit 7)) (.lit 8)) (.pair (.bin .add .i64 (.bin .and .i64 (.wrap .i64 (.bin .and .u32 (.bin .shr .u32 wS (.lit 7)) (.lit 31))) (.lit 7)) (.lit 8)) (.pair (.bin .add .i64 (.bin .and .i64 (.wrap .i64 (.bin .and .u32 (.bin .shr .u32 wS (.lit 2)) (.lit 31))) (.lit 7)) (.lit 8)) (.lit 0)))))) (.var 0)
    (.leaf (.bool true))
    (.leaf (.bool true)))
    (.leaf (.bool true))))))
  | 36 => (.eq (.bin .and .u32 (.bin .shr .u32 wS (.lit 10)) (.lit 3)) (.lit 0)
    (.eq (.fn 201 (.pair (.lit 29) (.pair (.bin .add .i64 (.bin .and .i64 (.wrap .i64 (.bin .and .u32 (.bin .shr .u32 wS (.lit 7)) (.lit 31))) (.lit 7)) (.lit 8)) (.pair (.bin .add .i64 (.bin .and .i64 (.wrap .i64 (.bin .and .u32 (.bin .shr .u32 wS (.lit 7)) (.lit 31))) (.lit 7)) (.lit 8)) (.pair (.lit 0) (.wrap .i64 (gT [2, 3, 4, 5, 6, 12] 0 (.lit 0)))))))) (.lit 0)
    (.eq (.fn 200 (.pair (.lit 29) (.pair (.bin .add .i64 (.bin .and .i64 (.wrap .i64 (.bin .and .u32 (.bin .shr .u32 wS (.lit 7)) (.lit 31))) (.lit 7)) (.lit 8)) (.pair (.bin .add .i64 (.bin .and .i64 (.wrap .i64 (.bin .and .u32 (.bin .shr .u32 wS (.lit 7)) (.lit 31))) (.lit 7)) (.lit 8)) (.pair (.lit 0) (.wrap .i64 (gT [2, 3, 4, 5, 6, 12] 0 (.lit 0)))))))) (.var 0)
    (.leaf (.bool true))
    (.leaf (.bool true)))
    (.leaf (.bool true)))
    (.eq (.bin .and .u32 (.bin .shr .u32 wS (.lit 10)) (.lit 3)) (.lit 1)
    (.eq (.fn 201 (.pair (.lit 30) (.pair (.bin .add .i64 (.bin .and .i64 (.wrap .i64 (.bin .and .u32 (.bin .shr .u32 wS (.lit 7)) (.lit 31))) (.lit 7)) (.lit 8)) (.pair (.bin .add .i64 (.bin .and .i64 (.wrap .i64 (.bin .and .u32 (.bin .shr .u32 wS (.lit 7)) (.lit 31))) (.lit 7)) (.lit 8)) (.pair (.lit 0) (.wrap .i64 (gT [2, 3, 4, 5, 6, 12] 0 (.lit 0)))))))) (.lit 0)
    (.eq (.fn 200 (.pair (.lit 30) (.pair (.bin .add .i64 (.bin .and .i64 (.wrap .i64 (.bin .and .u32 (.bin .shr .u32 wS (.lit 7)) (.lit 31))) (.lit 7)) (.lit 8)) (.pair (.bin .add .i64 (.bin .and .i64 (.wrap .i64 (.bin .and .u32 (.bin .shr .u32 wS (.lit 7)) (.lit 31))) (.lit 7)) (.lit 8)) (.pair (.lit 0) (.wrap .i64 (gT [2, 3, 4, 5, 6, 12] 0 (.lit 0)))))))) (.var 0)
    (.leaf (.bool true))
    (.leaf (.bool true)))
    (.leaf (.bool true)))
    (.eq (.bin .and .u32 (.bin .shr .u32 wS (.lit 10)) (.lit 3)) (.lit 2)
    (.eq (.fn 201 (.pair (.lit 27) (.pair (.bin .add .i64 (.bin .and .i64 (.wrap .i64 (.bin .and .u32 (.bin .shr .u32 wS (.lit 7)) (.lit 31))) (.lit 7)) (.lit 8)) (.pair (.bin .add .i64 (.bin .and .i64 (.wrap .i64 (.bin .and .u32 (.bin .shr .u32 wS (.lit 7)) (.lit 31))) (.lit 7)) (.lit 8)) (.pair (.lit 0) (.wrap .i64 (.bin .shr .i32 (.wrap .i32 (.bin .shl .u32 (gT [2, 3, 4, 5, 6, 12] 0 (.lit 0)) (.lit 26))) (.lit 26)))))))) (.lit 0)
    (.eq (.fn 200 (.pair (.lit 27) (.pair (.bin .add .i64 (.bin .and .i64 (.wrap .i64 (.bin .and .u32 (.bin .shr .u32 wS (.lit 7)) (.lit 31))) (.lit 7)) (.lit 8)) (.pair (.bin .add .i64 (.bin .and .i64 (.wrap .i64 (.bin .and .u32 (.bin .shr .u32 wS (.lit 7)) (.lit 31))) (.lit 7)) (.lit 8)) (.pair (.lit 0) (.wrap .i64 (.bin .shr .i32 (.wrap .i32 (.bin .shl .u32 (gT [2, 3, 4, 5, 6, 12] 0 (.lit 0)) (.lit 26))) (.lit 26)))))))) (.var 0)
    (.leaf (.bool true))
    (.leaf (.bool true)))
    (.leaf (.bool true)))
    (.eq (.fn 201 (.pair (.lit 45) (.pair (.bin .add .i64 (.bin .and .i64 (.wrap .i64 (.bin .and .u32 (.bin .shr .u32 wS (.lit 7)) (.lit 31))) (.lit 7)) (.lit 8)) (.pair (.bin .add .i64 (.bin .and .i64 (.wrap .i64 (.bin .and .u32 (.bin .shr .u32 wS (.lit 7)) (.lit 31))) (.lit 7)) (.lit 8)) (.pair (.bin .add .i64 (.bin .and .i64 (.wrap .i64 (.bin .and .u32 (.bin .shr .u32 wS (.lit 2)) (.lit 31))) (.lit 7)) (.lit 8)) (.lit 0)))))) (.lit 0)
    (.eq (.fn 200 (.pair (.lit 45) (.pair (.bin .add .i64 (.bin .and .i64 (.wrap .i64 (.bin .and .u32 (.bin .shr .u32 wS (.lit 7)) (.lit 31))) (.lit 7)) (.lit 8)) (.pair (.bin .add .i64 (.bin .and .i64 (.wrap .i64 (.bin .and .u32 (.bin .shr .u32 wS (.lit 7)) (.lit 31))) (.lit 7)) (.lit 8)) (.pair (.bin .add .i64 (.bin .and .i64 (.wrap .i64 (.bin .and .u32 (.bin .shr .u32 wS (.lit 2)) (.lit 31))) (.lit 7)) (.lit 8)) (.lit 0)))))) (.var 0)
    (.leaf (.bool true))
    (.leaf (.bool true)))
    (.leaf (.bool true))))))
  | 37 => (.eq (.bin .and .u32 (.bin .shr .u32 wS (.lit 10)) (.lit 3)) (.lit 0)
    (.eq (.fn 201 (.pair (.lit 29) (.pair (.bin .add .i64 (.bin .and .i64 (.wrap .i64 (.bin .and .u32 (.bin .shr .u32 wS (.lit 7)) (.lit 31))) (.lit 7)) (.lit 8)) (.pair (.bin .add .i64 (.bin .and .i64 (.wrap .i64 (.bin .and .u32 (.bin .shr .u32 wS (.lit 7)) (.lit 31))) (.lit 7)) (.lit 8)) (.pair (.lit 0) (.wrap .i64 (gT [2, 3, 4, 5, 6, 12] 0 (.lit 0)))))))) (.lit 0)
    (.eq (.fn 200 (.pair (.lit 29) (.pair (.bin .add .i64 (.bin .and .i64 (.wrap .i64 (.bin .and .u32 (.bin .shr .u32 wS (.lit 7)) (.lit 31))) (.lit 7)) (.lit 8)) (.pair (.bin .add .i64 (.bin .and .i64 (.wrap .i64 (.bin .and .u32 (.bin .shr .u32 wS (.lit 7)) (.lit 31))) (.lit 7)) (.lit 8)) (.pair (.lit 0) (.wrap .i64 (gT [2, 3, 4, 5, 6, 12] 0 (.lit 0)))))))) (.var 0)
    (.leaf (.bool true))
    (.leaf (.bool true)))
    (.leaf (.bool true)))
    (.eq (.bin .and .u32 (.bin .shr .u32 wS (.lit 10)) (.lit 3)) (.lit 1)
    (.eq (.fn 201 (.pair (.lit 30) (.pair (.bin .add .i64 (.bin .and .i64 (.wrap .i64 (.bin .and .u32 (.bin .shr .u32 wS (.lit 7)) (.lit 31))) (.lit 7)) (.lit 8)) (.pair (.bin .add .i64 (.bin .and .i64 (.wrap .i64 (.bin .and .u32 (.bin .shr .u32 wS (.lit 7)) (.lit 31))) (.lit 7)) (.lit 8)) (.pair (.lit 0) (.wrap .i64 (gT [2, 3, 4, 5, 6, 12] 0 (.lit 0)))))))) (.lit 0)
    (.eq (.fn 200 (.pair (.lit 30) (.pair (.bin .add .i64 (.bin .and .i64 (.wrap .i64 (.bin .and .u32 (.bin .shr .u32 wS (.lit 7)) (.lit 31))) (.lit 7)) (.lit 8)) (.pair (.bin .add .i64 (.bin .and .i64 (.wrap .i64 (.bin .and .u32 (.bin .shr .u32 wS (.lit 7)) (.lit 31))) (.lit 7)) (.lit 8)) (.pair (.lit 0) (.wrap .i64 (gT [2, 3, 4, 5, 6, 12] 0 (.lit 0)))))))) (.var 0)
    (.leaf (.bool true))
    (.leaf (.bool true)))
    (.leaf (.bool true)))
    (.eq (.bin .and .u32 (.bin .shr .u32 wS (.lit 10)) (.lit 3)) (.lit 2)
    (.eq (.fn 201 (.pair (.lit 27) (.pair (.bin .add .i64 (.bin .and .i64 (.wrap .i64 (.bin .and .u32 (.bin .shr .u32 wS (.lit 7)) (.lit 31))) (.lit 7)) (.lit 8)) (.pair (.bin .add .i64 (.bin .and .i64 (.wrap .i64 (.bin .and .u32 (.bin .shr .u32 wS (.lit 7)) (.lit 31))) (.lit 7)) (.lit 8)) (.pair (.lit 0) (.wrap .i64 (.bin .shr .i32 (.wrap .i32 (.bin .shl .u32 (gT [2, 3, 4, 5, 6, 12] 0 (.lit 0)) (.lit 26))) (.lit 26)))))))) (.lit 0)
    (.eq (.fn 200 (.pair (.lit 27) (.pair (.bin .add .i64 (.bin .and .i64 (.wrap .i64 (.bin .and .u32 (.bin .shr .u32 wS (.lit 7)) (.lit 31))) (.lit 7)) (.lit 8)) (.pair (.bin .add .i64 (.bin .and .i64 (.wrap .i64 (.bin .and .u32 (.bin .shr .u32 wS (.lit 7)) (.lit 31))) (.lit 7)) (.lit 8)) (.pair (.lit 0) (.wrap .i64 (.bin .shr .i32 (.wrap .i32 (.bin .shl .u32 (gT [2, 3, 4, 5, 6, 12] 0 (.lit 0)) (.lit 26))) (.lit 26)))))))) (.var 0)
    (.leaf (.bool true))
    (.leaf (.bool true)))
    (.leaf (.bool true)))
    (.leaf (.bool true)))))
  | 38 => (.eq (.bin .and .u32 (.bin .shr .u32 wS (.lit 10)) (.lit 3)) (.lit 0)
    (.eq (.fn 201 (.pair (.lit 29) (.pair (.bin .add .i64 (.bin .and .i64 (.wrap .i64 (.bin .and .u32 (.bin .shr .u32 wS (.lit 7)) (.lit 31))) (.lit 7)) (.lit 8)) (.pair (.bin .add .i64 (.bin .and .i64 (.wrap .i64 (.bin .and .u32 (.bin .shr .u32 wS (.lit 7)) (.lit 31))) (.lit 7)) (.lit 8)) (.pair (.lit 0) (.wrap .i64 (gT [2, 3, 4, 5, 6, 12] 0 (.lit 0)))))))) (.lit 0)
    (.eq (.fn 200 (.pair (.lit 29) (.pair (.bin .add .i64 (.bin .and .i64 (.wrap .i64 (.bin .and .u32 (.bin .shr .u32 wS (.lit 7)) (.lit 31))) (.lit 7)) (.lit 8)) (.pair (.bin .add .i64 (.bin .and .i64 (.wrap .i64 (.bin .and .u32 (.bin .shr .u32 wS (.lit 7)) (.lit 31))) (.lit 7)) (.lit 8)) (.pair (.lit 0) (.wrap .i64 (gT [2, 3, 4, 5, 6, 12] 0 (.lit 0)))))))) (.var 0)
    (.leaf (.bool true))
    (.leaf (.bool true)))
    (.leaf (.bool true)))
    (.eq (.bin .and .u32 (.bin .shr .u32 wS (.lit 10)) (.lit 3)) (.lit 1)
    (.eq (.fn 201 (.pair (.lit 30) (.pair (.bin .add .i64 (.bin .and .i64 (.wrap .i64 (.bin .and .u32 (.bin .shr .u32 wS (.lit 7)) (.lit 31))) (.lit 7)) (.lit 8)) (.pair (.bin .add .i64 (.bin .and .i64 (.wrap .i64 (.bin .and .u32 (.bin .shr .u32 wS (.lit 7)) (.lit 31))) (.lit 7)) (.lit 8)) (.pair (.lit 0) (.wrap .i64 (gT [2, 3, 4, 5, 6, 12] 0 (.lit 0)))))))) (.lit 0)
    (.eq (.fn 200 (.pair (.lit 30) (.pair (.bin .add .i64 (.bin .and .i64 (.wrap .i64 (.bin .and .u32 (.bin .shr .u32 wS (.lit 7)) (.lit 31))) (.lit 7)) (.lit 8)) (.pair (.bin .add .i64 (.bin .and .i64 (.wrap .i64 (.bin .and .u32 (.bin .shr .u32 wS (.lit 7)) (.lit 31))) (.lit 7)) (.lit 8)) (.pair (.lit 0) (.wrap .i64 (gT [2, 3, 4, 5, 6, 12] 0 (.lit 0)))))))) (.var 0)
    (.leaf (.bool true))
    (.leaf (.bool true)))
    (.leaf (.bool true)))
    (.eq (.bin .and .u32 (.bin .shr .u32 wS (.lit 10)) (.lit 3)) (.lit 2)
    (.eq (.fn 201 (.pair (.lit 27) (.pair (.bin .add .i64 (.bin .and .i64 (.wrap .i64 (.bin .and .u32 (.bin .shr .u32 wS (.lit 7)) (.lit 31))) (.lit 7)) (.lit 8)) (.pair (.bin .add .i64 (.bin .and .i64 (.wrap .i64 (.bin .and .u32 (.bin .shr .u32 wS (.lit 7)) (.lit 31))) (.lit 7)) (.lit 8)) (.pair (.lit 0) (.wrap .i64 (.bin .shr .i32 (.wrap .i32 (.bin .shl .u32 (gT [2, 3, 4, 5, 6, 12] 0 (.lit 0)) (.lit 26))) (.lit 26)))))))) (.lit 0)
    (.eq (.fn 200 (.pair (.lit 27) (.pair (.bin .add .i64 (.bin .and .i64 (.wrap .i64 (.bin .and .u32 (.bin .shr .u32 wS (.lit 7)) (.lit 31))) (.lit 7)) (.lit 8)) (.pair (.bin .add .i64 (.bin .and .i64 (.wrap .i64 (.bin .and .u32 (.bin .shr .u32 wS (.lit 7)) (.lit 31))) (.lit 7)) (.lit 8)) (.pair (.lit 0) (.wrap .i64 (.bin .shr .i32 (.wrap .i32 (.bin .shl .u32 (gT [2, 3, 4, 5, 6, 12] 0 (.lit 0)) (.lit 26))) (.lit 26)))))))) (.var 0)
    (.leaf (.bool true))
    (.leaf (.bool true)))
    (.leaf (.bool true)))
    (.leaf (.bool true)))))
  | _ => .bad

def isTrueL : AV → Bool
  | .bool true => true
  | _ => false
theorem sizeTr_at (n : Nat) (hn : n < 39) (η : Nat → Int) (φ : Nat → List Int → Int) : (sizeTr n).at η φ = some (.bool true) := by
  have h : ((List.range 39).all fun n => (sizeTr n).all isTrueL) = true := by kernel_rfl
  obtain ⟨v, hv, hk⟩ := Tr.all_at (η := η) (φ := φ) (List.all_eq_true.1 h n (List.mem_range.2 hn))
  rw [hv]
  unfold isTrueL at hk
  split at hk
  · rfl
  · cases hk

section defs
variable [Dec]
def orcCheck2 (args : List AV) (H : AHeap) : Option (AV × AHeap) :=
  match args with
  | [i] => (insn? i).bind fun e => match Dec.eqs (.fn 201 e) (.lit 0) with
    | some true => some (.int .i64 0, H)
    | _ => none
  | _ => none
end defs
section
variable [Dec] [Env]
theorem orcCheck2_ok {P : Program} {gl : Nat} {f : FuncId} (hφ : Env.φ = φ0) (hc : CheckC P f) : CallOK P gl (only f orcCheck2) := by
  refine callOK_only fun args H v H' h => ?_
  unfold orcCheck2 at h
  split at h
  · rename_i i
    rw [Option.bind_eq_some_iff] at h
    obtain ⟨e, he, h⟩ := h
    split at h
    · rename_i h0
      simp only [Option.some.injEq, Prod.mk.injEq] at h
      obtain ⟨rfl, rfl⟩ := h
      refine ⟨rfl, fun ρ w args' hI hv => ?_⟩
      cases hv with
      | cons _ vo _ _ h1 hv =>
        cases hv
        obtain ⟨o, d, s, t, m, hr8, rfl, q⟩ := insn?_rel he h1
        have h0 := look_eq h0
        rw [sev_fn, q, hφ] at h0
        have h0 : encE o d s t m = 0 := beq_iff_eq.1 h0
        have hmay : mayI o d s t m = true := by
          unfold encE at h0
          cases hm : mayI o d s t m with
          | true => rfl
          | false => rw [hm] at h0; cases h0
        have hc' := hc o d s t m hr8 w
        rw [hmay] at hc'
        exact ⟨_, .int _ _, hc'⟩
    · cases h
  · cases h
end
def orcD (half check : FuncId) (F : Fa) : ACall := orElse (only half (@orcEnc F.dec)) (only check (@orcCheck2 F.dec))
theorem orcD_OK {P : Program} {half check : FuncId} (h1 : EncC P half) (h2 : CheckC P check) : OrcOK P 2 φ0 (orcD half check) :=
  fun F _ h => @callOK_or F.dec h.env P 2 _ _ (@orcEnc_ok F.dec h.env P 2 half rfl h1) (@orcCheck2_ok F.dec h.env P 2 check rfl h2)

/- numbers -/
theorem and_nat (k : IntKind) (a b : Nat) (ha : a ≤ kmax k) (hb : b ≤ kmax k) : ibin .and k (a : Int) (b : Int) = ((Nat.land a b : Nat) : Int) := by
  have e : ibin .and k (a : Int) (b : Int) = k.wrap (BitVec.ofInt k.bits (a : Int) &&& BitVec.ofInt k.bits (b : Int)).toNat := by
    unfold ibin abin; simp only; rw [if_neg (by simp)]
  rw [e, BitVec.toNat_and, ofInt_nat k a ha, ofInt_nat k b hb]
  exact wrap_self k _ (Nat.le_trans Nat.and_le_left ha)
theorem or_nat (k : IntKind) (a b : Nat) (ha : a ≤ kmax k) (hb : b ≤ kmax k) : ibin .or k (a : Int) (b : Int) = ((Nat.lor a b : Nat) : Int) := by
  have e : ibin .or k (a : Int) (b : Int) = k.wrap (BitVec.ofInt k.bits (a : Int) ||| BitVec.ofInt k.bits (b : Int)).toNat := by
    unfold ibin abin; simp only; rw [if_neg (by simp)]
  rw [e, BitVec.toNat_or, ofInt_nat k a ha, ofInt_nat k b hb]
  obtain ⟨n, hn⟩ := kmax_pow k
  have := Nat.or_lt_two_pow (x := a) (y := b) (n := n) (by have := Nat.two_pow_pos n; omega) (by have := Nat.two_pow_pos n; omega)
  exact wrap_self k _ (by omega)
theorem shr_nat (a p : Nat) (hp : p ≤ 32) : ibin .shr .u32 (a : Int) (p : Int) = ((a / 2 ^ p : Nat) : Int) := by
  have e : ibin .shr .u32 (a : Int) (p : Int) = (a : Int).fdiv (2 ^ (min p 32)) := by
    unfold ibin abin; simp only; rw [if_neg (by omega)]; rfl
  rw [e, Nat.min_eq_left hp]
  have e : ((2 : Int) ^ p) = ((2 ^ p : Nat) : Int) := by rw [Int.natCast_pow]; rfl
  rw [e, Int.fdiv_eq_ediv_of_nonneg _ (Int.natCast_nonneg _)]
  rfl
theorem shl_nat (a p : Nat) (hp : p ≤ 32) (h : a * 2 ^ p ≤ kmax .u32) : ibin .shl .u32 (a : Int) (p : Int) = ((a * 2 ^ p : Nat) : Int) := by
  have e : ibin .shl .u32 (a : Int) (p : Int) = IntKind.u32.wrap ((a : Int) * 2 ^ (min p 32)) := by
    unfold ibin abin; simp only; rw [if_neg (by omega)]; rfl
  rw [e, Nat.min_eq_left hp]
  have e : ((a : Int) * (2 : Int) ^ p) = ((a * 2 ^ p : Nat) : Int) := by rw [Int.natCast_mul, Int.natCast_pow]; rfl
  rw [e]
  exact wrap_self _ _ h
theorem wS_ev (h : Nat) (hh : h < 65536) (φ : Nat → List Int → Int) : wS.ev (ηl [(h : Int)]) φ = (h : Int) := wrap_self .u32 h (by show h ≤ 4294967295; omega)
theorem bit_ev (h : Nat) (hh : h < 65536) (φ : Nat → List Int → Int) (p : Nat) (hp : p ≤ 32) : ∃ b : Nat, b ≤ 1 ∧ (SE.bin .and .u32 (.bin .shr .u32 wS (.lit (p : Nat))) (.lit 1)).ev (ηl [(h : Int)]) φ = (b : Int) := by
  rw [ev_bin, ev_bin, wS_ev h hh, ev_lit, ev_lit, shr_nat h p hp]
  have hk : kmax .u32 = 4294967295 := rfl
  have h1 : h / 2 ^ p ≤ kmax .u32 := Nat.le_trans (Nat.div_le_self _ _) (by omega)
  exact ⟨Nat.land (h / 2 ^ p) 1, Nat.and_le_right, and_nat .u32 _ 1 h1 (by decide)⟩
theorem gT_ev (h : Nat) (hh : h < 65536) (φ : Nat → List Int → Int) : ∀ (ps : List Nat) (i : Nat) (acc : SE) (a : Nat), (∀ p ∈ ps, p ≤ 32) → i + ps.length ≤ 20 → acc.ev (ηl [(h : Int)]) φ = (a : Int) → a < 2 ^ i → ∃ v : Nat, (gT ps i acc).ev (ηl [(h : Int)]) φ = (v : Int) ∧ v < 2 ^ (i + ps.length)
  | [], i, acc, a, _, _, ha, hb => ⟨a, ha, hb⟩
  | p :: ps, i, acc, a, hp, hl, ha, hb => by
    have hk : kmax .u32 = 4294967295 := rfl
    simp only [List.length_cons] at hl ⊢
    have h20 : 2 ^ (i + 1) ≤ 2 ^ 20 := Nat.pow_le_pow_right (by omega) (by omega)
    have hpow : 2 ^ (i + 1) = 2 ^ i * 2 := Nat.pow_succ 2 i
    obtain ⟨b, hb1, hbe⟩ := bit_ev h hh φ p (hp p List.mem_cons_self)
    have hbi : b * 2 ^ i ≤ 2 ^ i := by
      have := Nat.mul_le_mul_right (2 ^ i) hb1
      omega
    have e1 : (SE.bin .shl .u32 (.bin .and .u32 (.bin .shr .u32 wS (.lit (p : Nat))) (.lit 1)) (.lit (i : Nat))).ev (ηl [(h : Int)]) φ = ((b * 2 ^ i : Nat) : Int) := by
      rw [ev_bin, hbe, ev_lit, shl_nat b i (by omega) (by omega)]
    have e2 : (SE.bin .or .u32 acc (.bin .shl .u32 (.bin .and .u32 (.bin .shr .u32 wS (.lit (p : Nat))) (.lit 1)) (.lit (i : Nat)))).ev (ηl [(h : Int)]) φ = ((Nat.lor a (b * 2 ^ i) : Nat) : Int) := by
      rw [ev_bin, e1, ha, or_nat .u32 _ _ (by omega) (by omega)]
    obtain ⟨v, hv, hlt⟩ := gT_ev h hh φ ps (i + 1) _ _ (fun q hq => hp q (List.mem_cons_of_mem _ hq)) (by omega) e2 (Nat.or_lt_two_pow (by omega) (by have := Nat.two_pow_pos i; omega))
    exact ⟨v, hv, by rw [show i + (ps.length + 1) = i + 1 + ps.length by omega]; exact hlt⟩
theorem sw_ev (h : Nat) (hh : h < 65536) (φ : Nat → List Int → Int) : swT.ev (ηl [(h : Int)]) φ = ((8 * (h % 4) + h / 8192 : Nat) : Int) := by
  have hk : kmax .u32 = 4294967295 := rfl
  have tab : ((List.range 4).all fun a => (List.range 8).all fun b => Nat.beq (Nat.lor (a * 2 ^ 3) b) (8 * a + b)) = true := by decide
  have h4 : Nat.land h 3 = h % 4 := Nat.and_two_pow_sub_one_eq_mod h 2
  unfold swT
  rw [ev_bin, ev_bin, ev_bin, ev_bin, wS_ev h hh, ev_lit, ev_lit, show (3 : Int) = ((3 : Nat) : Int) from rfl, show (13 : Int) = ((13 : Nat) : Int) from rfl, and_nat .u32 h 3 (by omega) (by omega), h4, shl_nat _ 3 (by omega) (by omega), shr_nat h 13 (by omega),
    or_nat .u32 _ _ (by omega) (by omega)]
  have := Nat.eq_of_beq_eq_true (List.all_eq_true.1 (List.all_eq_true.1 tab (h % 4) (List.mem_range.2 (by omega))) (h / 8192) (List.mem_range.2 (by omega)))
  rw [show h / 2 ^ 13 = h / 8192 from rfl, this]
theorem which_ev (h : Nat) (hh : h < 65536) (φ : Nat → List Int → Int) : ∃ k : Nat, k < 8 ∧ whichT.ev (ηl [(h : Int)]) φ = (k : Int) := by
  have hk : kmax .u32 = 4294967295 := rfl
  obtain ⟨b, hb, hbe⟩ := bit_ev h hh φ 12 (by omega)
  have hbe' : (SE.bin .and .u32 (.bin .shr .u32 wS (.lit 12)) (.lit 1)).ev (ηl [(h : Int)]) φ = (b : Int) := hbe
  have e2 : (SE.bin .and .u32 (.bin .shr .u32 wS (.lit 5)) (.lit 3)).ev (ηl [(h : Int)]) φ = ((Nat.land (h / 2 ^ 5) 3 : Nat) : Int) := by
    rw [ev_bin, ev_bin, wS_ev h hh, ev_lit, ev_lit, show (5 : Int) = ((5 : Nat) : Int) from rfl, show (3 : Int) = ((3 : Nat) : Int) from rfl, shr_nat h 5 (by omega)]
    exact and_nat .u32 _ 3 (Nat.le_trans (Nat.div_le_self _ _) (by omega)) (by omega)
  have h3 : Nat.land (h / 2 ^ 5) 3 ≤ 3 := Nat.and_le_right
  unfold whichT
  rw [ev_bin, ev_bin, hbe', e2, ev_lit, show (2 : Int) = ((2 : Nat) : Int) from rfl, shl_nat b 2 (by omega) (by omega), or_nat .u32 _ _ (by omega) (by omega)]
  exact ⟨_, Nat.or_lt_two_pow (n := 3) (by omega) (by omega), rfl⟩
theorem w1 : encV 22 1 1 0 5 = 0x95 := by kernel_rfl
theorem w2 : encE 22 1 1 0 5 = 0 := by kernel_rfl
theorem w3 : encV 31 10 0 11 0 = 0x852e := by kernel_rfl
theorem w4 : encE 31 10 0 11 0 = 0 := by kernel_rfl
theorem w5 : encV 4 0 1 0 0 = 0x8082 := by kernel_rfl
theorem w6 : encE 4 0 1 0 0 = 0 := by kernel_rfl
theorem w7 : encV 13 8 9 0 4 = 0x40c0 := by kernel_rfl
theorem w8 : encE 13 8 9 0 4 = 0 := by kernel_rfl
theorem w9 : encE 0 0 0 0 0 = 20 := by kernel_rfl
theorem w0 : encV 0 0 0 0 0 = 0 := by kernel_rfl
theorem alive_on (η : Nat → Int) : ∀ x ∈ aliveF, x.1.ev η φ0 = x.2 := by
  intro x hx
  simp only [aliveF, List.mem_cons, List.not_mem_nil, or_false] at hx
  rcases hx with rfl | rfl | rfl | rfl | rfl | rfl | rfl | rfl | rfl | rfl
  · exact w1
  · exact w2
  · exact w3
  · exact w4
  · exact w5
  · exact w6
  · exact w7
  · exact w8
  · exact w9
  · exact w0
/-- Each half word has a class. -/
theorem FS_on (h : Nat) (hh : h < 65536) : ∃ n, n < 39 ∧ (FS n).On (ηl [(h : Int)]) φ0 := by
  obtain ⟨k, hk, hke⟩ := which_ev h hh φ0
  obtain ⟨n, hn, hc, hw⟩ : ∃ n, n < 39 ∧ clsOf n = 8 * (h % 4) + h / 8192 ∧ (clsOf n = 12 → n - 31 = k) := by
    by_cases h12 : 8 * (h % 4) + h / 8192 = 12
    · by_cases hk0 : k = 0
      · exact ⟨12, by omega, by rw [h12]; rfl, fun _ => by omega⟩
      · exact ⟨31 + k, by omega, by unfold clsOf; rw [if_neg (by omega)]; omega, fun _ => by omega⟩
    · exact ⟨8 * (h % 4) + h / 8192, by omega, by unfold clsOf; rw [if_pos (by omega)], fun e => by unfold clsOf at e; rw [if_pos (by omega)] at e; omega⟩
  refine ⟨n, hn, ?_, fun x hx => (by cases hx), ?_⟩
  · intro x hx
    rcases List.mem_cons.1 hx with rfl | hx
    · show (ibin .and .u16 (h : Int) 3 == 3) = decide (24 ≤ clsOf n)
      rw [show ibin .and .u16 (h : Int) 3 = ((h % 4 : Nat) : Int) from (and_nat .u16 h 3 (by show h ≤ 65535; omega) (by decide)).trans (by rw [show Nat.land h 3 = h % 4 from Nat.and_two_pow_sub_one_eq_mod h 2]), hc]
      by_cases h3 : h % 4 = 3
      · rw [h3]; rw [decide_eq_true (by omega)]; rfl
      · rw [decide_eq_false (by omega)]
        have : ¬ (((h % 4 : Nat) : Int) = 3) := by omega
        simpa using this
    · obtain ⟨ps, hps, rfl⟩ := List.mem_map.1 hx
      have tab : (signedL.all fun ps => (ps.all fun p => Nat.ble p 32) && (Nat.ble ps.length 20 && [0, 5, 6, 8, 11].contains ps.length)) = true := by decide
      have tb := List.all_eq_true.1 tab ps hps
      simp only [Bool.and_eq_true] at tb
      obtain ⟨t1, t2, t3⟩ := tb
      obtain ⟨v, hv, hlt⟩ := gT_ev h hh φ0 ps 0 (.lit 0) 0 (fun p hp => Nat.le_of_ble_eq_true (List.all_eq_true.1 t1 p hp)) (by have := Nat.le_of_ble_eq_true t2; omega) rfl (by decide)
      show (ibin .andNot .u32 ((gT ps 0 (.lit 0)).ev _ _) ((2 ^ ps.length - 1 : Nat) : Int) == 0) = true
      rw [hv]
      rw [Nat.zero_add] at hlt
      exact List.all_eq_true.1 (List.all_eq_true.1 mask_zero ps.length (by simpa using t3)) v (List.mem_range.2 hlt)
  · intro x hx
    rcases List.mem_cons.1 hx with rfl | hx
    · show swT.ev _ _ = ((clsOf n : Nat) : Int)
      rw [sw_ev h hh, hc]
    · rcases List.mem_append.1 hx with hx | hx
      · split at hx
        · rename_i h12
          simp only [List.mem_cons, List.not_mem_nil, or_false] at hx
          subst hx
          show whichT.ev _ _ = ((n - 31 : Nat) : Int)
          rw [hke, hw h12]
        · cases hx
      · exact alive_on _ x hx
end Go.Proofs.YtoehlmiadiiimaaGreatDoor.Ex
