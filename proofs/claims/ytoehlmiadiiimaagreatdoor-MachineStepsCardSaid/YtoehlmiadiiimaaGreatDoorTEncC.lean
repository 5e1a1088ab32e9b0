import Derived.Test.YtoehlmiadiiimaaGreatDoorTExC3
/-
  What small functions answer, way by way (written by a program).
-/
namespace Go.Proofs.YtoehlmiadiiimaaGreatDoor.Ex
open Go
def regsTr:Nat→Tr
 | 97=>(.lt (.var 0) (.lit 8)
  (.leaf (.tup [(.int .u16 0),(.bool false)]))
  (.lt (.lit 15) (.var 0)
  (.leaf (.tup [(.int .u16 0),(.bool false)]))
  (.eq (.var 1) (.lit 2)
  (.leaf (.tup [(.sint .u16 (.wrap .u16 (.bin .or .i64 (.lit 0) (.bin .shl .i64 (.bin .sub .i64 (.var 0) (.lit 8)) (.lit 2))))),(.bool true)]))
  (.leaf (.tup [(.int .u16 0),(.bool false)])))))
 | 108=>(.lt (.var 0) (.lit 8)
  (.leaf (.tup [(.int .u16 0),(.bool false)]))
  (.lt (.lit 15) (.var 0)
  (.leaf (.tup [(.int .u16 0),(.bool false)]))
  (.lt (.var 1) (.lit 8)
  (.leaf (.tup [(.int .u16 0),(.bool false)]))
  (.lt (.lit 15) (.var 1)
  (.leaf (.tup [(.int .u16 0),(.bool false)]))
  (.leaf (.tup [(.sint .u16 (.wrap .u16 (.bin .or .i64 (.bin .shl .i64 (.bin .sub .i64 (.var 1) (.lit 8)) (.lit 7)) (.bin .shl .i64 (.bin .sub .i64 (.var 0) (.lit 8)) (.lit 2))))),(.bool true)]))))))
 | 115=>(.lt (.var 2) (.lit 8)
  (.leaf (.tup [(.int .u16 0),(.bool false)]))
  (.lt (.lit 15) (.var 2)
  (.leaf (.tup [(.int .u16 0),(.bool false)]))
  (.lt (.var 1) (.lit 8)
  (.leaf (.tup [(.int .u16 0),(.bool false)]))
  (.lt (.lit 15) (.var 1)
  (.leaf (.tup [(.int .u16 0),(.bool false)]))
  (.leaf (.tup [(.sint .u16 (.wrap .u16 (.bin .or .i64 (.bin .shl .i64 (.bin .sub .i64 (.var 1) (.lit 8)) (.lit 7)) (.bin .shl .i64 (.bin .sub .i64 (.var 2) (.lit 8)) (.lit 2))))),(.bool true)]))))))
 | 110=>(.eq (.var 0) (.lit 0)
  (.eq (.var 1) (.lit 0)
  (.leaf (.tup [(.int .u16 0),(.bool true)]))
  (.leaf (.tup [(.int .u16 0),(.bool false)])))
  (.leaf (.tup [(.int .u16 0),(.bool false)])))
 | 106=>(.eq (.var 0) (.lit 0)
  (.eq (.var 1) (.lit 0)
  (.leaf (.tup [(.int .u16 0),(.bool true)]))
  (.leaf (.tup [(.int .u16 0),(.bool false)])))
  (.leaf (.tup [(.int .u16 0),(.bool false)])))
 | 114=>(.eq (.var 0) (.var 1)
  (.eq (.var 0) (.lit 0)
  (.leaf (.tup [(.int .u16 0),(.bool false)]))
  (.leaf (.tup [(.sint .u16 (.wrap .u16 (.bin .or .i64 (.bin .shl .i64 (.var 0) (.lit 7)) (.lit 0)))),(.bool true)])))
  (.leaf (.tup [(.int .u16 0),(.bool false)])))
 | 122=>(.eq (.var 0) (.lit 0)
  (.leaf (.tup [(.int .u16 0),(.bool false)]))
  (.eq (.var 1) (.lit 0)
  (.leaf (.tup [(.sint .u16 (.wrap .u16 (.bin .or .i64 (.bin .shl .i64 (.var 0) (.lit 7)) (.lit 0)))),(.bool true)]))
  (.leaf (.tup [(.int .u16 0),(.bool false)]))))
 | 117=>(.eq (.var 0) (.lit 0)
  (.leaf (.tup [(.int .u16 0),(.bool false)]))
  (.eq (.var 0) (.lit 2)
  (.leaf (.tup [(.int .u16 0),(.bool false)]))
  (.leaf (.tup [(.sint .u16 (.wrap .u16 (.bin .or .i64 (.bin .shl .i64 (.var 0) (.lit 7)) (.lit 0)))),(.bool true)]))))
 | 112=>(.eq (.var 0) (.lit 2)
  (.eq (.var 1) (.lit 2)
  (.leaf (.tup [(.int .u16 0),(.bool true)]))
  (.leaf (.tup [(.int .u16 0),(.bool false)])))
  (.leaf (.tup [(.int .u16 0),(.bool false)])))
 | 113=>(.eq (.var 0) (.var 1)
  (.lt (.var 0) (.lit 8)
  (.leaf (.tup [(.int .u16 0),(.bool false)]))
  (.lt (.lit 15) (.var 0)
  (.leaf (.tup [(.int .u16 0),(.bool false)]))
  (.leaf (.tup [(.sint .u16 (.wrap .u16 (.bin .or .i64 (.bin .shl .i64 (.bin .sub .i64 (.var 0) (.lit 8)) (.lit 7)) (.lit 0)))),(.bool true)]))))
  (.leaf (.tup [(.int .u16 0),(.bool false)])))
 | 109=>(.eq (.var 0) (.var 1)
  (.lt (.var 0) (.lit 8)
  (.leaf (.tup [(.int .u16 0),(.bool false)]))
  (.lt (.lit 15) (.var 0)
  (.leaf (.tup [(.int .u16 0),(.bool false)]))
  (.lt (.var 2) (.lit 8)
  (.leaf (.tup [(.int .u16 0),(.bool false)]))
  (.lt (.lit 15) (.var 2)
  (.leaf (.tup [(.int .u16 0),(.bool false)]))
  (.leaf (.tup [(.sint .u16 (.wrap .u16 (.bin .or .i64 (.bin .shl .i64 (.bin .sub .i64 (.var 0) (.lit 8)) (.lit 7)) (.bin .shl .i64 (.bin .sub .i64 (.var 2) (.lit 8)) (.lit 2))))),(.bool true)]))))))
  (.leaf (.tup [(.int .u16 0),(.bool false)])))
 | 98=>(.lt (.var 1) (.lit 8)
  (.leaf (.tup [(.int .u16 0),(.bool false)]))
  (.lt (.lit 15) (.var 1)
  (.leaf (.tup [(.int .u16 0),(.bool false)]))
  (.eq (.var 2) (.lit 0)
  (.leaf (.tup [(.sint .u16 (.wrap .u16 (.bin .or .i64 (.bin .shl .i64 (.bin .sub .i64 (.var 1) (.lit 8)) (.lit 7)) (.lit 0)))),(.bool true)]))
  (.leaf (.tup [(.int .u16 0),(.bool false)])))))
 | 119=>(.eq (.var 0) (.lit 0)
  (.leaf (.tup [(.int .u16 0),(.bool false)]))
  (.eq (.var 1) (.lit 2)
  (.leaf (.tup [(.sint .u16 (.wrap .u16 (.bin .or .i64 (.bin .shl .i64 (.var 0) (.lit 7)) (.lit 0)))),(.bool true)]))
  (.leaf (.tup [(.int .u16 0),(.bool false)]))))
 | 74=>(.eq (.var 0) (.lit 0)
  (.eq (.var 1) (.lit 0)
  (.leaf (.tup [(.int .u16 0),(.bool false)]))
  (.leaf (.tup [(.sint .u16 (.wrap .u16 (.bin .or .i64 (.bin .shl .i64 (.var 1) (.lit 7)) (.lit 0)))),(.bool true)])))
  (.leaf (.tup [(.int .u16 0),(.bool false)])))
 | 75=>(.eq (.var 0) (.lit 1)
  (.eq (.var 1) (.lit 0)
  (.leaf (.tup [(.int .u16 0),(.bool false)]))
  (.leaf (.tup [(.sint .u16 (.wrap .u16 (.bin .or .i64 (.bin .shl .i64 (.var 1) (.lit 7)) (.lit 0)))),(.bool true)])))
  (.leaf (.tup [(.int .u16 0),(.bool false)])))
 | 118=>(.eq (.var 0) (.lit 0)
  (.leaf (.tup [(.int .u16 0),(.bool false)]))
  (.eq (.var 1) (.lit 0)
  (.eq (.var 2) (.lit 0)
  (.leaf (.tup [(.int .u16 0),(.bool false)]))
  (.leaf (.tup [(.sint .u16 (.wrap .u16 (.bin .or .i64 (.bin .shl .i64 (.var 0) (.lit 7)) (.bin .shl .i64 (.var 2) (.lit 2))))),(.bool true)])))
  (.leaf (.tup [(.int .u16 0),(.bool false)]))))
 | 100=>(.eq (.var 0) (.lit 0)
  (.leaf (.tup [(.int .u16 0),(.bool false)]))
  (.eq (.var 0) (.var 1)
  (.eq (.var 2) (.lit 0)
  (.leaf (.tup [(.int .u16 0),(.bool false)]))
  (.leaf (.tup [(.sint .u16 (.wrap .u16 (.bin .or .i64 (.bin .shl .i64 (.var 0) (.lit 7)) (.bin .shl .i64 (.var 2) (.lit 2))))),(.bool true)])))
  (.leaf (.tup [(.int .u16 0),(.bool false)]))))
 | 116=>(.eq (.var 1) (.lit 2)
  (.leaf (.tup [(.sint .u16 (.wrap .u16 (.bin .or .i64 (.lit 0) (.bin .shl .i64 (.var 2) (.lit 2))))),(.bool true)]))
  (.leaf (.tup [(.int .u16 0),(.bool false)])))
 | _=>.bad
def rightTr:Nat→Tr
 | 97=>(.lt (.var 0) (.lit 8)
  (.leaf (.bool false))
  (.lt (.lit 15) (.var 0)
  (.leaf (.bool false))
  (.eq (.var 1) (.lit 2)
  (.eq (.var 2) (.lit 0)
  (.leaf (.bool true))
  (.leaf (.bool false)))
  (.leaf (.bool false)))))
 | 108=>(.lt (.var 0) (.lit 8)
  (.leaf (.bool false))
  (.lt (.lit 15) (.var 0)
  (.leaf (.bool false))
  (.lt (.var 1) (.lit 8)
  (.leaf (.bool false))
  (.lt (.lit 15) (.var 1)
  (.leaf (.bool false))
  (.eq (.var 2) (.lit 0)
  (.leaf (.bool true))
  (.leaf (.bool false)))))))
 | 115=>(.lt (.var 1) (.lit 8)
  (.leaf (.bool false))
  (.lt (.lit 15) (.var 1)
  (.leaf (.bool false))
  (.lt (.var 2) (.lit 8)
  (.leaf (.bool false))
  (.lt (.lit 15) (.var 2)
  (.leaf (.bool false))
  (.eq (.var 0) (.lit 0)
  (.leaf (.bool true))
  (.leaf (.bool false)))))))
 | 110=>(.eq (.var 0) (.lit 0)
  (.eq (.var 1) (.lit 0)
  (.eq (.var 2) (.lit 0)
  (.leaf (.bool true))
  (.leaf (.bool false)))
  (.leaf (.bool false)))
  (.leaf (.bool false)))
 | 106=>(.eq (.var 0) (.lit 0)
  (.eq (.var 1) (.lit 0)
  (.eq (.var 2) (.lit 0)
  (.leaf (.bool true))
  (.leaf (.bool false)))
  (.leaf (.bool false)))
  (.leaf (.bool false)))
 | 114=>(.eq (.var 0) (.var 1)
  (.eq (.var 0) (.lit 0)
  (.leaf (.bool false))
  (.eq (.var 2) (.lit 0)
  (.leaf (.bool true))
  (.leaf (.bool false))))
  (.leaf (.bool false)))
 | 122=>(.eq (.var 0) (.lit 0)
  (.leaf (.bool false))
  (.eq (.var 1) (.lit 0)
  (.eq (.var 2) (.lit 0)
  (.leaf (.bool true))
  (.leaf (.bool false)))
  (.leaf (.bool false))))
 | 117=>(.eq (.var 0) (.lit 0)
  (.leaf (.bool false))
  (.eq (.var 0) (.lit 2)
  (.leaf (.bool false))
  (.eq (.var 1) (.lit 0)
  (.eq (.var 2) (.lit 0)
  (.leaf (.bool true))
  (.leaf (.bool false)))
  (.leaf (.bool false)))))
 | 112=>(.eq (.var 0) (.lit 2)
  (.eq (.var 1) (.lit 2)
  (.eq (.var 2) (.lit 0)
  (.leaf (.bool true))
  (.leaf (.bool false)))
  (.leaf (.bool false)))
  (.leaf (.bool false)))
 | 113=>(.eq (.var 0) (.var 1)
  (.lt (.var 0) (.lit 8)
  (.leaf (.bool false))
  (.lt (.lit 15) (.var 0)
  (.leaf (.bool false))
  (.eq (.var 2) (.lit 0)
  (.leaf (.bool true))
  (.leaf (.bool false)))))
  (.leaf (.bool false)))
 | 109=>(.eq (.var 0) (.var 1)
  (.lt (.var 0) (.lit 8)
  (.leaf (.bool false))
  (.lt (.lit 15) (.var 0)
  (.leaf (.bool false))
  (.lt (.var 2) (.lit 8)
  (.leaf (.bool false))
  (.lt (.lit 15) (.var 2)
  (.leaf (.bool false))
  (.leaf (.bool true))))))
  (.leaf (.bool false)))
 | 98=>(.eq (.var 0) (.lit 0)
  (.lt (.var 1) (.lit 8)
  (.leaf (.bool false))
  (.lt (.lit 15) (.var 1)
  (.leaf (.bool false))
  (.eq (.var 2) (.lit 0)
  (.leaf (.bool true))
  (.leaf (.bool false)))))
  (.leaf (.bool false)))
 | 119=>(.eq (.var 0) (.lit 0)
  (.leaf (.bool false))
  (.eq (.var 1) (.lit 2)
  (.eq (.var 2) (.lit 0)
  (.leaf (.bool true))
  (.leaf (.bool false)))
  (.leaf (.bool false))))
 | 74=>(.eq (.var 0) (.lit 0)
  (.eq (.var 1) (.lit 0)
  (.leaf (.bool false))
  (.eq (.var 2) (.lit 0)
  (.leaf (.bool true))
  (.leaf (.bool false))))
  (.leaf (.bool false)))
 | 75=>(.eq (.var 0) (.lit 1)
  (.eq (.var 1) (.lit 0)
  (.leaf (.bool false))
  (.eq (.var 2) (.lit 0)
  (.leaf (.bool true))
  (.leaf (.bool false))))
  (.leaf (.bool false)))
 | 118=>(.eq (.var 0) (.lit 0)
  (.leaf (.bool false))
  (.eq (.var 1) (.lit 0)
  (.eq (.var 2) (.lit 0)
  (.leaf (.bool false))
  (.leaf (.bool true)))
  (.leaf (.bool false))))
 | 100=>(.eq (.var 0) (.var 1)
  (.eq (.var 0) (.lit 0)
  (.leaf (.bool false))
  (.eq (.var 2) (.lit 0)
  (.leaf (.bool false))
  (.leaf (.bool true))))
  (.leaf (.bool false)))
 | 116=>(.eq (.var 0) (.lit 0)
  (.eq (.var 1) (.lit 2)
  (.leaf (.bool true))
  (.leaf (.bool false)))
  (.leaf (.bool false)))
 | _=>.bad
def numTr:Nat→Nat→Nat→Tr
 | 112,4,8=>(.eq (.bin .rem .i64 (.var 0) (.lit 4)) (.lit 0)
  (.lt (.lit 0) (.var 0)
  (.lt (.lit 255) (.bin .quo .i64 (.var 0) (.lit 4))
  (.leaf (.tup [(.sint .u32 (.wrap .u32 (.bin .and .i64 (.bin .quo .i64 (.var 0) (.lit 4)) (.lit 255)))),(.bool false)]))
  (.leaf (.tup [(.sint .u32 (.wrap .u32 (.bin .and .i64 (.bin .quo .i64 (.var 0) (.lit 4)) (.lit 255)))),(.bool true)])))
  (.leaf (.tup [(.sint .u32 (.wrap .u32 (.bin .and .i64 (.bin .quo .i64 (.var 0) (.lit 4)) (.lit 255)))),(.bool false)])))
  (.leaf (.tup [(.int .u32 0),(.bool false)])))
 | 117,4,5=>(.eq (.bin .rem .i64 (.var 0) (.lit 4)) (.lit 0)
  (.lt (.var 0) (.lit 0)
  (.leaf (.tup [(.sint .u32 (.wrap .u32 (.bin .and .i64 (.bin .quo .i64 (.var 0) (.lit 4)) (.lit 31)))),(.bool false)]))
  (.lt (.lit 31) (.bin .quo .i64 (.var 0) (.lit 4))
  (.leaf (.tup [(.sint .u32 (.wrap .u32 (.bin .and .i64 (.bin .quo .i64 (.var 0) (.lit 4)) (.lit 31)))),(.bool false)]))
  (.leaf (.tup [(.sint .u32 (.wrap .u32 (.bin .and .i64 (.bin .quo .i64 (.var 0) (.lit 4)) (.lit 31)))),(.bool true)]))))
  (.leaf (.tup [(.int .u32 0),(.bool false)])))
 | 117,8,5=>(.eq (.bin .rem .i64 (.var 0) (.lit 8)) (.lit 0)
  (.lt (.var 0) (.lit 0)
  (.leaf (.tup [(.sint .u32 (.wrap .u32 (.bin .and .i64 (.bin .quo .i64 (.var 0) (.lit 8)) (.lit 31)))),(.bool false)]))
  (.lt (.lit 31) (.bin .quo .i64 (.var 0) (.lit 8))
  (.leaf (.tup [(.sint .u32 (.wrap .u32 (.bin .and .i64 (.bin .quo .i64 (.var 0) (.lit 8)) (.lit 31)))),(.bool false)]))
  (.leaf (.tup [(.sint .u32 (.wrap .u32 (.bin .and .i64 (.bin .quo .i64 (.var 0) (.lit 8)) (.lit 31)))),(.bool true)]))))
  (.leaf (.tup [(.int .u32 0),(.bool false)])))
 | 48,1,0=>(.eq (.bin .rem .i64 (.var 0) (.lit 1)) (.lit 0)
  (.eq (.var 0) (.lit 0)
  (.leaf (.tup [(.sint .u32 (.wrap .u32 (.bin .and .i64 (.bin .quo .i64 (.var 0) (.lit 1)) (.lit 0)))),(.bool true)]))
  (.leaf (.tup [(.sint .u32 (.wrap .u32 (.bin .and .i64 (.bin .quo .i64 (.var 0) (.lit 1)) (.lit 0)))),(.bool false)])))
  (.leaf (.tup [(.int .u32 0),(.bool false)])))
 | 110,1,6=>(.eq (.bin .rem .i64 (.var 0) (.lit 1)) (.lit 0)
  (.eq (.var 0) (.lit 0)
  (.leaf (.tup [(.sint .u32 (.wrap .u32 (.bin .and .i64 (.bin .quo .i64 (.var 0) (.lit 1)) (.lit 63)))),(.bool false)]))
  (.eq (.bin .shr .i64 (.bin .quo .i64 (.var 0) (.lit 1)) (.lit 5)) (.bin .shr .i64 (.bin .quo .i64 (.var 0) (.lit 1)) (.lit 63))
  (.leaf (.tup [(.sint .u32 (.wrap .u32 (.bin .and .i64 (.bin .quo .i64 (.var 0) (.lit 1)) (.lit 63)))),(.bool true)]))
  (.leaf (.tup [(.sint .u32 (.wrap .u32 (.bin .and .i64 (.bin .quo .i64 (.var 0) (.lit 1)) (.lit 63)))),(.bool false)]))))
  (.leaf (.tup [(.int .u32 0),(.bool false)])))
 | 115,1,6=>(.eq (.bin .rem .i64 (.var 0) (.lit 1)) (.lit 0)
  (.eq (.bin .shr .i64 (.bin .quo .i64 (.var 0) (.lit 1)) (.lit 5)) (.bin .shr .i64 (.bin .quo .i64 (.var 0) (.lit 1)) (.lit 63))
  (.leaf (.tup [(.sint .u32 (.wrap .u32 (.bin .and .i64 (.bin .quo .i64 (.var 0) (.lit 1)) (.lit 63)))),(.bool true)]))
  (.leaf (.tup [(.sint .u32 (.wrap .u32 (.bin .and .i64 (.bin .quo .i64 (.var 0) (.lit 1)) (.lit 63)))),(.bool false)])))
  (.leaf (.tup [(.int .u32 0),(.bool false)])))
 | 110,16,6=>(.eq (.bin .rem .i64 (.var 0) (.lit 16)) (.lit 0)
  (.eq (.var 0) (.lit 0)
  (.leaf (.tup [(.sint .u32 (.wrap .u32 (.bin .and .i64 (.bin .quo .i64 (.var 0) (.lit 16)) (.lit 63)))),(.bool false)]))
  (.eq (.bin .shr .i64 (.bin .quo .i64 (.var 0) (.lit 16)) (.lit 5)) (.bin .shr .i64 (.bin .quo .i64 (.var 0) (.lit 16)) (.lit 63))
  (.leaf (.tup [(.sint .u32 (.wrap .u32 (.bin .and .i64 (.bin .quo .i64 (.var 0) (.lit 16)) (.lit 63)))),(.bool true)]))
  (.leaf (.tup [(.sint .u32 (.wrap .u32 (.bin .and .i64 (.bin .quo .i64 (.var 0) (.lit 16)) (.lit 63)))),(.bool false)]))))
  (.leaf (.tup [(.int .u32 0),(.bool false)])))
 | 108,1,6=>(.eq (.bin .rem .i64 (.var 0) (.lit 1)) (.lit 0)
  (.lt (.lit 0) (.var 0)
  (.lt (.var 0) (.lit 32)
  (.leaf (.tup [(.sint .u32 (.wrap .u32 (.bin .and .i64 (.bin .quo .i64 (.var 0) (.lit 1)) (.lit 63)))),(.bool true)]))
  (.lt (.var 0) (.lit 1048544)
  (.leaf (.tup [(.sint .u32 (.wrap .u32 (.bin .and .i64 (.bin .quo .i64 (.var 0) (.lit 1)) (.lit 63)))),(.bool false)]))
  (.leaf (.tup [(.sint .u32 (.wrap .u32 (.bin .and .i64 (.bin .quo .i64 (.var 0) (.lit 1)) (.lit 63)))),(.bool true)]))))
  (.lt (.var 0) (.lit 1048544)
  (.leaf (.tup [(.sint .u32 (.wrap .u32 (.bin .and .i64 (.bin .quo .i64 (.var 0) (.lit 1)) (.lit 63)))),(.bool false)]))
  (.leaf (.tup [(.sint .u32 (.wrap .u32 (.bin .and .i64 (.bin .quo .i64 (.var 0) (.lit 1)) (.lit 63)))),(.bool true)]))))
  (.leaf (.tup [(.int .u32 0),(.bool false)])))
 | 112,1,6=>(.eq (.bin .rem .i64 (.var 0) (.lit 1)) (.lit 0)
  (.lt (.lit 0) (.var 0)
  (.lt (.lit 63) (.bin .quo .i64 (.var 0) (.lit 1))
  (.leaf (.tup [(.sint .u32 (.wrap .u32 (.bin .and .i64 (.bin .quo .i64 (.var 0) (.lit 1)) (.lit 63)))),(.bool false)]))
  (.leaf (.tup [(.sint .u32 (.wrap .u32 (.bin .and .i64 (.bin .quo .i64 (.var 0) (.lit 1)) (.lit 63)))),(.bool true)])))
  (.leaf (.tup [(.sint .u32 (.wrap .u32 (.bin .and .i64 (.bin .quo .i64 (.var 0) (.lit 1)) (.lit 63)))),(.bool false)])))
  (.leaf (.tup [(.int .u32 0),(.bool false)])))
 | 115,2,11=>(.eq (.bin .rem .i64 (.var 0) (.lit 2)) (.lit 0)
  (.eq (.bin .shr .i64 (.bin .quo .i64 (.var 0) (.lit 2)) (.lit 10)) (.bin .shr .i64 (.bin .quo .i64 (.var 0) (.lit 2)) (.lit 63))
  (.leaf (.tup [(.sint .u32 (.wrap .u32 (.bin .and .i64 (.bin .quo .i64 (.var 0) (.lit 2)) (.lit 2047)))),(.bool true)]))
  (.leaf (.tup [(.sint .u32 (.wrap .u32 (.bin .and .i64 (.bin .quo .i64 (.var 0) (.lit 2)) (.lit 2047)))),(.bool false)])))
  (.leaf (.tup [(.int .u32 0),(.bool false)])))
 | 115,2,8=>(.eq (.bin .rem .i64 (.var 0) (.lit 2)) (.lit 0)
  (.eq (.bin .shr .i64 (.bin .quo .i64 (.var 0) (.lit 2)) (.lit 7)) (.bin .shr .i64 (.bin .quo .i64 (.var 0) (.lit 2)) (.lit 63))
  (.leaf (.tup [(.sint .u32 (.wrap .u32 (.bin .and .i64 (.bin .quo .i64 (.var 0) (.lit 2)) (.lit 255)))),(.bool true)]))
  (.leaf (.tup [(.sint .u32 (.wrap .u32 (.bin .and .i64 (.bin .quo .i64 (.var 0) (.lit 2)) (.lit 255)))),(.bool false)])))
  (.leaf (.tup [(.int .u32 0),(.bool false)])))
 | 117,4,6=>(.eq (.bin .rem .i64 (.var 0) (.lit 4)) (.lit 0)
  (.lt (.var 0) (.lit 0)
  (.leaf (.tup [(.sint .u32 (.wrap .u32 (.bin .and .i64 (.bin .quo .i64 (.var 0) (.lit 4)) (.lit 63)))),(.bool false)]))
  (.lt (.lit 63) (.bin .quo .i64 (.var 0) (.lit 4))
  (.leaf (.tup [(.sint .u32 (.wrap .u32 (.bin .and .i64 (.bin .quo .i64 (.var 0) (.lit 4)) (.lit 63)))),(.bool false)]))
  (.leaf (.tup [(.sint .u32 (.wrap .u32 (.bin .and .i64 (.bin .quo .i64 (.var 0) (.lit 4)) (.lit 63)))),(.bool true)]))))
  (.leaf (.tup [(.int .u32 0),(.bool false)])))
 | 117,8,6=>(.eq (.bin .rem .i64 (.var 0) (.lit 8)) (.lit 0)
  (.lt (.var 0) (.lit 0)
  (.leaf (.tup [(.sint .u32 (.wrap .u32 (.bin .and .i64 (.bin .quo .i64 (.var 0) (.lit 8)) (.lit 63)))),(.bool false)]))
  (.lt (.lit 63) (.bin .quo .i64 (.var 0) (.lit 8))
  (.leaf (.tup [(.sint .u32 (.wrap .u32 (.bin .and .i64 (.bin .quo .i64 (.var 0) (.lit 8)) (.lit 63)))),(.bool false)]))
  (.leaf (.tup [(.sint .u32 (.wrap .u32 (.bin .and .i64 (.bin .quo .i64 (.var 0) (.lit 8)) (.lit 63)))),(.bool true)]))))
  (.leaf (.tup [(.int .u32 0),(.bool false)])))
 | _,_,_=>.bad
def fitsTr:Nat→Nat→Nat→Tr
 | 112,4,8=>(.eq (.bin .rem .i64 (.var 0) (.lit 4)) (.lit 0)
  (.lt (.bin .quo .i64 (.var 0) (.lit 4)) (.lit 1)
  (.leaf (.bool false))
  (.lt (.bin .quo .i64 (.var 0) (.lit 4)) (.lit 256)
  (.leaf (.bool true))
  (.leaf (.bool false))))
  (.leaf (.bool false)))
 | 117,4,5=>(.eq (.bin .rem .i64 (.var 0) (.lit 4)) (.lit 0)
  (.lt (.bin .quo .i64 (.var 0) (.lit 4)) (.lit 0)
  (.leaf (.bool false))
  (.lt (.bin .quo .i64 (.var 0) (.lit 4)) (.lit 32)
  (.leaf (.bool true))
  (.leaf (.bool false))))
  (.leaf (.bool false)))
 | 117,8,5=>(.eq (.bin .rem .i64 (.var 0) (.lit 8)) (.lit 0)
  (.lt (.bin .quo .i64 (.var 0) (.lit 8)) (.lit 0)
  (.leaf (.bool false))
  (.lt (.bin .quo .i64 (.var 0) (.lit 8)) (.lit 32)
  (.leaf (.bool true))
  (.leaf (.bool false))))
  (.leaf (.bool false)))
 | 48,1,0=>(.eq (.bin .rem .i64 (.var 0) (.lit 1)) (.lit 0)
  (.eq (.var 0) (.lit 0)
  (.leaf (.bool true))
  (.leaf (.bool false)))
  (.leaf (.bool false)))
 | 110,1,6=>(.eq (.bin .rem .i64 (.var 0) (.lit 1)) (.lit 0)
  (.eq (.bin .quo .i64 (.var 0) (.lit 1)) (.lit 0)
  (.leaf (.bool false))
  (.lt (.bin .mul .i64 (.lit 2) (.bin .quo .i64 (.var 0) (.lit 1))) (.lit (-64))
  (.leaf (.bool false))
  (.lt (.bin .mul .i64 (.lit 2) (.bin .quo .i64 (.var 0) (.lit 1))) (.lit 64)
  (.leaf (.bool true))
  (.leaf (.bool false)))))
  (.leaf (.bool false)))
 | 115,1,6=>(.eq (.bin .rem .i64 (.var 0) (.lit 1)) (.lit 0)
  (.lt (.bin .mul .i64 (.lit 2) (.bin .quo .i64 (.var 0) (.lit 1))) (.lit (-64))
  (.leaf (.bool false))
  (.lt (.bin .mul .i64 (.lit 2) (.bin .quo .i64 (.var 0) (.lit 1))) (.lit 64)
  (.leaf (.bool true))
  (.leaf (.bool false))))
  (.leaf (.bool false)))
 | 110,16,6=>(.eq (.bin .rem .i64 (.var 0) (.lit 16)) (.lit 0)
  (.eq (.bin .quo .i64 (.var 0) (.lit 16)) (.lit 0)
  (.leaf (.bool false))
  (.lt (.bin .mul .i64 (.lit 2) (.bin .quo .i64 (.var 0) (.lit 16))) (.lit (-64))
  (.leaf (.bool false))
  (.lt (.bin .mul .i64 (.lit 2) (.bin .quo .i64 (.var 0) (.lit 16))) (.lit 64)
  (.leaf (.bool true))
  (.leaf (.bool false)))))
  (.leaf (.bool false)))
 | 108,1,6=>(.eq (.bin .rem .i64 (.var 0) (.lit 1)) (.lit 0)
  (.lt (.var 0) (.lit 1)
  (.lt (.var 0) (.lit 1048544)
  (.leaf (.bool false))
  (.lt (.lit 1048575) (.var 0)
  (.leaf (.bool false))
  (.leaf (.bool true))))
  (.lt (.lit 31) (.var 0)
  (.lt (.var 0) (.lit 1048544)
  (.leaf (.bool false))
  (.lt (.lit 1048575) (.var 0)
  (.leaf (.bool false))
  (.leaf (.bool true))))
  (.leaf (.bool true))))
  (.leaf (.bool false)))
 | 112,1,6=>(.eq (.bin .rem .i64 (.var 0) (.lit 1)) (.lit 0)
  (.lt (.bin .quo .i64 (.var 0) (.lit 1)) (.lit 1)
  (.leaf (.bool false))
  (.lt (.bin .quo .i64 (.var 0) (.lit 1)) (.lit 64)
  (.leaf (.bool true))
  (.leaf (.bool false))))
  (.leaf (.bool false)))
 | 115,2,11=>(.eq (.bin .rem .i64 (.var 0) (.lit 2)) (.lit 0)
  (.lt (.bin .mul .i64 (.lit 2) (.bin .quo .i64 (.var 0) (.lit 2))) (.lit (-2048))
  (.leaf (.bool false))
  (.lt (.bin .mul .i64 (.lit 2) (.bin .quo .i64 (.var 0) (.lit 2))) (.lit 2048)
  (.leaf (.bool true))
  (.leaf (.bool false))))
  (.leaf (.bool false)))
 | 115,2,8=>(.eq (.bin .rem .i64 (.var 0) (.lit 2)) (.lit 0)
  (.lt (.bin .mul .i64 (.lit 2) (.bin .quo .i64 (.var 0) (.lit 2))) (.lit (-256))
  (.leaf (.bool false))
  (.lt (.bin .mul .i64 (.lit 2) (.bin .quo .i64 (.var 0) (.lit 2))) (.lit 256)
  (.leaf (.bool true))
  (.leaf (.bool false))))
  (.leaf (.bool false)))
 | 117,4,6=>(.eq (.bin .rem .i64 (.var 0) (.lit 4)) (.lit 0)
  (.lt (.bin .quo .i64 (.var 0) (.lit 4)) (.lit 0)
  (.leaf (.bool false))
  (.lt (.bin .quo .i64 (.var 0) (.lit 4)) (.lit 64)
  (.leaf (.bool true))
  (.leaf (.bool false))))
  (.leaf (.bool false)))
 | 117,8,6=>(.eq (.bin .rem .i64 (.var 0) (.lit 8)) (.lit 0)
  (.lt (.bin .quo .i64 (.var 0) (.lit 8)) (.lit 0)
  (.leaf (.bool false))
  (.lt (.bin .quo .i64 (.var 0) (.lit 8)) (.lit 64)
  (.leaf (.bool true))
  (.leaf (.bool false))))
  (.leaf (.bool false)))
 | _,_,_=>.bad
def lf (n:Int) : Tr:=.leaf (.int .i64 n)
def lb (b:Bool) : Tr:=.leaf (.bool b)
def regT (has:Bool) (x:SE) (yes no:Tr) : Tr:=.eq x (.lit 0) yes (match has with | true=>.lt x (.lit 1) no (.lt (.lit 31) x no yes) | false=>no)
def inT (lo hi:Int) (x:SE) (yes no:Tr) : Tr:=.lt x (.lit lo) no (.lt (.lit hi) x no yes)
def fitT (k:Int) (x:SE) (yes no:Tr) : Tr:=.eq (.bin .shr .i64 x (.lit k)) (.bin .shr .i64 x (.lit 63)) yes no
def evenT (x:SE) (yes no:Tr) : Tr:=.eq (.bin .rem .i64 x (.lit 2)) (.lit 0) yes no
def numC (x:SE) (yes no:Tr) : Nat→Tr
 | 85=>inT 0 1048575 x yes no
 | 74=>fitT 20 x (evenT x yes no) no
 | 66=>fitT 12 x (evenT x yes no) no
 | 73=>fitT 11 x yes no
 | 76=>fitT 11 x yes no
 | 83=>fitT 11 x yes no
 | 54=>inT 0 63 x yes no
 | 53=>inT 0 31 x yes no
 | 70=>inT 0 255 x yes no
 | 67=>inT 0 4095 x yes no
 | 90=>inT 0 4095 x yes no
 | 108=>inT 0 3 x yes no
 | 65=>inT 0 3 x yes no
 | _=>.eq x (.lit 0) yes no
structure Shape where
 d:Bool
 s:Bool
 t:Bool
 lo:Int
 hi:Int
 by_:Int
def shapeL:Nat→Shape
 | 85=>⟨true,false,false,0,1048575,1⟩
 | 74=>⟨true,false,false,-1048576,1048574,2⟩
 | 73=>⟨true,true,false,-2048,2047,1⟩
 | 76=>⟨true,true,false,-2048,2047,1⟩
 | 66=>⟨false,true,true,-4096,4094,2⟩
 | 83=>⟨false,true,true,-2048,2047,1⟩
 | 54=>⟨true,true,false,0,63,1⟩
 | 53=>⟨true,true,false,0,31,1⟩
 | 82=>⟨true,true,true,0,0,1⟩
 | 70=>⟨false,false,false,0,255,1⟩
 | 67=>⟨true,true,false,0,4095,1⟩
 | 90=>⟨true,true,false,0,4095,1⟩
 | 108=>⟨true,true,false,0,3,1⟩
 | 65=>⟨true,true,true,0,3,1⟩
 | _=>⟨false,false,false,0,0,1⟩
def checkTr (F:Nat) : Tr:=regT (shapeL F).d (.var 0) (regT (shapeL F).s (.var 1) (regT (shapeL F).t (.var 2) (numC (.var 3) (lf 0) (lf 20) F) (lf 20)) (lf 20)) (lf 20)
def rightT (has:Bool) (x:SE) (yes no:Tr) : Tr:=.lt x (.lit 0) no (.lt (.lit 31) x no (match has with | true=>yes | false=>.eq x (.lit 0) yes no))
def mayTr (F:Nat) : Tr:=rightT (shapeL F).d (.var 0) (rightT (shapeL F).s (.var 1) (rightT (shapeL F).t (.var 2)
 (inT (shapeL F).lo (shapeL F).hi (.var 3) (.eq (.bin .rem .i64 (.var 3) (.lit (shapeL F).by_)) (.lit 0) (lb true) (lb false)) (lb false)) (lb false)) (lb false)) (lb false)
def checkNo:Tr:=(.leaf (.int .i64 20))
def mayNo:Tr:=(.leaf (.bool false))
def formNo : Tr := (.lt (.var 0) (.lit 1)
 (.leaf (.tup [(.int .u8 0),(.int .i64 2)]))
 (.lt (.lit 94) (.wrap .i64 (.var 0))
 (.leaf (.tup [(.int .u8 0),(.int .i64 2)]))
 .bad))
def form2No : Tr := (.lt (.lit 0) (.wrap .i64 (.var 0))
 (.lt (.lit 2) (.wrap .i64 (.var 0))
 (.lt (.lit 3) (.wrap .i64 (.var 0))
 (.lt (.lit 4) (.wrap .i64 (.var 0))
 (.lt (.lit 10) (.wrap .i64 (.var 0))
 (.lt (.lit 17) (.wrap .i64 (.var 0))
 (.lt (.lit 21) (.wrap .i64 (.var 0))
 (.lt (.lit 27) (.wrap .i64 (.var 0))
 (.lt (.lit 30) (.wrap .i64 (.var 0))
 (.lt (.lit 40) (.wrap .i64 (.var 0))
 (.lt (.lit 41) (.wrap .i64 (.var 0))
 (.lt (.lit 44) (.wrap .i64 (.var 0))
 (.lt (.lit 49) (.wrap .i64 (.var 0))
 (.lt (.lit 57) (.wrap .i64 (.var 0))
 (.lt (.lit 62) (.wrap .i64 (.var 0))
 (.lt (.lit 63) (.wrap .i64 (.var 0))
 (.lt (.lit 66) (.wrap .i64 (.var 0))
 (.lt (.lit 69) (.wrap .i64 (.var 0))
 (.lt (.lit 72) (.wrap .i64 (.var 0))
 (.lt (.lit 73) (.wrap .i64 (.var 0))
 (.lt (.lit 83) (.wrap .i64 (.var 0))
 (.lt (.lit 84) (.wrap .i64 (.var 0))
 (.lt (.lit 94) (.wrap .i64 (.var 0))
 (.leaf (.tup [(.int .u8 0),(.int .i64 2)]))
 .bad)
 .bad)
 .bad)
 .bad)
 .bad)
 .bad)
 .bad)
 .bad)
 .bad)
 .bad)
 .bad)
 .bad)
 .bad)
 .bad)
 .bad)
 .bad)
 .bad)
 .bad)
 .bad)
 .bad)
 .bad)
 .bad)
 (.lt (.lit 2) (.wrap .i64 (.var 0))
 .bad
 (.lt (.lit 3) (.wrap .i64 (.var 0))
 .bad
 (.lt (.lit 4) (.wrap .i64 (.var 0))
 .bad
 (.lt (.lit 10) (.wrap .i64 (.var 0))
 .bad
 (.lt (.lit 17) (.wrap .i64 (.var 0))
 .bad
 (.lt (.lit 21) (.wrap .i64 (.var 0))
 .bad
 (.lt (.lit 27) (.wrap .i64 (.var 0))
 .bad
 (.lt (.lit 30) (.wrap .i64 (.var 0))
 .bad
 (.lt (.lit 40) (.wrap .i64 (.var 0))
 .bad
 (.lt (.lit 41) (.wrap .i64 (.var 0))
 .bad
 (.lt (.lit 44) (.wrap .i64 (.var 0))
 .bad
 (.lt (.lit 49) (.wrap .i64 (.var 0))
 .bad
 (.lt (.lit 57) (.wrap .i64 (.var 0))
 .bad
 (.lt (.lit 62) (.wrap .i64 (.var 0))
 .bad
 (.lt (.lit 63) (.wrap .i64 (.var 0))
 .bad
 (.lt (.lit 66) (.wrap .i64 (.var 0))
 .bad
 (.lt (.lit 69) (.wrap .i64 (.var 0))
 .bad
 (.lt (.lit 72) (.wrap .i64 (.var 0))
 .bad
 (.lt (.lit 73) (.wrap .i64 (.var 0))
 .bad
 (.lt (.lit 83) (.wrap .i64 (.var 0))
 .bad
 (.lt (.lit 84) (.wrap .i64 (.var 0))
 .bad
 (.leaf (.tup [(.int .u8 0),(.int .i64 2)]))))))))))))))))))))))))
end Go.Proofs.YtoehlmiadiiimaaGreatDoor.Ex

/-
  Short forms of instructions: what the small functions come to, plain.
-/
namespace Go.Proofs.YtoehlmiadiiimaaGreatDoor.Ex
open Go
theorem ev_var (η:Nat→Int) (φ:Nat→List Int→Int) (i:Nat) : (SE.var i).ev η φ=η i:=rfl
theorem ev_bin (η:Nat→Int) (φ:Nat→List Int→Int) (o:BinOp) (k:IntKind) (a b:SE) : (SE.bin o k a b).ev η φ=ibin o k (a.ev η φ) (b.ev η φ):=rfl
theorem ev_wrap (η:Nat→Int) (φ:Nat→List Int→Int) (k:IntKind) (a:SE) : (SE.wrap k a).ev η φ=k.wrap (a.ev η φ):=rfl
theorem evs_pair (η:Nat→Int) (φ:Nat→List Int→Int) (a b:SE) : (SE.pair a b).evs η φ=a.evs η φ ++ b.evs η φ:=rfl
theorem at_leaf (η:Nat→Int) (φ:Nat→List Int→Int) (v:AV) : (Tr.leaf v).at η φ=some v:=rfl
theorem at_eq (η:Nat→Int) (φ:Nat→List Int→Int) (a b:SE) (t f:Tr) : (Tr.eq a b t f).at η φ=if a.ev η φ=b.ev η φ then t.at η φ else f.at η φ:=by
 rw [Tr.at]
 by_cases h:a.ev η φ=b.ev η φ
 ·rw [if_pos h,show (a.ev η φ == b.ev η φ)=true from by simpa using h]
 ·rw [if_neg h,show (a.ev η φ == b.ev η φ)=false from by simpa using h]
theorem at_lt (η:Nat→Int) (φ:Nat→List Int→Int) (a b:SE) (t f:Tr) : (Tr.lt a b t f).at η φ=if a.ev η φ < b.ev η φ then t.at η φ else f.at η φ:=by
 rw [Tr.at]
 by_cases h:a.ev η φ < b.ev η φ
 ·rw [if_pos h,decide_eq_true h]
 ·rw [if_neg h,decide_eq_false h]
theorem shr_lit (a:Int) (n:Nat) (h:n≤64) : ibin .shr .i64 a (n:Int)=a / 2 ^ n:=by
 have e:ibin .shr .i64 a (n:Int)=a.fdiv (2 ^ (min n 64)):=by
  unfold ibin abin
  simp only
  rw [if_neg (by omega)]
  rfl
 rw [e,Nat.min_eq_left h]
 have e:((2:Int) ^ n)=((2 ^ n:Nat) : Int):=by rw [Int.natCast_pow]; rfl
 rw [e,Int.fdiv_eq_ediv_of_nonneg _ (Int.natCast_nonneg _)]
theorem shr5 (a:Int) : ibin .shr .i64 a 5=a / 32:=shr_lit a 5 (by decide)
theorem shr7 (a:Int) : ibin .shr .i64 a 7=a / 128:=shr_lit a 7 (by decide)
theorem shr10 (a:Int) : ibin .shr .i64 a 10=a / 1024:=shr_lit a 10 (by decide)
theorem shr63 (a:Int) : ibin .shr .i64 a 63=a / 9223372036854775808:=shr_lit a 63 (by decide)
theorem rem_lit (a b:Int) (h:b≠0) : ibin .rem .i64 a b=a.tmod b:=by
 unfold ibin abin
 simp only
 rw [if_neg (by simp),if_neg h]
theorem tmod_zero (a b:Int) : (a.tmod b=0)=(a % b=0):=propext (by rw [← Int.dvd_iff_tmod_eq_zero,Int.dvd_iff_emod_eq_zero])
theorem rem2 (a:Int) : (ibin .rem .i64 a 2=0)=(a % 2=0):=by rw [rem_lit a 2 (by decide),tmod_zero]
theorem rem16 (a:Int) : (ibin .rem .i64 a 16=0)=(a % 16=0):=by rw [rem_lit a 16 (by decide),tmod_zero]
def formsL:List Nat:=("UUJLBBBBBBLLLLLLLSSSSIIIIII666RRRRRRRRRRI555RRRRRRRRRRRRRRRRRRFNNNCCCZZZlAAAAAAAAAAlAAAAAAAAAA".toList).map Char.toNat
def knownI (op:Int) : Bool:=decide (1≤op) && decide (op≤94)
def formI (op:Int) : Nat:=match knownI op with
 | true=>formsL.getD (op - 1).toNat 0
 | false=>0
def inI (lo hi n:Int) : Bool:=decide (lo≤n) && decide (n≤hi)
def regI (has:Bool) (n:Int) : Bool:=match has with
 | true=>inI 0 31 n
 | false=>n == 0
def mayF (form:Nat) (d s t m:Int) : Bool :=
 regI (shapeL form).d d && (regI (shapeL form).s s && (regI (shapeL form).t t && (inI (shapeL form).lo (shapeL form).hi m && m % (shapeL form).by_ == 0)))
def mayI (op d s t m:Int) : Bool:=knownI op && mayF (formI op) d s t m
def forms2:List Nat:=[85,74,76,66,83,73,54,82,53,70,78,67,90,108,65]
theorem regT_at (η:Nat→Int) (φ:Nat→List Int→Int) (has:Bool) (x:SE) (yes no:Tr) : (regT has x yes no).at η φ=match regI has (x.ev η φ) with | true=>yes.at η φ | false=>no.at η φ:=by
 by_cases h0:x.ev η φ=0 <;> by_cases h1:x.ev η φ < 1 <;> by_cases h2:31 < x.ev η φ <;> cases has <;> cases hb:regI _ (x.ev η φ) <;> simp only [regI,inI,Bool.and_eq_true,Bool.and_eq_false_iff,beq_iff_eq,beq_eq_false_iff_ne,ne_eq,decide_eq_true_eq,decide_eq_false_iff_not] at hb <;>
  first
  | (exfalso; omega)
  | (simp only [regT,at_eq,at_lt,ev_lit,h0,h1,h2,if_true,if_false]; done)
  | (simp [regT,at_eq,at_lt,ev_lit,h0,h1,h2]; done)
theorem inT_at (η:Nat→Int) (φ:Nat→List Int→Int) (lo hi:Int) (x:SE) (yes no:Tr) : (inT lo hi x yes no).at η φ=match inI lo hi (x.ev η φ) with | true=>yes.at η φ | false=>no.at η φ:=by
 by_cases h1:x.ev η φ < lo <;> by_cases h2:hi < x.ev η φ <;> cases hb:inI lo hi (x.ev η φ) <;> simp only [inI,Bool.and_eq_true,Bool.and_eq_false_iff,decide_eq_true_eq,decide_eq_false_iff_not] at hb <;>
  first
  | (exfalso; omega)
  | (simp [inT,at_lt,ev_lit,h1,h2]; done)
theorem rightT_at (η:Nat→Int) (φ:Nat→List Int→Int) (has:Bool) (x:SE) (yes no:Tr) : (rightT has x yes no).at η φ=match regI has (x.ev η φ) with | true=>yes.at η φ | false=>no.at η φ:=by
 by_cases h0:x.ev η φ=0 <;> by_cases h1:x.ev η φ < 0 <;> by_cases h2:31 < x.ev η φ <;> cases has <;> cases hb:regI _ (x.ev η φ) <;> simp only [regI,inI,Bool.and_eq_true,Bool.and_eq_false_iff,beq_iff_eq,beq_eq_false_iff_ne,ne_eq,decide_eq_true_eq,decide_eq_false_iff_not] at hb <;>
  first
  | (exfalso; omega)
  | (simp [rightT,at_eq,at_lt,ev_lit,h0,h1,h2]; done)
theorem fit_key (x p Q:Int) (hp:0 < p) (hQ:2*p≤Q) : (x / p=x / Q)↔(-p≤x∧x≤p - 1):=by
 have a1:=Int.mul_ediv_add_emod x p
 have a2:=Int.emod_nonneg x (show p≠0 by omega)
 have a3:=Int.emod_lt_of_pos x hp
 have b1:=Int.mul_ediv_add_emod x Q
 have b2:=Int.emod_nonneg x (show Q≠0 by omega)
 have b3:=Int.emod_lt_of_pos x (show 0 < Q by omega)
 generalize x % p=r at *
 generalize x % Q=s at *
 constructor
 ·intro h
  rw [← h] at b1
  generalize x / p=q at *
  have e:(Q - p)*q=r - s:=by rw [Int.sub_mul]; omega
  by_cases h1:1≤q
  ·have:=Int.mul_le_mul_of_nonneg_left h1 (show 0≤Q - p by omega)
   omega
  ·by_cases h2:q≤-2
   ·have:=Int.mul_le_mul_of_nonneg_left h2 (show 0≤Q - p by omega)
    omega
   ·have h3:q=0∨q = -1:=by omega
    rcases h3 with rfl | rfl <;> omega
 ·intro h
  by_cases h0:0≤x
  ·rw [Int.ediv_eq_zero_of_lt h0 (by omega),Int.ediv_eq_zero_of_lt h0 (by omega)]
  ·have c:∀ d:Int,0 < d→-d≤x→x / d = -1:=by
    intro d hd hx
    have h3:(x+d) / d=0:=Int.ediv_eq_zero_of_lt (by omega) (by omega)
    have h4:=Int.add_mul_ediv_right x 1 (show d≠0 by omega)
    rw [Int.one_mul] at h4
    omega
   rw [c p hp h.1,c Q (by omega) (by omega)]
theorem fitT_at (η:Nat→Int) (φ:Nat→List Int→Int) (k:Nat) (hk:k < 63) (x:SE) (yes no:Tr) : (fitT k x yes no).at η φ=match inI (-(2 ^ k)) (2 ^ k - 1) (x.ev η φ) with | true=>yes.at η φ | false=>no.at η φ:=by
 unfold fitT
 rw [at_eq,ev_bin,ev_bin,ev_lit,ev_lit,shr_lit _ k (by omega),show ((63:Int))=((63:Nat) : Int) from rfl,shr_lit _ 63 (by omega)]
 have hp:(0:Int) < 2 ^ k:=Int.pow_pos (by omega)
 have hle:2*((2:Int) ^ k)≤2 ^ 63:=by
  have:(2:Nat) ^ k≤2 ^ 62:=Nat.pow_le_pow_right (by omega) (by omega)
  have e:((2:Int) ^ k)=((2 ^ k:Nat) : Int):=by rw [Int.natCast_pow]; rfl
  rw [e]; omega
 have key:=fit_key (x.ev η φ) _ _ hp hle
 generalize (2:Int) ^ k=p at *
 cases hb:inI (-p) (p - 1) (x.ev η φ) <;> simp only [inI,Bool.and_eq_true,Bool.and_eq_false_iff,decide_eq_true_eq,decide_eq_false_iff_not] at hb
 ·rw [if_neg (fun h=>by have:=key.1 h; omega)]
 ·rw [if_pos (key.2 (by omega))]
theorem evenT_at (η:Nat→Int) (φ:Nat→List Int→Int) (x:SE) (yes no:Tr) : (evenT x yes no).at η φ=match x.ev η φ % 2 == 0 with | true=>yes.at η φ | false=>no.at η φ:=by
 unfold evenT
 rw [at_eq,ev_bin,ev_lit,ev_lit]
 by_cases h:x.ev η φ % 2=0
 ·rw [if_pos ((rem2 _).mpr h),h]; rfl
 ·rw [if_neg (fun k=>h ((rem2 _).mp k)),show (x.ev η φ % 2 == 0)=false from by simpa using h]
def numI (F:Nat) (m:Int) : Bool:=inI (shapeL F).lo (shapeL F).hi m && m % (shapeL F).by_ == 0
theorem numI_1 (F:Nat) (h:(shapeL F).by_=1) (m:Int) : numI F m=inI (shapeL F).lo (shapeL F).hi m:=by unfold numI; rw [h]; simp [Int.emod_one]
theorem numC_at (F:Nat) (hF:F∈forms2) (η:Nat→Int) (φ:Nat→List Int→Int) (x:SE) (yes no:Tr) :
  (numC x yes no F).at η φ=match numI F (x.ev η φ) with | true=>yes.at η φ | false=>no.at η φ:=by
 simp only [forms2,List.mem_cons,List.not_mem_nil,or_false] at hF
 have f11:inI (-(2 ^ 11)) (2 ^ 11 - 1) (x.ev η φ)=inI (-2048) 2047 (x.ev η φ):=rfl
 have f12:inI (-(2 ^ 12)) (2 ^ 12 - 1) (x.ev η φ)=inI (-4096) 4095 (x.ev η φ):=rfl
 have f20:inI (-(2 ^ 20)) (2 ^ 20 - 1) (x.ev η φ)=inI (-1048576) 1048575 (x.ev η φ):=rfl
 have z:∀ yes no:Tr,(Tr.eq x (.lit 0) yes no).at η φ=match inI 0 0 (x.ev η φ) with | true=>yes.at η φ | false=>no.at η φ:=by
  intro yes no
  rw [at_eq,ev_lit]
  by_cases h:x.ev η φ=0
  ·rw [if_pos h,h]; rfl
  ·rw [if_neg h]
   cases hb:inI 0 0 (x.ev η φ) <;> simp only [inI,Bool.and_eq_true,Bool.and_eq_false_iff,decide_eq_true_eq,decide_eq_false_iff_not] at hb
   ·rfl
   ·exfalso; omega
 have ev2:∀ lo hi:Int,hi % 2=1→(match inI lo hi (x.ev η φ) with | true=>(match x.ev η φ % 2 == 0 with | true=>yes.at η φ | false=>no.at η φ) | false=>no.at η φ) =
   match inI lo (hi - 1) (x.ev η φ) && x.ev η φ % 2 == 0 with | true=>yes.at η φ | false=>no.at η φ:=by
  intro lo hi ho
  cases h2:(x.ev η φ % 2 == 0)
  ·rw [Bool.and_false]; cases inI lo hi (x.ev η φ) <;> rfl
  ·rw [Bool.and_true]
   have:inI lo hi (x.ev η φ)=inI lo (hi - 1) (x.ev η φ):=by
    have h2:x.ev η φ % 2=0:=by simpa using h2
    unfold inI
    congr 1
    exact decide_eq_decide.2 (by omega)
   rw [this]
 rcases hF with rfl | rfl | rfl | rfl | rfl | rfl | rfl | rfl | rfl | rfl | rfl | rfl | rfl | rfl | rfl
 ·exact (inT_at ..).trans (by rw [numI_1 85 rfl]; rfl)
 ·exact (fitT_at η φ 20 (by omega) x _ _).trans (by rw [evenT_at,f20]; exact ev2 _ _ rfl)
 ·exact (fitT_at η φ 11 (by omega) x _ _).trans (by rw [numI_1 76 rfl,f11]; rfl)
 ·exact (fitT_at η φ 12 (by omega) x _ _).trans (by rw [evenT_at,f12]; exact ev2 _ _ rfl)
 ·exact (fitT_at η φ 11 (by omega) x _ _).trans (by rw [numI_1 83 rfl,f11]; rfl)
 ·exact (fitT_at η φ 11 (by omega) x _ _).trans (by rw [numI_1 73 rfl,f11]; rfl)
 ·exact (inT_at ..).trans (by rw [numI_1 54 rfl]; rfl)
 ·exact (z ..).trans (by rw [numI_1 82 rfl]; rfl)
 ·exact (inT_at ..).trans (by rw [numI_1 53 rfl]; rfl)
 ·exact (inT_at ..).trans (by rw [numI_1 70 rfl]; rfl)
 ·exact (z ..).trans (by rw [numI_1 78 rfl]; rfl)
 ·exact (inT_at ..).trans (by rw [numI_1 67 rfl]; rfl)
 ·exact (inT_at ..).trans (by rw [numI_1 90 rfl]; rfl)
 ·exact (inT_at ..).trans (by rw [numI_1 108 rfl]; rfl)
 ·exact (inT_at ..).trans (by rw [numI_1 65 rfl]; rfl)
theorem mayF_eq (F:Nat) (d s t m:Int) : mayF F d s t m=(regI (shapeL F).d d && (regI (shapeL F).s s && (regI (shapeL F).t t && numI F m))):=rfl
theorem checkTr_at (F:Nat) (hF:F∈forms2) (η:Nat→Int) (φ:Nat→List Int→Int) :
  (checkTr F).at η φ=some (.int .i64 (match mayF F (η 0) (η 1) (η 2) (η 3) with | true=>0 | false=>20)):=by
 unfold checkTr
 rw [regT_at,regT_at,regT_at,numC_at F hF η φ (.var 3),mayF_eq]
 simp only [ev_var,lf,at_leaf]
 cases h1:regI (shapeL F).d (η 0) <;> cases h2:regI (shapeL F).s (η 1) <;> cases h3:regI (shapeL F).t (η 2) <;> cases h4:numI F (η 3) <;> rfl
theorem mayTr_at (F:Nat) (hF:F∈forms2) (η:Nat→Int) (φ:Nat→List Int→Int) :
  (mayTr F).at η φ=some (.bool (mayF F (η 0) (η 1) (η 2) (η 3))):=by
 have key:∀ x:SE,(inT (shapeL F).lo (shapeL F).hi x (.eq (.bin .rem .i64 x (.lit (shapeL F).by_)) (.lit 0) (lb true) (lb false)) (lb false)).at η φ=some (.bool (numI F (x.ev η φ))):=by
  intro x
  rw [inT_at,at_eq,ev_bin,ev_lit,ev_lit]
  have hb:(ibin .rem .i64 (x.ev η φ) (shapeL F).by_=0)=(x.ev η φ % (shapeL F).by_=0):=by
   simp only [forms2,List.mem_cons,List.not_mem_nil,or_false] at hF
   have h0:(shapeL F).by_≠0:=by
    rcases hF with rfl | rfl | rfl | rfl | rfl | rfl | rfl | rfl | rfl | rfl | rfl | rfl | rfl | rfl | rfl <;> decide
   rw [rem_lit _ _ h0,tmod_zero]
  unfold numI
  cases h1:inI (shapeL F).lo (shapeL F).hi (x.ev η φ)
  ·rfl
  ·by_cases h2:x.ev η φ % (shapeL F).by_=0
   ·rw [if_pos (hb.mpr h2),h2]; rfl
   ·rw [if_neg (fun h=>h2 (hb.mp h)),show (x.ev η φ % (shapeL F).by_ == 0)=false from by simpa using h2]; rfl
 unfold mayTr
 rw [rightT_at,rightT_at,rightT_at,key,mayF_eq]
 simp only [ev_var,lb,at_leaf]
 cases h1:regI (shapeL F).d (η 0) <;> cases h2:regI (shapeL F).s (η 1) <;> cases h3:regI (shapeL F).t (η 2) <;> rfl
end Go.Proofs.YtoehlmiadiiimaaGreatDoor.Ex

/-
  Half words: what the program reads, whatever their fields are (trees written by a program), and as a plain function.
-/
namespace Go.Proofs.YtoehlmiadiiimaaGreatDoor.Ex
open Go
def wS:SE:=.wrap .u32 (.var 0)
def gT:List Nat→Nat→SE→SE
 | [],_,acc=>acc
 | p :: ps,i,acc=>gT ps (i+1) (.bin .or .u32 acc (.bin .shl .u32 (.bin .and .u32 (.bin .shr .u32 wS (.lit (p:Nat))) (.lit 1)) (.lit (i:Nat))))
def swT:SE:=.bin .or .u32 (.bin .shl .u32 (.bin .and .u32 wS (.lit 3)) (.lit 3)) (.bin .shr .u32 wS (.lit 13))
def whichT:SE:=.bin .or .u32 (.bin .shl .u32 (.bin .and .u32 (.bin .shr .u32 wS (.lit 12)) (.lit 1)) (.lit 2)) (.bin .and .u32 (.bin .shr .u32 wS (.lit 5)) (.lit 3))
def signedL:List (List Nat):=[[2,3,4,5,6,12],[6,2,5,3,4,12],[3,4,5,11,2,7,6,9,10,8,12],[3,4,10,11,2,5,6,12]]
def clsOf (n:Nat) : Nat:=if n < 32 then n else 12
def rawTr:Nat→Tr
 | 0=>(.leaf (.agg [(.int .u8 22),(.sint .i64 (.bin .add .i64 (.bin .and .i64 (.wrap .i64 (.bin .and .u32 (.bin .shr .u32 wS (.lit 2)) (.lit 31))) (.lit 7)) (.lit 8))),(.int .i64 2),(.int .i64 0),(.sint .i64 (.bin .mul .i64 (.lit 4) (.wrap .i64 (gT [6,5,11,12,7,8,9,10] 0 (.lit 0)))))]))
 | 1=>(.leaf (.agg [(.int .u8 0),(.int .i64 0),(.int .i64 0),(.int .i64 0),(.int .i64 0)]))
 | 2=>(.leaf (.agg [(.int .u8 13),(.sint .i64 (.bin .add .i64 (.bin .and .i64 (.wrap .i64 (.bin .and .u32 (.bin .shr .u32 wS (.lit 2)) (.lit 31))) (.lit 7)) (.lit 8))),(.sint .i64 (.bin .add .i64 (.bin .and .i64 (.wrap .i64 (.bin .and .u32 (.bin .shr .u32 wS (.lit 7)) (.lit 31))) (.lit 7)) (.lit 8))),(.int .i64 0),(.sint .i64 (.bin .mul .i64 (.lit 4) (.wrap .i64 (gT [6,10,11,12,5] 0 (.lit 0)))))]))
 | 3=>(.leaf (.agg [(.int .u8 14),(.sint .i64 (.bin .add .i64 (.bin .and .i64 (.wrap .i64 (.bin .and .u32 (.bin .shr .u32 wS (.lit 2)) (.lit 31))) (.lit 7)) (.lit 8))),(.sint .i64 (.bin .add .i64 (.bin .and .i64 (.wrap .i64 (.bin .and .u32 (.bin .shr .u32 wS (.lit 7)) (.lit 31))) (.lit 7)) (.lit 8))),(.int .i64 0),(.sint .i64 (.bin .mul .i64 (.lit 8) (.wrap .i64 (gT [10,11,12,5,6] 0 (.lit 0)))))]))
 | 4=>(.leaf (.agg [(.int .u8 0),(.int .i64 0),(.int .i64 0),(.int .i64 0),(.int .i64 0)]))
 | 5=>(.leaf (.agg [(.int .u8 0),(.int .i64 0),(.int .i64 0),(.int .i64 0),(.int .i64 0)]))
 | 6=>(.leaf (.agg [(.int .u8 20),(.int .i64 0),(.sint .i64 (.bin .add .i64 (.bin .and .i64 (.wrap .i64 (.bin .and .u32 (.bin .shr .u32 wS (.lit 7)) (.lit 31))) (.lit 7)) (.lit 8))),(.sint .i64 (.bin .add .i64 (.bin .and .i64 (.wrap .i64 (.bin .and .u32 (.bin .shr .u32 wS (.lit 2)) (.lit 31))) (.lit 7)) (.lit 8))),(.sint .i64 (.bin .mul .i64 (.lit 4) (.wrap .i64 (gT [6,10,11,12,5] 0 (.lit 0)))))]))
 | 7=>(.leaf (.agg [(.int .u8 21),(.int .i64 0),(.sint .i64 (.bin .add .i64 (.bin .and .i64 (.wrap .i64 (.bin .and .u32 (.bin .shr .u32 wS (.lit 7)) (.lit 31))) (.lit 7)) (.lit 8))),(.sint .i64 (.bin .add .i64 (.bin .and .i64 (.wrap .i64 (.bin .and .u32 (.bin .shr .u32 wS (.lit 2)) (.lit 31))) (.lit 7)) (.lit 8))),(.sint .i64 (.bin .mul .i64 (.lit 8) (.wrap .i64 (gT [10,11,12,5,6] 0 (.lit 0)))))]))
 | 8=>(.leaf (.agg [(.int .u8 22),(.sint .i64 (.wrap .i64 (.bin .and .u32 (.bin .shr .u32 wS (.lit 7)) (.lit 31)))),(.sint .i64 (.wrap .i64 (.bin .and .u32 (.bin .shr .u32 wS (.lit 7)) (.lit 31)))),(.int .i64 0),(.sint .i64 (.wrap .i64 (.bin .shr .i32 (.wrap .i32 (.bin .shl .u32 (gT [2,3,4,5,6,12] 0 (.lit 0)) (.lit 26))) (.lit 26))))]))
 | 9=>(.leaf (.agg [(.int .u8 41),(.sint .i64 (.wrap .i64 (.bin .and .u32 (.bin .shr .u32 wS (.lit 7)) (.lit 31)))),(.sint .i64 (.wrap .i64 (.bin .and .u32 (.bin .shr .u32 wS (.lit 7)) (.lit 31)))),(.int .i64 0),(.sint .i64 (.wrap .i64 (.bin .shr .i32 (.wrap .i32 (.bin .shl .u32 (gT [2,3,4,5,6,12] 0 (.lit 0)) (.lit 26))) (.lit 26))))]))
 | 10=>(.leaf (.agg [(.int .u8 22),(.sint .i64 (.wrap .i64 (.bin .and .u32 (.bin .shr .u32 wS (.lit 7)) (.lit 31)))),(.int .i64 0),(.int .i64 0),(.sint .i64 (.wrap .i64 (.bin .shr .i32 (.wrap .i32 (.bin .shl .u32 (gT [2,3,4,5,6,12] 0 (.lit 0)) (.lit 26))) (.lit 26))))]))
 | 11=>(.eq (.wrap .i64 (.bin .and .u32 (.bin .shr .u32 wS (.lit 7)) (.lit 31))) (.lit 2)
  (.leaf (.agg [(.int .u8 22),(.int .i64 2),(.int .i64 2),(.int .i64 0),(.sint .i64 (.bin .mul .i64 (.lit 16) (.wrap .i64 (.bin .shr .i32 (.wrap .i32 (.bin .shl .u32 (gT [6,2,5,3,4,12] 0 (.lit 0)) (.lit 26))) (.lit 26)))))]))
  (.leaf (.agg [(.int .u8 1),(.sint .i64 (.wrap .i64 (.bin .and .u32 (.bin .shr .u32 wS (.lit 7)) (.lit 31)))),(.int .i64 0),(.int .i64 0),(.sint .i64 (.bin .and .i64 (.wrap .i64 (.bin .shr .i32 (.wrap .i32 (.bin .shl .u32 (gT [2,3,4,5,6,12] 0 (.lit 0)) (.lit 26))) (.lit 26))) (.lit 1048575)))])))
 | 12=>(.eq (.bin .and .u32 (.bin .shr .u32 wS (.lit 10)) (.lit 3)) (.lit 0)
  (.leaf (.agg [(.int .u8 29),(.sint .i64 (.bin .add .i64 (.bin .and .i64 (.wrap .i64 (.bin .and .u32 (.bin .shr .u32 wS (.lit 7)) (.lit 31))) (.lit 7)) (.lit 8))),(.sint .i64 (.bin .add .i64 (.bin .and .i64 (.wrap .i64 (.bin .and .u32 (.bin .shr .u32 wS (.lit 7)) (.lit 31))) (.lit 7)) (.lit 8))),(.int .i64 0),(.sint .i64 (.wrap .i64 (gT [2,3,4,5,6,12] 0 (.lit 0))))]))
  (.eq (.bin .and .u32 (.bin .shr .u32 wS (.lit 10)) (.lit 3)) (.lit 1)
  (.leaf (.agg [(.int .u8 30),(.sint .i64 (.bin .add .i64 (.bin .and .i64 (.wrap .i64 (.bin .and .u32 (.bin .shr .u32 wS (.lit 7)) (.lit 31))) (.lit 7)) (.lit 8))),(.sint .i64 (.bin .add .i64 (.bin .and .i64 (.wrap .i64 (.bin .and .u32 (.bin .shr .u32 wS (.lit 7)) (.lit 31))) (.lit 7)) (.lit 8))),(.int .i64 0),(.sint .i64 (.wrap .i64 (gT [2,3,4,5,6,12] 0 (.lit 0))))]))
  (.eq (.bin .and .u32 (.bin .shr .u32 wS (.lit 10)) (.lit 3)) (.lit 2)
  (.leaf (.agg [(.int .u8 27),(.sint .i64 (.bin .add .i64 (.bin .and .i64 (.wrap .i64 (.bin .and .u32 (.bin .shr .u32 wS (.lit 7)) (.lit 31))) (.lit 7)) (.lit 8))),(.sint .i64 (.bin .add .i64 (.bin .and .i64 (.wrap .i64 (.bin .and .u32 (.bin .shr .u32 wS (.lit 7)) (.lit 31))) (.lit 7)) (.lit 8))),(.int .i64 0),(.sint .i64 (.wrap .i64 (.bin .shr .i32 (.wrap .i32 (.bin .shl .u32 (gT [2,3,4,5,6,12] 0 (.lit 0)) (.lit 26))) (.lit 26))))]))
  (.leaf (.agg [(.int .u8 32),(.sint .i64 (.bin .add .i64 (.bin .and .i64 (.wrap .i64 (.bin .and .u32 (.bin .shr .u32 wS (.lit 7)) (.lit 31))) (.lit 7)) (.lit 8))),(.sint .i64 (.bin .add .i64 (.bin .and .i64 (.wrap .i64 (.bin .and .u32 (.bin .shr .u32 wS (.lit 7)) (.lit 31))) (.lit 7)) (.lit 8))),(.sint .i64 (.bin .add .i64 (.bin .and .i64 (.wrap .i64 (.bin .and .u32 (.bin .shr .u32 wS (.lit 2)) (.lit 31))) (.lit 7)) (.lit 8))),(.int .i64 0)])))))
 | 13=>(.leaf (.agg [(.int .u8 3),(.int .i64 0),(.int .i64 0),(.int .i64 0),(.sint .i64 (.bin .mul .i64 (.lit 2) (.wrap .i64 (.bin .shr .i32 (.wrap .i32 (.bin .shl .u32 (gT [3,4,5,11,2,7,6,9,10,8,12] 0 (.lit 0)) (.lit 21))) (.lit 21)))))]))
 | 14=>(.eq (.bin .and .u32 (.bin .shr .u32 wS (.lit 13)) (.lit 1)) (.lit 1)
  (.leaf (.agg [(.int .u8 6),(.int .i64 0),(.sint .i64 (.bin .add .i64 (.bin .and .i64 (.wrap .i64 (.bin .and .u32 (.bin .shr .u32 wS (.lit 7)) (.lit 31))) (.lit 7)) (.lit 8))),(.int .i64 0),(.sint .i64 (.bin .mul .i64 (.lit 2) (.wrap .i64 (.bin .shr .i32 (.wrap .i32 (.bin .shl .u32 (gT [3,4,10,11,2,5,6,12] 0 (.lit 0)) (.lit 24))) (.lit 24)))))]))
  (.leaf (.agg [(.int .u8 5),(.int .i64 0),(.sint .i64 (.bin .add .i64 (.bin .and .i64 (.wrap .i64 (.bin .and .u32 (.bin .shr .u32 wS (.lit 7)) (.lit 31))) (.lit 7)) (.lit 8))),(.int .i64 0),(.sint .i64 (.bin .mul .i64 (.lit 2) (.wrap .i64 (.bin .shr .i32 (.wrap .i32 (.bin .shl .u32 (gT [3,4,10,11,2,5,6,12] 0 (.lit 0)) (.lit 24))) (.lit 24)))))])))
 | 15=>(.eq (.bin .and .u32 (.bin .shr .u32 wS (.lit 13)) (.lit 1)) (.lit 1)
  (.leaf (.agg [(.int .u8 6),(.int .i64 0),(.sint .i64 (.bin .add .i64 (.bin .and .i64 (.wrap .i64 (.bin .and .u32 (.bin .shr .u32 wS (.lit 7)) (.lit 31))) (.lit 7)) (.lit 8))),(.int .i64 0),(.sint .i64 (.bin .mul .i64 (.lit 2) (.wrap .i64 (.bin .shr .i32 (.wrap .i32 (.bin .shl .u32 (gT [3,4,10,11,2,5,6,12] 0 (.lit 0)) (.lit 24))) (.lit 24)))))]))
  (.leaf (.agg [(.int .u8 5),(.int .i64 0),(.sint .i64 (.bin .add .i64 (.bin .and .i64 (.wrap .i64 (.bin .and .u32 (.bin .shr .u32 wS (.lit 7)) (.lit 31))) (.lit 7)) (.lit 8))),(.int .i64 0),(.sint .i64 (.bin .mul .i64 (.lit 2) (.wrap .i64 (.bin .shr .i32 (.wrap .i32 (.bin .shl .u32 (gT [3,4,10,11,2,5,6,12] 0 (.lit 0)) (.lit 24))) (.lit 24)))))])))
 | 16=>(.leaf (.agg [(.int .u8 28),(.sint .i64 (.wrap .i64 (.bin .and .u32 (.bin .shr .u32 wS (.lit 7)) (.lit 31)))),(.sint .i64 (.wrap .i64 (.bin .and .u32 (.bin .shr .u32 wS (.lit 7)) (.lit 31)))),(.int .i64 0),(.sint .i64 (.wrap .i64 (gT [2,3,4,5,6,12] 0 (.lit 0))))]))
 | 17=>(.leaf (.agg [(.int .u8 0),(.int .i64 0),(.int .i64 0),(.int .i64 0),(.int .i64 0)]))
 | 18=>(.leaf (.agg [(.int .u8 13),(.sint .i64 (.wrap .i64 (.bin .and .u32 (.bin .shr .u32 wS (.lit 7)) (.lit 31)))),(.int .i64 2),(.int .i64 0),(.sint .i64 (.bin .mul .i64 (.lit 4) (.wrap .i64 (gT [4,5,6,12,2,3] 0 (.lit 0)))))]))
 | 19=>(.leaf (.agg [(.int .u8 14),(.sint .i64 (.wrap .i64 (.bin .and .u32 (.bin .shr .u32 wS (.lit 7)) (.lit 31)))),(.int .i64 2),(.int .i64 0),(.sint .i64 (.bin .mul .i64 (.lit 8) (.wrap .i64 (gT [5,6,12,2,3,4] 0 (.lit 0)))))]))
 | 20=>(.eq (.wrap .i64 (.bin .and .u32 (.bin .shr .u32 wS (.lit 2)) (.lit 31))) (.lit 0)
  (.eq (.wrap .i64 (.bin .and .u32 (.bin .shr .u32 wS (.lit 7)) (.lit 31))) (.lit 0)
  (.eq (.bin .and .u32 (.bin .shr .u32 wS (.lit 12)) (.lit 1)) (.lit 1)
  (.leaf (.agg [(.int .u8 66),(.int .i64 0),(.int .i64 0),(.int .i64 0),(.int .i64 0)]))
  (.leaf (.agg [(.int .u8 4),(.sint .i64 (.wrap .i64 (.bin .and .u32 (.bin .shr .u32 wS (.lit 12)) (.lit 1)))),(.sint .i64 (.wrap .i64 (.bin .and .u32 (.bin .shr .u32 wS (.lit 7)) (.lit 31)))),(.int .i64 0),(.int .i64 0)])))
  (.leaf (.agg [(.int .u8 4),(.sint .i64 (.wrap .i64 (.bin .and .u32 (.bin .shr .u32 wS (.lit 12)) (.lit 1)))),(.sint .i64 (.wrap .i64 (.bin .and .u32 (.bin .shr .u32 wS (.lit 7)) (.lit 31)))),(.int .i64 0),(.int .i64 0)])))
  (.eq (.bin .and .u32 (.bin .shr .u32 wS (.lit 12)) (.lit 1)) (.lit 0)
  (.leaf (.agg [(.int .u8 31),(.sint .i64 (.wrap .i64 (.bin .and .u32 (.bin .shr .u32 wS (.lit 7)) (.lit 31)))),(.int .i64 0),(.sint .i64 (.wrap .i64 (.bin .and .u32 (.bin .shr .u32 wS (.lit 2)) (.lit 31)))),(.int .i64 0)]))
  (.leaf (.agg [(.int .u8 31),(.sint .i64 (.wrap .i64 (.bin .and .u32 (.bin .shr .u32 wS (.lit 7)) (.lit 31)))),(.sint .i64 (.wrap .i64 (.bin .and .u32 (.bin .shr .u32 wS (.lit 7)) (.lit 31)))),(.sint .i64 (.wrap .i64 (.bin .and .u32 (.bin .shr .u32 wS (.lit 2)) (.lit 31)))),(.int .i64 0)]))))
 | 21=>(.leaf (.agg [(.int .u8 0),(.int .i64 0),(.int .i64 0),(.int .i64 0),(.int .i64 0)]))
 | 22=>(.leaf (.agg [(.int .u8 20),(.int .i64 0),(.int .i64 2),(.sint .i64 (.wrap .i64 (.bin .and .u32 (.bin .shr .u32 wS (.lit 2)) (.lit 31)))),(.sint .i64 (.bin .mul .i64 (.lit 4) (.wrap .i64 (gT [9,10,11,12,7,8] 0 (.lit 0)))))]))
 | 23=>(.leaf (.agg [(.int .u8 21),(.int .i64 0),(.int .i64 2),(.sint .i64 (.wrap .i64 (.bin .and .u32 (.bin .shr .u32 wS (.lit 2)) (.lit 31)))),(.sint .i64 (.bin .mul .i64 (.lit 8) (.wrap .i64 (gT [10,11,12,7,8,9] 0 (.lit 0)))))]))
 | 24=>(.leaf (.agg [(.int .u8 0),(.int .i64 0),(.int .i64 0),(.int .i64 0),(.int .i64 0)]))
 | 25=>(.leaf (.agg [(.int .u8 0),(.int .i64 0),(.int .i64 0),(.int .i64 0),(.int .i64 0)]))
 | 26=>(.leaf (.agg [(.int .u8 0),(.int .i64 0),(.int .i64 0),(.int .i64 0),(.int .i64 0)]))
 | 27=>(.leaf (.agg [(.int .u8 0),(.int .i64 0),(.int .i64 0),(.int .i64 0),(.int .i64 0)]))
 | 28=>(.leaf (.agg [(.int .u8 0),(.int .i64 0),(.int .i64 0),(.int .i64 0),(.int .i64 0)]))
 | 29=>(.leaf (.agg [(.int .u8 0),(.int .i64 0),(.int .i64 0),(.int .i64 0),(.int .i64 0)]))
 | 30=>(.leaf (.agg [(.int .u8 0),(.int .i64 0),(.int .i64 0),(.int .i64 0),(.int .i64 0)]))
 | 31=>(.leaf (.agg [(.int .u8 0),(.int .i64 0),(.int .i64 0),(.int .i64 0),(.int .i64 0)]))
 | 32=>(.eq (.bin .and .u32 (.bin .shr .u32 wS (.lit 10)) (.lit 3)) (.lit 0)
  (.leaf (.agg [(.int .u8 29),(.sint .i64 (.bin .add .i64 (.bin .and .i64 (.wrap .i64 (.bin .and .u32 (.bin .shr .u32 wS (.lit 7)) (.lit 31))) (.lit 7)) (.lit 8))),(.sint .i64 (.bin .add .i64 (.bin .and .i64 (.wrap .i64 (.bin .and .u32 (.bin .shr .u32 wS (.lit 7)) (.lit 31))) (.lit 7)) (.lit 8))),(.int .i64 0),(.sint .i64 (.wrap .i64 (gT [2,3,4,5,6,12] 0 (.lit 0))))]))
  (.eq (.bin .and .u32 (.bin .shr .u32 wS (.lit 10)) (.lit 3)) (.lit 1)
  (.leaf (.agg [(.int .u8 30),(.sint .i64 (.bin .add .i64 (.bin .and .i64 (.wrap .i64 (.bin .and .u32 (.bin .shr .u32 wS (.lit 7)) (.lit 31))) (.lit 7)) (.lit 8))),(.sint .i64 (.bin .add .i64 (.bin .and .i64 (.wrap .i64 (.bin .and .u32 (.bin .shr .u32 wS (.lit 7)) (.lit 31))) (.lit 7)) (.lit 8))),(.int .i64 0),(.sint .i64 (.wrap .i64 (gT [2,3,4,5,6,12] 0 (.lit 0))))]))
  (.eq (.bin .and .u32 (.bin .shr .u32 wS (.lit 10)) (.lit 3)) (.lit 2)
  (.leaf (.agg [(.int .u8 27),(.sint .i64 (.bin .add .i64 (.bin .and .i64 (.wrap .i64 (.bin .and .u32 (.bin .shr .u32 wS (.lit 7)) (.lit 31))) (.lit 7)) (.lit 8))),(.sint .i64 (.bin .add .i64 (.bin .and .i64 (.wrap .i64 (.bin .and .u32 (.bin .shr .u32 wS (.lit 7)) (.lit 31))) (.lit 7)) (.lit 8))),(.int .i64 0),(.sint .i64 (.wrap .i64 (.bin .shr .i32 (.wrap .i32 (.bin .shl .u32 (gT [2,3,4,5,6,12] 0 (.lit 0)) (.lit 26))) (.lit 26))))]))
  (.leaf (.agg [(.int .u8 36),(.sint .i64 (.bin .add .i64 (.bin .and .i64 (.wrap .i64 (.bin .and .u32 (.bin .shr .u32 wS (.lit 7)) (.lit 31))) (.lit 7)) (.lit 8))),(.sint .i64 (.bin .add .i64 (.bin .and .i64 (.wrap .i64 (.bin .and .u32 (.bin .shr .u32 wS (.lit 7)) (.lit 31))) (.lit 7)) (.lit 8))),(.sint .i64 (.bin .add .i64 (.bin .and .i64 (.wrap .i64 (.bin .and .u32 (.bin .shr .u32 wS (.lit 2)) (.lit 31))) (.lit 7)) (.lit 8))),(.int .i64 0)])))))
 | 33=>(.eq (.bin .and .u32 (.bin .shr .u32 wS (.lit 10)) (.lit 3)) (.lit 0)
  (.leaf (.agg [(.int .u8 29),(.sint .i64 (.bin .add .i64 (.bin .and .i64 (.wrap .i64 (.bin .and .u32 (.bin .shr .u32 wS (.lit 7)) (.lit 31))) (.lit 7)) (.lit 8))),(.sint .i64 (.bin .add .i64 (.bin .and .i64 (.wrap .i64 (.bin .and .u32 (.bin .shr .u32 wS (.lit 7)) (.lit 31))) (.lit 7)) (.lit 8))),(.int .i64 0),(.sint .i64 (.wrap .i64 (gT [2,3,4,5,6,12] 0 (.lit 0))))]))
  (.eq (.bin .and .u32 (.bin .shr .u32 wS (.lit 10)) (.lit 3)) (.lit 1)
  (.leaf (.agg [(.int .u8 30),(.sint .i64 (.bin .add .i64 (.bin .and .i64 (.wrap .i64 (.bin .and .u32 (.bin .shr .u32 wS (.lit 7)) (.lit 31))) (.lit 7)) (.lit 8))),(.sint .i64 (.bin .add .i64 (.bin .and .i64 (.wrap .i64 (.bin .and .u32 (.bin .shr .u32 wS (.lit 7)) (.lit 31))) (.lit 7)) (.lit 8))),(.int .i64 0),(.sint .i64 (.wrap .i64 (gT [2,3,4,5,6,12] 0 (.lit 0))))]))
  (.eq (.bin .and .u32 (.bin .shr .u32 wS (.lit 10)) (.lit 3)) (.lit 2)
  (.leaf (.agg [(.int .u8 27),(.sint .i64 (.bin .add .i64 (.bin .and .i64 (.wrap .i64 (.bin .and .u32 (.bin .shr .u32 wS (.lit 7)) (.lit 31))) (.lit 7)) (.lit 8))),(.sint .i64 (.bin .add .i64 (.bin .and .i64 (.wrap .i64 (.bin .and .u32 (.bin .shr .u32 wS (.lit 7)) (.lit 31))) (.lit 7)) (.lit 8))),(.int .i64 0),(.sint .i64 (.wrap .i64 (.bin .shr .i32 (.wrap .i32 (.bin .shl .u32 (gT [2,3,4,5,6,12] 0 (.lit 0)) (.lit 26))) (.lit 26))))]))
  (.leaf (.agg [(.int .u8 39),(.sint .i64 (.bin .add .i64 (.bin .and .i64 (.wrap .i64 (.bin .and .u32 (.bin .shr .u32 wS (.lit 7)) (.lit 31))) (.lit 7)) (.lit 8))),(.sint .i64 (.bin .add .i64 (.bin .and .i64 (.wrap .i64 (.bin .and .u32 (.bin .shr .u32 wS (.lit 7)) (.lit 31))) (.lit 7)) (.lit 8))),(.sint .i64 (.bin .add .i64 (.bin .and .i64 (.wrap .i64 (.bin .and .u32 (.bin .shr .u32 wS (.lit 2)) (.lit 31))) (.lit 7)) (.lit 8))),(.int .i64 0)])))))
 | 34=>(.eq (.bin .and .u32 (.bin .shr .u32 wS (.lit 10)) (.lit 3)) (.lit 0)
  (.leaf (.agg [(.int .u8 29),(.sint .i64 (.bin .add .i64 (.bin .and .i64 (.wrap .i64 (.bin .and .u32 (.bin .shr .u32 wS (.lit 7)) (.lit 31))) (.lit 7)) (.lit 8))),(.sint .i64 (.bin .add .i64 (.bin .and .i64 (.wrap .i64 (.bin .and .u32 (.bin .shr .u32 wS (.lit 7)) (.lit 31))) (.lit 7)) (.lit 8))),(.int .i64 0),(.sint .i64 (.wrap .i64 (gT [2,3,4,5,6,12] 0 (.lit 0))))]))
  (.eq (.bin .and .u32 (.bin .shr .u32 wS (.lit 10)) (.lit 3)) (.lit 1)
  (.leaf (.agg [(.int .u8 30),(.sint .i64 (.bin .add .i64 (.bin .and .i64 (.wrap .i64 (.bin .and .u32 (.bin .shr .u32 wS (.lit 7)) (.lit 31))) (.lit 7)) (.lit 8))),(.sint .i64 (.bin .add .i64 (.bin .and .i64 (.wrap .i64 (.bin .and .u32 (.bin .shr .u32 wS (.lit 7)) (.lit 31))) (.lit 7)) (.lit 8))),(.int .i64 0),(.sint .i64 (.wrap .i64 (gT [2,3,4,5,6,12] 0 (.lit 0))))]))
  (.eq (.bin .and .u32 (.bin .shr .u32 wS (.lit 10)) (.lit 3)) (.lit 2)
  (.leaf (.agg [(.int .u8 27),(.sint .i64 (.bin .add .i64 (.bin .and .i64 (.wrap .i64 (.bin .and .u32 (.bin .shr .u32 wS (.lit 7)) (.lit 31))) (.lit 7)) (.lit 8))),(.sint .i64 (.bin .add .i64 (.bin .and .i64 (.wrap .i64 (.bin .and .u32 (.bin .shr .u32 wS (.lit 7)) (.lit 31))) (.lit 7)) (.lit 8))),(.int .i64 0),(.sint .i64 (.wrap .i64 (.bin .shr .i32 (.wrap .i32 (.bin .shl .u32 (gT [2,3,4,5,6,12] 0 (.lit 0)) (.lit 26))) (.lit 26))))]))
  (.leaf (.agg [(.int .u8 40),(.sint .i64 (.bin .add .i64 (.bin .and .i64 (.wrap .i64 (.bin .and .u32 (.bin .shr .u32 wS (.lit 7)) (.lit 31))) (.lit 7)) (.lit 8))),(.sint .i64 (.bin .add .i64 (.bin .and .i64 (.wrap .i64 (.bin .and .u32 (.bin .shr .u32 wS (.lit 7)) (.lit 31))) (.lit 7)) (.lit 8))),(.sint .i64 (.bin .add .i64 (.bin .and .i64 (.wrap .i64 (.bin .and .u32 (.bin .shr .u32 wS (.lit 2)) (.lit 31))) (.lit 7)) (.lit 8))),(.int .i64 0)])))))
 | 35=>(.eq (.bin .and .u32 (.bin .shr .u32 wS (.lit 10)) (.lit 3)) (.lit 0)
  (.leaf (.agg [(.int .u8 29),(.sint .i64 (.bin .add .i64 (.bin .and .i64 (.wrap .i64 (.bin .and .u32 (.bin .shr .u32 wS (.lit 7)) (.lit 31))) (.lit 7)) (.lit 8))),(.sint .i64 (.bin .add .i64 (.bin .and .i64 (.wrap .i64 (.bin .and .u32 (.bin .shr .u32 wS (.lit 7)) (.lit 31))) (.lit 7)) (.lit 8))),(.int .i64 0),(.sint .i64 (.wrap .i64 (gT [2,3,4,5,6,12] 0 (.lit 0))))]))
  (.eq (.bin .and .u32 (.bin .shr .u32 wS (.lit 10)) (.lit 3)) (.lit 1)
  (.leaf (.agg [(.int .u8 30),(.sint .i64 (.bin .add .i64 (.bin .and .i64 (.wrap .i64 (.bin .and .u32 (.bin .shr .u32 wS (.lit 7)) (.lit 31))) (.lit 7)) (.lit 8))),(.sint .i64 (.bin .add .i64 (.bin .and .i64 (.wrap .i64 (.bin .and .u32 (.bin .shr .u32 wS (.lit 7)) (.lit 31))) (.lit 7)) (.lit 8))),(.int .i64 0),(.sint .i64 (.wrap .i64 (gT [2,3,4,5,6,12] 0 (.lit 0))))]))
  (.eq (.bin .and .u32 (.bin .shr .u32 wS (.lit 10)) (.lit 3)) (.lit 2)
  (.leaf (.agg [(.int .u8 27),(.sint .i64 (.bin .add .i64 (.bin .and .i64 (.wrap .i64 (.bin .and .u32 (.bin .shr .u32 wS (.lit 7)) (.lit 31))) (.lit 7)) (.lit 8))),(.sint .i64 (.bin .add .i64 (.bin .and .i64 (.wrap .i64 (.bin .and .u32 (.bin .shr .u32 wS (.lit 7)) (.lit 31))) (.lit 7)) (.lit 8))),(.int .i64 0),(.sint .i64 (.wrap .i64 (.bin .shr .i32 (.wrap .i32 (.bin .shl .u32 (gT [2,3,4,5,6,12] 0 (.lit 0)) (.lit 26))) (.lit 26))))]))
  (.leaf (.agg [(.int .u8 46),(.sint .i64 (.bin .add .i64 (.bin .and .i64 (.wrap .i64 (.bin .and .u32 (.bin .shr .u32 wS (.lit 7)) (.lit 31))) (.lit 7)) (.lit 8))),(.sint .i64 (.bin .add .i64 (.bin .and .i64 (.wrap .i64 (.bin .and .u32 (.bin .shr .u32 wS (.lit 7)) (.lit 31))) (.lit 7)) (.lit 8))),(.sint .i64 (.bin .add .i64 (.bin .and .i64 (.wrap .i64 (.bin .and .u32 (.bin .shr .u32 wS (.lit 2)) (.lit 31))) (.lit 7)) (.lit 8))),(.int .i64 0)])))))
 | 36=>(.eq (.bin .and .u32 (.bin .shr .u32 wS (.lit 10)) (.lit 3)) (.lit 0)
  (.leaf (.agg [(.int .u8 29),(.sint .i64 (.bin .add .i64 (.bin .and .i64 (.wrap .i64 (.bin .and .u32 (.bin .shr .u32 wS (.lit 7)) (.lit 31))) (.lit 7)) (.lit 8))),(.sint .i64 (.bin .add .i64 (.bin .and .i64 (.wrap .i64 (.bin .and .u32 (.bin .shr .u32 wS (.lit 7)) (.lit 31))) (.lit 7)) (.lit 8))),(.int .i64 0),(.sint .i64 (.wrap .i64 (gT [2,3,4,5,6,12] 0 (.lit 0))))]))
  (.eq (.bin .and .u32 (.bin .shr .u32 wS (.lit 10)) (.lit 3)) (.lit 1)
  (.leaf (.agg [(.int .u8 30),(.sint .i64 (.bin .add .i64 (.bin .and .i64 (.wrap .i64 (.bin .and .u32 (.bin .shr .u32 wS (.lit 7)) (.lit 31))) (.lit 7)) (.lit 8))),(.sint .i64 (.bin .add .i64 (.bin .and .i64 (.wrap .i64 (.bin .and .u32 (.bin .shr .u32 wS (.lit 7)) (.lit 31))) (.lit 7)) (.lit 8))),(.int .i64 0),(.sint .i64 (.wrap .i64 (gT [2,3,4,5,6,12] 0 (.lit 0))))]))
  (.eq (.bin .and .u32 (.bin .shr .u32 wS (.lit 10)) (.lit 3)) (.lit 2)
  (.leaf (.agg [(.int .u8 27),(.sint .i64 (.bin .add .i64 (.bin .and .i64 (.wrap .i64 (.bin .and .u32 (.bin .shr .u32 wS (.lit 7)) (.lit 31))) (.lit 7)) (.lit 8))),(.sint .i64 (.bin .add .i64 (.bin .and .i64 (.wrap .i64 (.bin .and .u32 (.bin .shr .u32 wS (.lit 7)) (.lit 31))) (.lit 7)) (.lit 8))),(.int .i64 0),(.sint .i64 (.wrap .i64 (.bin .shr .i32 (.wrap .i32 (.bin .shl .u32 (gT [2,3,4,5,6,12] 0 (.lit 0)) (.lit 26))) (.lit 26))))]))
  (.leaf (.agg [(.int .u8 45),(.sint .i64 (.bin .add .i64 (.bin .and .i64 (.wrap .i64 (.bin .and .u32 (.bin .shr .u32 wS (.lit 7)) (.lit 31))) (.lit 7)) (.lit 8))),(.sint .i64 (.bin .add .i64 (.bin .and .i64 (.wrap .i64 (.bin .and .u32 (.bin .shr .u32 wS (.lit 7)) (.lit 31))) (.lit 7)) (.lit 8))),(.sint .i64 (.bin .add .i64 (.bin .and .i64 (.wrap .i64 (.bin .and .u32 (.bin .shr .u32 wS (.lit 2)) (.lit 31))) (.lit 7)) (.lit 8))),(.int .i64 0)])))))
 | 37=>(.eq (.bin .and .u32 (.bin .shr .u32 wS (.lit 10)) (.lit 3)) (.lit 0)
  (.leaf (.agg [(.int .u8 29),(.sint .i64 (.bin .add .i64 (.bin .and .i64 (.wrap .i64 (.bin .and .u32 (.bin .shr .u32 wS (.lit 7)) (.lit 31))) (.lit 7)) (.lit 8))),(.sint .i64 (.bin .add .i64 (.bin .and .i64 (.wrap .i64 (.bin .and .u32 (.bin .shr .u32 wS (.lit 7)) (.lit 31))) (.lit 7)) (.lit 8))),(.int .i64 0),(.sint .i64 (.wrap .i64 (gT [2,3,4,5,6,12] 0 (.lit 0))))]))
  (.eq (.bin .and .u32 (.bin .shr .u32 wS (.lit 10)) (.lit 3)) (.lit 1)
  (.leaf (.agg [(.int .u8 30),(.sint .i64 (.bin .add .i64 (.bin .and .i64 (.wrap .i64 (.bin .and .u32 (.bin .shr .u32 wS (.lit 7)) (.lit 31))) (.lit 7)) (.lit 8))),(.sint .i64 (.bin .add .i64 (.bin .and .i64 (.wrap .i64 (.bin .and .u32 (.bin .shr .u32 wS (.lit 7)) (.lit 31))) (.lit 7)) (.lit 8))),(.int .i64 0),(.sint .i64 (.wrap .i64 (gT [2,3,4,5,6,12] 0 (.lit 0))))]))
  (.eq (.bin .and .u32 (.bin .shr .u32 wS (.lit 10)) (.lit 3)) (.lit 2)
  (.leaf (.agg [(.int .u8 27),(.sint .i64 (.bin .add .i64 (.bin .and .i64 (.wrap .i64 (.bin .and .u32 (.bin .shr .u32 wS (.lit 7)) (.lit 31))) (.lit 7)) (.lit 8))),(.sint .i64 (.bin .add .i64 (.bin .and .i64 (.wrap .i64 (.bin .and .u32 (.bin .shr .u32 wS (.lit 7)) (.lit 31))) (.lit 7)) (.lit 8))),(.int .i64 0),(.sint .i64 (.wrap .i64 (.bin .shr .i32 (.wrap .i32 (.bin .shl .u32 (gT [2,3,4,5,6,12] 0 (.lit 0)) (.lit 26))) (.lit 26))))]))
  (.leaf (.agg [(.int .u8 0),(.int .i64 0),(.int .i64 0),(.int .i64 0),(.int .i64 0)])))))
 | 38=>(.eq (.bin .and .u32 (.bin .shr .u32 wS (.lit 10)) (.lit 3)) (.lit 0)
  (.leaf (.agg [(.int .u8 29),(.sint .i64 (.bin .add .i64 (.bin .and .i64 (.wrap .i64 (.bin .and .u32 (.bin .shr .u32 wS (.lit 7)) (.lit 31))) (.lit 7)) (.lit 8))),(.sint .i64 (.bin .add .i64 (.bin .and .i64 (.wrap .i64 (.bin .and .u32 (.bin .shr .u32 wS (.lit 7)) (.lit 31))) (.lit 7)) (.lit 8))),(.int .i64 0),(.sint .i64 (.wrap .i64 (gT [2,3,4,5,6,12] 0 (.lit 0))))]))
  (.eq (.bin .and .u32 (.bin .shr .u32 wS (.lit 10)) (.lit 3)) (.lit 1)
  (.leaf (.agg [(.int .u8 30),(.sint .i64 (.bin .add .i64 (.bin .and .i64 (.wrap .i64 (.bin .and .u32 (.bin .shr .u32 wS (.lit 7)) (.lit 31))) (.lit 7)) (.lit 8))),(.sint .i64 (.bin .add .i64 (.bin .and .i64 (.wrap .i64 (.bin .and .u32 (.bin .shr .u32 wS (.lit 7)) (.lit 31))) (.lit 7)) (.lit 8))),(.int .i64 0),(.sint .i64 (.wrap .i64 (gT [2,3,4,5,6,12] 0 (.lit 0))))]))
  (.eq (.bin .and .u32 (.bin .shr .u32 wS (.lit 10)) (.lit 3)) (.lit 2)
  (.leaf (.agg [(.int .u8 27),(.sint .i64 (.bin .add .i64 (.bin .and .i64 (.wrap .i64 (.bin .and .u32 (.bin .shr .u32 wS (.lit 7)) (.lit 31))) (.lit 7)) (.lit 8))),(.sint .i64 (.bin .add .i64 (.bin .and .i64 (.wrap .i64 (.bin .and .u32 (.bin .shr .u32 wS (.lit 7)) (.lit 31))) (.lit 7)) (.lit 8))),(.int .i64 0),(.sint .i64 (.wrap .i64 (.bin .shr .i32 (.wrap .i32 (.bin .shl .u32 (gT [2,3,4,5,6,12] 0 (.lit 0)) (.lit 26))) (.lit 26))))]))
  (.leaf (.agg [(.int .u8 0),(.int .i64 0),(.int .i64 0),(.int .i64 0),(.int .i64 0)])))))
 | _=>.bad
def whichN (h:Nat) : Nat:=Nat.lor (Nat.land (h / 4096) 1*4) (Nat.land (h / 32) 3)
def clsN (h:Nat) : Nat:=match Nat.beq (8*(h % 4)+h / 8192) 12 with
 | true=>match Nat.beq (whichN h) 0 with
  | true=>12
  | false=>31+whichN h
 | false=>8*(h % 4)+h / 8192
structure InsnR where
 op:Int
 d:Int
 s:Int
 t:Int
 m:Int
def fieldV (η:Nat→Int) (φ:Nat→List Int→Int) : AV→Int
 | .int _ n=>n
 | .sint _ e=>e.ev η φ
 | _=>0
def insnOf (η:Nat→Int) (φ:Nat→List Int→Int) : Option AV→InsnR
 | some (.agg [o,d,s,t,m])=>⟨fieldV η φ o,fieldV η φ d,fieldV η φ s,fieldV η φ t,fieldV η φ m⟩
 | _=>⟨0,0,0,0,0⟩
def ηh (h:Int) : Nat→Int:=fun i=>[h].getD i 0
def rawR (h:Nat) : InsnR:=insnOf (ηh h) (fun _ _=>0) ((rawTr (clsN h)).at (ηh h) (fun _ _=>0))
end Go.Proofs.YtoehlmiadiiimaaGreatDoor.Ex

/-
  Short forms of instructions: contracts from trees; oracles.
-/
namespace Go.Proofs.YtoehlmiadiiimaaGreatDoor.Ex
open Go
def ηl (l:List Int) : Nat→Int:=fun i=>l.getD i 0
def φz:Nat→List Int→Int:=fun _ _=>0
def tupI (η:Nat→Int) (φ:Nat→List Int→Int) : Option AV→Int
 | some (.tup [.int _ n,_])=>n
 | some (.tup [.sint _ e,_])=>e.ev η φ
 | _=>0
def tupB:Option AV→Bool
 | some (.tup [_,.bool b])=>b
 | _=>false
def b01 (b:Bool) : Int:=match b with
 | true=>1
 | false=>0
theorem b01_eq (b:Bool) : (b01 b == 1)=b:=by cases b <;> rfl
def regsV (f:Nat) (d s t:Int) : Option AV:=(regsTr f).at (ηl [d,s,t]) φz
def numV (k u m:Nat) (n:Int) : Option AV:=(numTr k u m).at (ηl [n]) φz
def regsOk (f:Nat) (d s t:Int) : Bool:=tupB (regsV f d s t)
def numOk (k u m:Nat) (n:Int) : Bool:=tupB (numV k u m n)
def regsW (f:Nat) (d s t:Int) : Int:=tupI (ηl [d,s,t]) φz (regsV f d s t)
def numW (k u m:Nat) (n:Int) : Int:=tupI (ηl [n]) φz (numV k u m n)
noncomputable def runT (P:Program) (orc:Fa→ACall) (n N:Nat) (f:FuncId) (args:List AV) (F:Fa) : Option AV :=
 (acallT P (orc F) (@execT F.dec P 0 (orc F) n) N f args ⟨N,.leaf⟩ fun v H=>some (v,H)).map (·.1)
theorem runT_eq (P:Program) (orc:Fa→ACall) (n N:Nat) (f:FuncId) (args:List AV) : runT P orc n N f args=runF P orc n N f args:=by
 funext F
 unfold runT runF
 rw [@callT_eq F.dec]
def Ret (P:Program) (f:FuncId) (args:List Value) (v:Value) : Prop:=∀ w,Calls P f args.toArray w fun e w'=>e=.returned v∧RowKit.Below w.heap.size w w'
theorem ret_of {P:Program} (hm:P.follows .mixedOrders=true) {orc:Fa→ACall} {φ:Nat→List Int→Int} (horc:OrcOK P 0 φ orc) {n N:Nat} {f:FuncId} {args:List AV} {F:Fa} {t:Tr}
  (hok:t.ok (runT P orc n N f args) F=true) {η:Nat→Int} (hF:F.On η φ) {v:AV} (hv:t.at η φ=some v) (hp:v.plain=true) (ha:AV.plains args=true) {as:List Value} {u:Value} (h1:AV.toVals η φ args=as) (h2:v.toVal η φ=u) : Ret P f as u:=by
 subst h1; subst h2
 rw [runT_eq] at hok
 exact fun w=>tree_calls hm horc hok hF hv hp ha w
theorem ret_from {P:Program} (hm:P.follows .mixedOrders=true) {orc:Fa→ACall} {φ:Nat→List Int→Int} (horc:OrcOK P 0 φ orc) {n N:Nat} {f:FuncId} {args:List AV} {F:Fa} {t:Tr}
  (hok:t.ok (runT P orc n N f args) F=true) {η:Nat→Int} (hF:F.On η φ) {v:AV} (hv:t.at η φ=some v) (hp:v.plain=true) {args':List Value} {u:Value} (h2:v.toVal η φ=u) {w:World} {ρ:Rho}
  (hρ:∀ b,N≤b→ρ b=none) (hl:∀ b r,ρ b=some r→r.cb < w.heap.size) (hr:∀ (F:Fa) (h:F.On η φ),@VRs F.dec h.env ρ args args') :
  Calls P f args'.toArray w fun e w'=>e=.returned u∧RowKit.Below w.heap.size w w':=by
 subst h2
 rw [runT_eq] at hok
 exact tree_from hm horc hok hF hv hp hρ hl hr
def SE.varsLt (k:Nat) : SE→Bool
 | .var i=>decide (i < k)
 | .lit _=>true
 | .bin _ _ a b=>SE.varsLt k a && SE.varsLt k b
 | .un _ _ a=>SE.varsLt k a
 | .wrap _ a=>SE.varsLt k a
 | .fn _ a=>SE.varsLt k a
 | .pair a b=>SE.varsLt k a && SE.varsLt k b
theorem evs_congr {k:Nat} {η η':Nat→Int} {φ:Nat→List Int→Int} (h:∀ i,i < k→η i=η' i) : ∀ {e:SE},e.varsLt k=true→e.evs η φ=e.evs η' φ
 | .var i,hb=>by simp only [SE.varsLt,decide_eq_true_eq] at hb; simp only [SE.evs,h i hb]
 | .lit n,_=>rfl
 | .bin o kd a b,hb=>by
  simp only [SE.varsLt,Bool.and_eq_true] at hb
  simp only [SE.evs,evs_congr h hb.1,evs_congr h hb.2]
 | .un o kd a,hb=>by
  simp only [SE.varsLt] at hb
  simp only [SE.evs,evs_congr h hb]
 | .wrap kd a,hb=>by
  simp only [SE.varsLt] at hb
  simp only [SE.evs,evs_congr h hb]
 | .fn i a,hb=>by
  simp only [SE.varsLt] at hb
  simp only [SE.evs,evs_congr h hb]
 | .pair a b,hb=>by
  simp only [SE.varsLt,Bool.and_eq_true] at hb
  simp only [SE.evs,evs_congr h hb.1,evs_congr h hb.2]
theorem ev_congr {k:Nat} {η η':Nat→Int} {φ:Nat→List Int→Int} (h:∀ i,i < k→η i=η' i) {e:SE} (hb:e.varsLt k=true) : e.ev η φ=e.ev η' φ:=by
 unfold SE.ev; rw [evs_congr h hb]
def leafBelow (k:Nat) : AV→Bool
 | .tup [.sint _ e,_]=>e.varsLt k
 | _=>true
def Tr.varsLt (k:Nat) : Tr→Bool
 | .leaf v=>leafBelow k v
 | .eq a b t f=>a.varsLt k && b.varsLt k && (t.varsLt k && f.varsLt k)
 | .lt a b t f=>a.varsLt k && b.varsLt k && (t.varsLt k && f.varsLt k)
 | .bad=>true
theorem Tr.at_congr {k:Nat} {η η':Nat→Int} {φ:Nat→List Int→Int} (h:∀ i,i < k→η i=η' i) : ∀ {t:Tr},t.varsLt k=true→t.at η φ=t.at η' φ∧tupI η φ (t.at η φ)=tupI η' φ (t.at η' φ)
 | .leaf v,hb=>by
  refine ⟨rfl,?_⟩
  simp only [Tr.varsLt] at hb
  simp only [Tr.at]
  unfold leafBelow at hb
  split at hb
  ·exact ev_congr h hb
  ·rename_i hv
   unfold tupI
   split
   ·rfl
   ·rename_i hx; simp only [Option.some.injEq] at hx; exact absurd hx (hv _ _ _)
   ·rfl
 | .eq a b t f,hb=>by
  simp only [Tr.varsLt,Bool.and_eq_true] at hb
  rw [at_eq,at_eq,ev_congr h hb.1.1,ev_congr h hb.1.2]
  split
  ·exact Tr.at_congr h hb.2.1
  ·exact Tr.at_congr h hb.2.2
 | .lt a b t f,hb=>by
  simp only [Tr.varsLt,Bool.and_eq_true] at hb
  rw [at_lt,at_lt,ev_congr h hb.1.1,ev_congr h hb.1.2]
  split
  ·exact Tr.at_congr h hb.2.1
  ·exact Tr.at_congr h hb.2.2
 | .bad,_=>⟨rfl,rfl⟩
def Tr.all (p:AV→Bool) : Tr→Bool
 | .leaf v=>p v
 | .eq _ _ t f=>t.all p && f.all p
 | .lt _ _ t f=>t.all p && f.all p
 | .bad=>false
theorem Tr.all_at {p:AV→Bool} {η:Nat→Int} {φ:Nat→List Int→Int} : ∀ {t:Tr},t.all p=true→∃ v,t.at η φ=some v∧p v=true
 | .leaf v,h=>⟨v,rfl,h⟩
 | .eq a b t f,h=>by
  obtain ⟨h1,h2⟩:=Bool.and_eq_true_iff.1 h
  rw [at_eq]
  split
  ·exact Tr.all_at h1
  ·exact Tr.all_at h2
 | .lt a b t f,h=>by
  obtain ⟨h1,h2⟩:=Bool.and_eq_true_iff.1 h
  rw [at_lt]
  split
  ·exact Tr.all_at h1
  ·exact Tr.all_at h2
def isKB (k:IntKind) : AV→Bool
 | .tup [.int k' _,.bool _]=>kidxC k' == kidxC k
 | .tup [.sint k' _,.bool _]=>kidxC k' == kidxC k
 | _=>false
where kidxC:IntKind→Nat
 | .i8=>0 | .i16=>1 | .i32=>2 | .i64=>3 | .u8=>4 | .u16=>5 | .u32=>6 | .u64=>7
theorem isKB_spec {k:IntKind} {v:AV} (h:isKB k v=true) (η:Nat→Int) (φ:Nat→List Int→Int) :
  v.plain=true∧v.toVal η φ=.tuple #[.int k (tupI η φ (some v)),.bool (tupB (some v))]:=by
 have kk:∀ k k':IntKind,isKB.kidxC k' == isKB.kidxC k→k'=k:=by intro a b; cases a <;> cases b <;> simp [isKB.kidxC]
 unfold isKB at h
 split at h
 ·have:=kk _ _ h; subst this; exact ⟨rfl,rfl⟩
 ·have:=kk _ _ h; subst this; exact ⟨rfl,rfl⟩
 ·cases h
def isB:AV→Bool
 | .bool _=>true
 | _=>false
theorem isB_spec {v:AV} (h:isB v=true) (η:Nat→Int) (φ:Nat→List Int→Int) : v.plain=true∧v.toVal η φ=.bool (match v with | .bool b=>b | _=>false):=by
 unfold isB at h
 split at h
 ·exact ⟨rfl,rfl⟩
 ·cases h
abbrev insnV (op d s t m:Int) : Value:=.agg #[.int .u8 op,.int .i64 d,.int .i64 s,.int .i64 t,.int .i64 m]
def u8R (op:Int) : Prop:=0≤op∧op < 256
def FormC (P:Program) (f:FuncId) : Prop:=∀ op,u8R op→Ret P f [.int .u8 op] (.tuple #[.int .u8 (formI op),.int .i64 (match knownI op with | true=>0 | false=>2)])
def CheckC (P:Program) (f:FuncId) : Prop:=∀ op d s t m,u8R op→Ret P f [insnV op d s t m] (.int .i64 (match mayI op d s t m with | true=>0 | false=>20))
def MayC (P:Program) (f:FuncId) : Prop:=∀ op d s t m,u8R op→Ret P f [insnV op d s t m] (.bool (mayI op d s t m))
def RegsC (P:Program) (f:FuncId) : Prop:=∀ (c:Nat),c∈regForms→∀ op d s t m,Ret P f [.int .u8 c,insnV op d s t m] (.tuple #[.int .u16 (regsW c d s t),.bool (regsOk c d s t)])
where regForms:List Nat:=[97,108,115,110,106,114,122,117,112,113,109,98,119,74,75,118,100,116]
structure RowL where
 op:Nat
 name:List Nat
 base:Nat
 form:Nat
 kind:Nat
 unit:Nat
 places:List Nat
def rowsL:List RowL:=[
 ⟨22,[97,100,100,105],0,97,112,4,[6,5,11,12,7,8,9,10]⟩,
 ⟨13,[108,119],16384,108,117,4,[6,10,11,12,5]⟩,
 ⟨14,[108,100],24576,108,117,8,[10,11,12,5,6]⟩,
 ⟨20,[115,119],49152,115,117,4,[6,10,11,12,5]⟩,
 ⟨21,[115,100],57344,115,117,8,[10,11,12,5,6]⟩,
 ⟨22,[97,100,100,105],1,110,48,1,[]⟩,
 ⟨22,[97,100,100,105],1,114,110,1,[2,3,4,5,6,12]⟩,
 ⟨41,[97,100,100,105,119],8193,114,115,1,[2,3,4,5,6,12]⟩,
 ⟨22,[97,100,100,105],16385,122,115,1,[2,3,4,5,6,12]⟩,
 ⟨22,[97,100,100,105],24833,112,110,16,[6,2,5,3,4,12]⟩,
 ⟨1,[108,117,105],24577,117,108,1,[2,3,4,5,6,12]⟩,
 ⟨29,[115,114,108,105],32769,113,112,1,[2,3,4,5,6,12]⟩,
 ⟨30,[115,114,97,105],33793,113,112,1,[2,3,4,5,6,12]⟩,
 ⟨27,[97,110,100,105],34817,113,115,1,[2,3,4,5,6,12]⟩,
 ⟨32,[115,117,98],35841,109,48,1,[]⟩,
 ⟨36,[120,111,114],35873,109,48,1,[]⟩,
 ⟨39,[111,114],35905,109,48,1,[]⟩,
 ⟨40,[97,110,100],35937,109,48,1,[]⟩,
 ⟨46,[115,117,98,119],39937,109,48,1,[]⟩,
 ⟨45,[97,100,100,119],39969,109,48,1,[]⟩,
 ⟨3,[106,97,108],40961,106,115,2,[3,4,5,11,2,7,6,9,10,8,12]⟩,
 ⟨5,[98,101,113],49153,98,115,2,[3,4,10,11,2,5,6,12]⟩,
 ⟨6,[98,110,101],57345,98,115,2,[3,4,10,11,2,5,6,12]⟩,
 ⟨28,[115,108,108,105],2,114,112,1,[2,3,4,5,6,12]⟩,
 ⟨13,[108,119],16386,119,117,4,[4,5,6,12,2,3]⟩,
 ⟨14,[108,100],24578,119,117,8,[5,6,12,2,3,4]⟩,
 ⟨4,[106,97,108,114],32770,74,48,1,[]⟩,
 ⟨31,[97,100,100],32770,118,48,1,[]⟩,
 ⟨66,[101,98,114,101,97,107],36866,110,48,1,[]⟩,
 ⟨4,[106,97,108,114],36866,75,48,1,[]⟩,
 ⟨31,[97,100,100],36866,100,48,1,[]⟩,
 ⟨20,[115,119],49154,116,117,4,[9,10,11,12,7,8]⟩,
 ⟨21,[115,100],57346,116,117,8,[10,11,12,7,8,9]⟩]
def nums:List (Nat×Nat×Nat):=[(112,4,8),(117,4,5),(117,8,5),(48,1,0),(110,1,6),(115,1,6),(110,16,6),(108,1,6),(112,1,6),(115,2,11),(115,2,8),(117,4,6),(117,8,6)]
def sel (op d s t m:Int) : List RowL→Nat→Option (Nat×RowL)
 | [],_=>none
 | r :: rs,k=>match decide ((r.op:Int)=op) && (regsOk r.form d s t && numOk r.kind r.unit r.places.length m) with
  | true=>some (k,r)
  | false=>sel op d s t m rs (k+1)
def scat (v:Int) : List Nat→Nat→Int→Int
 | [],_,acc=>acc
 | p :: ps,i,acc=>scat v ps (i+1) (ibin .or .u32 acc (ibin .shl .u32 (ibin .and .u32 (ibin .shr .u32 v (i:Nat)) 1) (p:Nat)))
def wV (r:RowL) (m:Int) : Int:=match r.places with
 | []=>0
 | _=>IntKind.u16.wrap (scat (numW r.kind r.unit r.places.length m) r.places 0 0)
def aV (r:RowL) (d s t m:Int) : Int:=ibin .or .u16 (ibin .or .u16 (r.base:Nat) (regsW r.form d s t)) (wV r m)
def halfV (op d s t m:Int) : Int:=match sel op d s t m rowsL 0 with
 | some (_,r)=>aV r d s t m
 | none=>0
def halfB (op d s t m:Int) : Bool:=(sel op d s t m rowsL 0).isSome
def findV (op d s t m:Int) : Int:=match sel op d s t m rowsL 0 with
 | some (k,_)=>(k:Nat)
 | none=>-1
def encV (op d s t m:Int) : Int:=match mayI op d s t m with
 | true=>halfV op d s t m
 | false=>0
def encE (op d s t m:Int) : Int:=match mayI op d s t m with
 | true=>(match halfB op d s t m with | true=>0 | false=>6)
 | false=>20
def shortB (op d s t m:Int) : Bool:=mayI op d s t m && halfB op d s t m
def shortE (op d s t m:Int) : Int:=match mayI op d s t m with
 | true=>0
 | false=>20
def twiceB (i:InsnR) : Bool:=i.op == 22 && (i.d == 2 && (i.s == 2 && (i.m % 16 == 0 && !(i.m == 0))))
def readB (h:Nat) : Bool:=encE (rawR h).op (rawR h).d (rawR h).s (rawR h).t (rawR h).m == 0 && (encV (rawR h).op (rawR h).d (rawR h).s (rawR h).t (rawR h).m == (h:Int) || (twiceB (rawR h) && Nat.beq (h / 8192) 3))
def readR (h:Nat) : InsnR:=match readB h with
 | true=>rawR h
 | false=>⟨0,0,0,0,0⟩
def readE (h:Nat) : Int:=match readB h with
 | true=>0
 | false=>60
def φ0 (i:Nat) (l:List Int) : Int:=match i,l with
 | 12,[op,d,s,t,m]=>b01 (mayI op d s t m)
 | 13,[op,d,s,t,m]=>halfV op d s t m
 | 113,[op,d,s,t,m]=>b01 (halfB op d s t m)
 | 15,[op,d,s,t,m]=>findV op d s t m
 | 18,[op]=>formI op
 | 118,[op]=>b01 (knownI op)
 | 23,[f,d,s,t]=>regsW f.toNat d s t
 | 123,[f,d,s,t]=>b01 (regsOk f.toNat d s t)
 | 24,[k,u,m,n]=>numW k.toNat u.toNat m.toNat n
 | 124,[k,u,m,n]=>b01 (numOk k.toNat u.toNat m.toNat n)
 | 200,[op,d,s,t,m]=>encV op d s t m
 | 201,[op,d,s,t,m]=>encE op d s t m
 | 202,[op,d,s,t,m]=>b01 (shortB op d s t m)
 | 203,[op,d,s,t,m]=>shortE op d s t m
 | 190,[h]=>(rawR h.toNat).op
 | 191,[h]=>(rawR h.toNat).d
 | 192,[h]=>(rawR h.toNat).s
 | 193,[h]=>(rawR h.toNat).t
 | 194,[h]=>(rawR h.toNat).m
 | 400,[h]=>(readR h.toNat).op
 | 401,[h]=>(readR h.toNat).d
 | 402,[h]=>(readR h.toNat).s
 | 403,[h]=>(readR h.toNat).t
 | 404,[h]=>(readR h.toNat).m
 | 405,[h]=>readE h.toNat
 | _,_=>0
section
variable {P:Program}
def noChk (t:Tr) : Bool:=(List.range 256).all fun n=>knownI n || match t.at (ηl [(n:Int)]) φz with
 | some v=>AV.eqb v (.tup [.int .u8 0,.int .i64 2])
 | none=>false
theorem formC_of (hm:P.follows .mixedOrders=true) {f:FuncId} (h1:((List.range 94).all fun i=>(Tr.leaf (.tup [.int .u8 (formI (i+1)),.int .i64 0])).ok (runT P (fun _=>noOrc) 10000 0 f [.int .u8 (i+1)]) ⟨[],[],[]⟩)=true)
  {no:Tr} (h2:no.ok (runT P (fun _=>noOrc) 10000 0 f [.sint .u8 (.var 0)]) ⟨[],[],[]⟩=true) (h3':noChk no=true) : FormC P f:=by
 intro op ho
 cases hk:knownI op with
 | true =>
  have hk':=hk
  simp only [knownI,Bool.and_eq_true,decide_eq_true_eq] at hk'
  obtain ⟨n,rfl⟩ : ∃ n:Nat,op=(n:Int)+1:=⟨(op - 1).toNat,by omega⟩
  have:=List.all_eq_true.1 h1 n (List.mem_range.2 (by omega))
  exact ret_of hm (noOrc_OK P 0 φz) this (Fa.On.nil (ηl []) φz) rfl rfl rfl rfl rfl
 | false =>
  have h3:no.at (ηl [op]) φz=some (.tup [.int .u8 0,.int .i64 2]):=by
   obtain ⟨n,rfl⟩ : ∃ n:Nat,op=(n:Int):=⟨op.toNat,by have:=ho.1; omega⟩
   have h4:=List.all_eq_true.1 h3' n (List.mem_range.2 (by have:=ho.2; omega))
   rw [hk,Bool.false_or] at h4
   split at h4
   ·rename_i v hv; rw [hv,AV.eqb_eq _ _ h4]
   ·cases h4
  refine ret_of (η:=ηl [op]) hm (noOrc_OK P 0 φz) h2 (Fa.On.nil _ _) h3 rfl rfl rfl ?_
  have:formI op=0:=by unfold formI; rw [hk]
  rw [this]; rfl
theorem regsC_of (hm:P.follows .mixedOrders=true) {f:FuncId} (h1:(RegsC.regForms.all fun (c:Nat)=>(regsTr c).ok (runT P (fun _=>noOrc) 10000 0 f [.int .u8 c,.agg [.sint .u8 (.var 3),.sint .i64 (.var 0),.sint .i64 (.var 1),.sint .i64 (.var 2),.sint .i64 (.var 4)]]) ⟨[],[],[]⟩)=true) : RegsC P f:=by
 intro c hc op d s t m
 have h2:=List.all_eq_true.1 h1 c hc
 have h3:(RegsC.regForms.all fun c=>(regsTr c).all (isKB .u16))=true:=by decide
 obtain ⟨v,hv,hk⟩:=Tr.all_at (η:=ηl [d,s,t,op,m]) (φ:=φz) (List.all_eq_true.1 h3 c hc)
 obtain ⟨hp,hu⟩:=isKB_spec hk (ηl [d,s,t,op,m]) φz
 refine ret_of (η:=ηl [d,s,t,op,m]) hm (noOrc_OK P 0 φz) h2 (Fa.On.nil _ _) hv hp rfl rfl (hu.trans ?_)
 have h4:(RegsC.regForms.all fun c=>(regsTr c).varsLt 3)=true:=by decide
 obtain ⟨e1,e2⟩:=Tr.at_congr (η:=ηl [d,s,t,op,m]) (η':=ηl [d,s,t]) (φ:=φz) (k:=3) (by intro i hi; match i,hi with | 0,_=>rfl | 1,_=>rfl | 2,_=>rfl) (List.all_eq_true.1 h4 c hc)
 rw [← hv,e2]
 unfold regsW regsOk regsV
 rw [e1]
def Opq (pa:AV) (pl:Value) (w:World) : Prop:=∃ ρ:Rho,(∀ b,1≤b→ρ b=none)∧(∀ b r,ρ b=some r→r.cb < w.heap.size)∧∀ (D:Dec) (E : @Env D),@VR D E ρ pa pl
def NumberC (P:Program) (f:FuncId) : Prop:=∀ k u m,(k,u,m)∈nums→∀ (o b c n:Int) (pl:Value) (w:World),Opq (match m with | 0=>.nilsl | m+1=>.sl 0 0 (m+1) (m+1)) pl w →
 Calls P f #[.agg #[.int .u8 o,.int .u16 b,.int .u8 c,.int .u8 (k:Nat),.int .i64 (u:Nat),pl],.int .i64 n] w fun e w'=>e=.returned (.tuple #[.int .u32 (numW k u m n),.bool (numOk k u m n)])∧RowKit.Below w.heap.size w w'
theorem numberC_of (hm:P.follows .mixedOrders=true) {f:FuncId} (h1:(nums.all fun x=>(numTr x.1 x.2.1 x.2.2).ok (runT P (fun _=>noOrc) 10000 1 f
  [.agg [.sint .u8 (.var 1),.sint .u16 (.var 2),.sint .u8 (.var 3),.int .u8 (x.1:Nat),.int .i64 (x.2.1:Nat),match x.2.2 with | 0=>.nilsl | m+1=>.sl 0 0 (m+1) (m+1)],.sint .i64 (.var 0)]) ⟨[],[],[]⟩)=true) : NumberC P f:=by
 intro k u m hx o b c n pl w hq
 obtain ⟨ρ,h2,h3,h4⟩:=hq
 have h5:(nums.all fun x=>(numTr x.1 x.2.1 x.2.2).all (isKB .u32))=true:=by decide
 have h6:(nums.all fun x=>(numTr x.1 x.2.1 x.2.2).varsLt 1)=true:=by decide
 obtain ⟨v,hv,hk⟩:=Tr.all_at (η:=ηl [n,o,b,c]) (φ:=φz) (List.all_eq_true.1 h5 _ hx)
 obtain ⟨hp,hu⟩:=isKB_spec hk (ηl [n,o,b,c]) φz
 obtain ⟨e1,e2⟩:=Tr.at_congr (η:=ηl [n,o,b,c]) (η':=ηl [n]) (φ:=φz) (k:=1) (by intro i hi; match i,hi with | 0,_=>rfl) (List.all_eq_true.1 h6 _ hx)
 refine ret_from (η:=ηl [n,o,b,c]) hm (noOrc_OK P 0 φz) (List.all_eq_true.1 h1 _ hx) (Fa.On.nil _ _) hv hp (hu.trans ?_) (ρ:=ρ) (args':=[.agg #[.int .u8 o,.int .u16 b,.int .u8 c,.int .u8 (k:Nat),.int .i64 (u:Nat),pl],.int .i64 n]) h2 h3 ?_
 ·rw [← hv,e2]
  unfold numW numOk numV
  rw [e1]
 ·intro F hF
  letI:Dec:=F.dec
  letI:Env:=hF.env
  exact .cons _ _ _ _ (.agg _ [_,_,_,_,_,_] (.cons _ _ _ _ (@VR.sint F.dec hF.env _ .u8 (.var 1)) (.cons _ _ _ _ (@VR.sint F.dec hF.env _ .u16 (.var 2)) (.cons _ _ _ _ (@VR.sint F.dec hF.env _ .u8 (.var 3)) (.cons _ _ _ _ (.int _ _) (.cons _ _ _ _ (.int _ _) (.cons _ _ _ _ (h4 F.dec hF.env) .nil)))))))
   (.cons _ _ _ _ (@VR.sint F.dec hF.env _ .i64 (.var 0)) .nil)
def rightV (f:Nat) (d s t:Int) : Bool:=match (rightTr f).at (ηl [d,s,t]) φz with | some (.bool b)=>b | _=>false
def fitsV (k u m:Nat) (n:Int) : Bool:=match (fitsTr k u m).at (ηl [n]) φz with | some (.bool b)=>b | _=>false
def RightC (P:Program) (f:FuncId) : Prop:=∀ (c:Nat),c∈RegsC.regForms→∀ op d s t m,Ret P f [.string ⟨#[UInt8.ofNat c]⟩,insnV op d s t m] (.bool (rightV c d s t))
theorem rightC_of (hm:P.follows .mixedOrders=true) {f:FuncId} (h1:(RegsC.regForms.all fun (c:Nat)=>(rightTr c).ok (runT P (fun _=>noOrc) 10000 0 f [.str [c],.agg [.sint .u8 (.var 3),.sint .i64 (.var 0),.sint .i64 (.var 1),.sint .i64 (.var 2),.sint .i64 (.var 4)]]) ⟨[],[],[]⟩)=true) : RightC P f:=by
 intro c hc op d s t m
 have h2:=List.all_eq_true.1 h1 c hc
 have h3:(RegsC.regForms.all fun c=>(rightTr c).all isB)=true:=by decide
 have h4:(RegsC.regForms.all fun c=>(rightTr c).varsLt 3)=true:=by decide
 have h5:(RegsC.regForms.all fun c=>Nat.blt c 256)=true:=by decide
 obtain ⟨v,hv,hk⟩:=Tr.all_at (η:=ηl [d,s,t,op,m]) (φ:=φz) (List.all_eq_true.1 h3 c hc)
 obtain ⟨hp,hu⟩:=isB_spec hk (ηl [d,s,t,op,m]) φz
 obtain ⟨e1,-⟩:=Tr.at_congr (η:=ηl [d,s,t,op,m]) (η':=ηl [d,s,t]) (φ:=φz) (k:=3) (by intro i hi; match i,hi with | 0,_=>rfl | 1,_=>rfl | 2,_=>rfl) (List.all_eq_true.1 h4 c hc)
 have h6:=List.all_eq_true.1 h5 c hc
 refine ret_of (η:=ηl [d,s,t,op,m]) hm (noOrc_OK P 0 φz) h2 (Fa.On.nil _ _) hv hp (by simp [AV.plains,AV.plain] at h6 ⊢; simpa [Nat.blt] using h6) rfl (hu.trans ?_)
 unfold rightV
 rw [← e1,hv]
 unfold isB at hk
 split at hk
 ·rfl
 ·cases hk
def rowA (r:RowL) : AV:=.agg [.str r.name,.int .i64 (r.base:Nat),.str [r.form],.str [r.kind],.int .i64 (r.unit:Nat),.sl 0 0 r.places.length r.places.length]
def FitsC (P:Program) (f:FuncId) : Prop:=∀ r∈rowsL,∀ (n:Int) (pl:Value) (w:World),Opq (.sl 0 0 r.places.length r.places.length) pl w →
 Calls P f #[.agg #[.string ⟨(r.name.map UInt8.ofNat).toArray⟩,.int .i64 (r.base:Nat),.string ⟨#[UInt8.ofNat r.form]⟩,.string ⟨#[UInt8.ofNat r.kind]⟩,.int .i64 (r.unit:Nat),pl],.int .i64 n] w
  fun e w'=>e=.returned (.bool (fitsV r.kind r.unit r.places.length n))∧RowKit.Below w.heap.size w w'
theorem str_plain (l:List Nat) (h:(AV.str l).plain=true) (D:Dec) (E : @Env D) (ρ:Rho) : @VR D E ρ (.str l) (.string ⟨(l.map UInt8.ofNat).toArray⟩):=by
 have:=@VR.ofVal D E ρ (.str l) h
 unfold AV.toVal at this
 exact this
theorem fitsC_of (hm:P.follows .mixedOrders=true) {f:FuncId} (h1:(rowsL.all fun r=>(fitsTr r.kind r.unit r.places.length).ok (runT P (fun _=>noOrc) 10000 1 f [rowA r,.sint .i64 (.var 0)]) ⟨[],[],[]⟩)=true) : FitsC P f:=by
 intro r hx n pl w hq
 obtain ⟨ρ,h2,h3,h4⟩:=hq
 have h5:(rowsL.all fun r=>(fitsTr r.kind r.unit r.places.length).all isB)=true:=by decide
 have h7:(rowsL.all fun r=>(AV.str r.name).plain && ((AV.str [r.form]).plain && (AV.str [r.kind]).plain))=true:=by decide
 obtain ⟨v,hv,hk⟩:=Tr.all_at (η:=ηl [n]) (φ:=φz) (List.all_eq_true.1 h5 r hx)
 obtain ⟨hp,hu⟩:=isB_spec hk (ηl [n]) φz
 have h8:=List.all_eq_true.1 h7 r hx
 simp only [Bool.and_eq_true] at h8
 obtain ⟨p1,p2,p3⟩:=h8
 refine ret_from (η:=ηl [n]) hm (noOrc_OK P 0 φz) (List.all_eq_true.1 h1 r hx) (Fa.On.nil _ _) hv hp (hu.trans ?_) (ρ:=ρ)
  (args':=[.agg #[.string ⟨(r.name.map UInt8.ofNat).toArray⟩,.int .i64 (r.base:Nat),.string ⟨#[UInt8.ofNat r.form]⟩,.string ⟨#[UInt8.ofNat r.kind]⟩,.int .i64 (r.unit:Nat),pl],.int .i64 n]) h2 h3 ?_
 ·unfold fitsV
  rw [hv]
  unfold isB at hk
  split at hk
  ·rfl
  ·cases hk
 ·intro F hF
  letI:Dec:=F.dec
  letI:Env:=hF.env
  exact .cons _ _ _ _ (.agg _ [_,_,_,_,_,_] (.cons _ _ _ _ (str_plain _ p1 _ _ _) (.cons _ _ _ _ (.int _ _) (.cons _ _ _ _ (str_plain _ p2 _ _ _) (.cons _ _ _ _ (str_plain _ p3 _ _ _) (.cons _ _ _ _ (.int _ _) (.cons _ _ _ _ (h4 F.dec hF.env) .nil)))))))
   (.cons _ _ _ _ (@VR.sint F.dec hF.env _ .i64 (.var 0)) .nil)
end
end Go.Proofs.YtoehlmiadiiimaaGreatDoor.Ex

