/-
  The machine's laws: the variables as laid; tables of closed calls (printed by a program of mine, proved by the kernel).
-/
import Derived.Test.YtoehlmiadiiimaaGreatDoorMacA
import Derived.Test.YtoehlmiadiiimaaGreatDoorExExt
namespace Go.Proofs.YtoehlmiadiiimaaGreatDoor
open Go.Proofs.YtoehlmiadiiimaaGreatDoor.Ex

/-- quoin/insn.names -/
def var0 : List AV := [(.str [108, 117, 105]), (.str [97, 117, 105, 112, 99]), (.str [106, 97, 108]), (.str [106, 97, 108, 114]), (.str [98, 101, 113]), (.str [98, 110, 101]), (.str [98, 108, 116]), (.str [98, 103, 101]), (.str [98, 108, 116, 117]), (.str [98, 103, 101, 117]), (.str [108, 98]), (.str [108, 104]), (.str [108, 119]), (.str [108, 100]), (.str [108, 98, 117]), (.str [108, 104, 117]), (.str [108, 119, 117]), (.str [115, 98]), (.str [115, 104]), (.str [115, 119]), (.str [115, 100]), (.str [97, 100, 100, 105]), (.str [115, 108, 116, 105]), (.str [115, 108, 116, 105, 117]), (.str [120, 111, 114, 105]), (.str [111, 114, 105]), (.str [97, 110, 100, 105]), (.str [115, 108, 108, 105]), (.str [115, 114, 108, 105]), (.str [115, 114, 97, 105]), (.str [97, 100, 100]), (.str [115, 117, 98]), (.str [115, 108, 108]), (.str [115, 108, 116]), (.str [115, 108, 116, 117]), (.str [120, 111, 114]), (.str [115, 114, 108]), (.str [115, 114, 97]), (.str [111, 114]), (.str [97, 110, 100]), (.str [97, 100, 100, 105, 119]), (.str [115, 108, 108, 105, 119]), (.str [115, 114, 108, 105, 119]), (.str [115, 114, 97, 105, 119]), (.str [97, 100, 100, 119]), (.str [115, 117, 98, 119]), (.str [115, 108, 108, 119]), (.str [115, 114, 108, 119]), (.str [115, 114, 97, 119]), (.str [109, 117, 108]), (.str [109, 117, 108, 104]), (.str [109, 117, 108, 104, 115, 117]), (.str [109, 117, 108, 104, 117]), (.str [100, 105, 118]), (.str [100, 105, 118, 117]), (.str [114, 101, 109]), (.str [114, 101, 109, 117]), (.str [109, 117, 108, 119]), (.str [100, 105, 118, 119]), (.str [100, 105, 118, 117, 119]), (.str [114, 101, 109, 119]), (.str [114, 101, 109, 117, 119]), (.str [102, 101, 110, 99, 101]), (.str [102, 101, 110, 99, 101, 46, 105]), (.str [101, 99, 97, 108, 108]), (.str [101, 98, 114, 101, 97, 107]), (.str [99, 115, 114, 114, 119]), (.str [99, 115, 114, 114, 115]), (.str [99, 115, 114, 114, 99]), (.str [99, 115, 114, 114, 119, 105]), (.str [99, 115, 114, 114, 115, 105]), (.str [99, 115, 114, 114, 99, 105]), (.str [108, 114, 46, 119]), (.str [115, 99, 46, 119]), (.str [97, 109, 111, 115, 119, 97, 112, 46, 119]), (.str [97, 109, 111, 97, 100, 100, 46, 119]), (.str [97, 109, 111, 120, 111, 114, 46, 119]), (.str [97, 109, 111, 97, 110, 100, 46, 119]), (.str [97, 109, 111, 111, 114, 46, 119]), (.str [97, 109, 111, 109, 105, 110, 46, 119]), (.str [97, 109, 111, 109, 97, 120, 46, 119]), (.str [97, 109, 111, 109, 105, 110, 117, 46, 119]), (.str [97, 109, 111, 109, 97, 120, 117, 46, 119]), (.str [108, 114, 46, 100]), (.str [115, 99, 46, 100]), (.str [97, 109, 111, 115, 119, 97, 112, 46, 100]), (.str [97, 109, 111, 97, 100, 100, 46, 100]), (.str [97, 109, 111, 120, 111, 114, 46, 100]), (.str [97, 109, 111, 97, 110, 100, 46, 100]), (.str [97, 109, 111, 111, 114, 46, 100]), (.str [97, 109, 111, 109, 105, 110, 46, 100]), (.str [97, 109, 111, 109, 97, 120, 46, 100]), (.str [97, 109, 111, 109, 105, 110, 117, 46, 100]), (.str [97, 109, 111, 109, 97, 120, 117, 46, 100])]
/-- quoin/enc.bases -/
def var1 : List AV := [(.int .u32 55), (.int .u32 23), (.int .u32 111), (.int .u32 103), (.int .u32 99), (.int .u32 4195), (.int .u32 16483), (.int .u32 20579), (.int .u32 24675), (.int .u32 28771), (.int .u32 3), (.int .u32 4099), (.int .u32 8195), (.int .u32 12291), (.int .u32 16387), (.int .u32 20483), (.int .u32 24579), (.int .u32 35), (.int .u32 4131), (.int .u32 8227), (.int .u32 12323), (.int .u32 19), (.int .u32 8211), (.int .u32 12307), (.int .u32 16403), (.int .u32 24595), (.int .u32 28691), (.int .u32 4115), (.int .u32 20499), (.int .u32 1073762323), (.int .u32 51), (.int .u32 1073741875), (.int .u32 4147), (.int .u32 8243), (.int .u32 12339), (.int .u32 16435), (.int .u32 20531), (.int .u32 1073762355), (.int .u32 24627), (.int .u32 28723), (.int .u32 27), (.int .u32 4123), (.int .u32 20507), (.int .u32 1073762331), (.int .u32 59), (.int .u32 1073741883), (.int .u32 4155), (.int .u32 20539), (.int .u32 1073762363), (.int .u32 33554483), (.int .u32 33558579), (.int .u32 33562675), (.int .u32 33566771), (.int .u32 33570867), (.int .u32 33574963), (.int .u32 33579059), (.int .u32 33583155), (.int .u32 33554491), (.int .u32 33570875), (.int .u32 33574971), (.int .u32 33579067), (.int .u32 33583163), (.int .u32 15), (.int .u32 4111), (.int .u32 115), (.int .u32 1048691), (.int .u32 4211), (.int .u32 8307), (.int .u32 12403), (.int .u32 20595), (.int .u32 24691), (.int .u32 28787), (.int .u32 268443695), (.int .u32 402661423), (.int .u32 134225967), (.int .u32 8239), (.int .u32 536879151), (.int .u32 1610620975), (.int .u32 1073750063), (.int .u32 2147491887), (.int .u32 2684362799), (.int .u32 3221233711), (.int .u32 3758104623), (.int .u32 268447791), (.int .u32 402665519), (.int .u32 134230063), (.int .u32 12335), (.int .u32 536883247), (.int .u32 1610625071), (.int .u32 1073754159), (.int .u32 2147495983), (.int .u32 2684366895), (.int .u32 3221237807), (.int .u32 3758108719)]
/-- quoin/cdec.alu -/
def var2 : List AV := [(.str [115, 117, 98]), (.str [120, 111, 114]), (.str [111, 114]), (.str [97, 110, 100]), (.str [115, 117, 98, 119]), (.str [97, 100, 100, 119])]
/-- quoin/expr.mods -/
def var4 : List AV := [(.str [37, 104, 105]), (.str [37, 108, 111]), (.str [37, 112, 99, 114, 101, 108, 95, 104, 105]), (.str [37, 112, 99, 114, 101, 108, 95, 108, 111])]
/-- quoin/line.registers -/
def var7 : List AV := [(.str [122, 101, 114, 111]), (.str [114, 97]), (.str [115, 112]), (.str [103, 112]), (.str [116, 112]), (.str [116, 48]), (.str [116, 49]), (.str [116, 50]), (.str [115, 48]), (.str [115, 49]), (.str [97, 48]), (.str [97, 49]), (.str [97, 50]), (.str [97, 51]), (.str [97, 52]), (.str [97, 53]), (.str [97, 54]), (.str [97, 55]), (.str [115, 50]), (.str [115, 51]), (.str [115, 52]), (.str [115, 53]), (.str [115, 54]), (.str [115, 55]), (.str [115, 56]), (.str [115, 57]), (.str [115, 49, 48]), (.str [115, 49, 49]), (.str [116, 51]), (.str [116, 52]), (.str [116, 53]), (.str [116, 54])]
def vars : Vars := [(0, var0), (1, var1), (2, var2), (4, var4), (7, var7)]
theorem varsOK : VarsOK vars 13 where
  lits := by
    have h : (vars.all fun x => isLits x.2) = true := by kernel_rfl
    exact fun x hx => List.all_eq_true.1 h x hx
  lt := by
    have h : (vars.all fun x => Nat.blt x.1 13) = true := by kernel_rfl
    exact fun x hx => Nat.le_of_ble_eq_true (List.all_eq_true.1 h x hx)
  one := by
    intro x hx y hy e
    simp only [vars, List.mem_cons, List.not_mem_nil, or_false] at hx hy
    rcases hx with rfl | rfl | rfl | rfl | rfl <;> rcases hy with rfl | rfl | rfl | rfl | rfl <;> first | rfl | (exfalso; revert e; decide)
noncomputable def oExt : Fa → ACall := orG (fun _ => orcCnt 122) (fun _ => orcIdx 253)
theorem oExt_OK : ∀ φ, OrcOK Tryz.prog 13 φ oExt := orcExt_OK count_one index_byte
/-- quoin/insn.Name -/
def tab30 : List (List AV × AV) := [
  ([(.int .u8 22)], (.tup [(.str [97, 100, 100, 105]), (.int .i64 0)])),
  ([(.int .u8 31)], (.tup [(.str [97, 100, 100]), (.int .i64 0)])),
  ([(.int .u8 6)], (.tup [(.str [98, 110, 101]), (.int .i64 0)])),
  ([(.int .u8 65)], (.tup [(.str [101, 99, 97, 108, 108]), (.int .i64 0)])),
  ([(.int .u8 66)], (.tup [(.str [101, 98, 114, 101, 97, 107]), (.int .i64 0)])),
  ([(.int .u8 14)], (.tup [(.str [108, 100]), (.int .i64 0)]))]
theorem tab30_ok : TabG Tryz.prog vars 13 30 tab30 := tabG_of mixed oExt_OK (by kernel_rfl)
noncomputable def o30 : Fa → ACall := orG oExt (fun _ => orcTabG vars 30 tab30)
theorem o30_OK : ∀ φ, OrcOK Tryz.prog 13 φ o30 := orG_OK oExt_OK (tabG_OK varsOK tab30_ok)
/-- quoin/insn.Form -/
def tab31 : List (List AV × AV) := [
  ([(.int .u8 22)], (.tup [(.int .u8 73), (.int .i64 0)])),
  ([(.int .u8 31)], (.tup [(.int .u8 82), (.int .i64 0)])),
  ([(.int .u8 6)], (.tup [(.int .u8 66), (.int .i64 0)])),
  ([(.int .u8 65)], (.tup [(.int .u8 78), (.int .i64 0)])),
  ([(.int .u8 0)], (.tup [(.int .u8 0), (.int .i64 2)])),
  ([(.int .u8 1)], (.tup [(.int .u8 85), (.int .i64 0)])),
  ([(.int .u8 2)], (.tup [(.int .u8 85), (.int .i64 0)])),
  ([(.int .u8 3)], (.tup [(.int .u8 74), (.int .i64 0)])),
  ([(.int .u8 4)], (.tup [(.int .u8 76), (.int .i64 0)])),
  ([(.int .u8 5)], (.tup [(.int .u8 66), (.int .i64 0)])),
  ([(.int .u8 7)], (.tup [(.int .u8 66), (.int .i64 0)])),
  ([(.int .u8 8)], (.tup [(.int .u8 66), (.int .i64 0)])),
  ([(.int .u8 9)], (.tup [(.int .u8 66), (.int .i64 0)])),
  ([(.int .u8 10)], (.tup [(.int .u8 66), (.int .i64 0)])),
  ([(.int .u8 11)], (.tup [(.int .u8 76), (.int .i64 0)])),
  ([(.int .u8 12)], (.tup [(.int .u8 76), (.int .i64 0)])),
  ([(.int .u8 13)], (.tup [(.int .u8 76), (.int .i64 0)])),
  ([(.int .u8 14)], (.tup [(.int .u8 76), (.int .i64 0)])),
  ([(.int .u8 15)], (.tup [(.int .u8 76), (.int .i64 0)])),
  ([(.int .u8 16)], (.tup [(.int .u8 76), (.int .i64 0)])),
  ([(.int .u8 17)], (.tup [(.int .u8 76), (.int .i64 0)])),
  ([(.int .u8 18)], (.tup [(.int .u8 83), (.int .i64 0)])),
  ([(.int .u8 19)], (.tup [(.int .u8 83), (.int .i64 0)])),
  ([(.int .u8 20)], (.tup [(.int .u8 83), (.int .i64 0)])),
  ([(.int .u8 21)], (.tup [(.int .u8 83), (.int .i64 0)])),
  ([(.int .u8 23)], (.tup [(.int .u8 73), (.int .i64 0)])),
  ([(.int .u8 24)], (.tup [(.int .u8 73), (.int .i64 0)])),
  ([(.int .u8 25)], (.tup [(.int .u8 73), (.int .i64 0)])),
  ([(.int .u8 26)], (.tup [(.int .u8 73), (.int .i64 0)])),
  ([(.int .u8 27)], (.tup [(.int .u8 73), (.int .i64 0)])),
  ([(.int .u8 28)], (.tup [(.int .u8 54), (.int .i64 0)])),
  ([(.int .u8 29)], (.tup [(.int .u8 54), (.int .i64 0)])),
  ([(.int .u8 30)], (.tup [(.int .u8 54), (.int .i64 0)])),
  ([(.int .u8 32)], (.tup [(.int .u8 82), (.int .i64 0)])),
  ([(.int .u8 33)], (.tup [(.int .u8 82), (.int .i64 0)])),
  ([(.int .u8 34)], (.tup [(.int .u8 82), (.int .i64 0)])),
  ([(.int .u8 35)], (.tup [(.int .u8 82), (.int .i64 0)])),
  ([(.int .u8 36)], (.tup [(.int .u8 82), (.int .i64 0)])),
  ([(.int .u8 37)], (.tup [(.int .u8 82), (.int .i64 0)])),
  ([(.int .u8 38)], (.tup [(.int .u8 82), (.int .i64 0)])),
  ([(.int .u8 39)], (.tup [(.int .u8 82), (.int .i64 0)])),
  ([(.int .u8 40)], (.tup [(.int .u8 82), (.int .i64 0)])),
  ([(.int .u8 41)], (.tup [(.int .u8 73), (.int .i64 0)])),
  ([(.int .u8 42)], (.tup [(.int .u8 53), (.int .i64 0)])),
  ([(.int .u8 43)], (.tup [(.int .u8 53), (.int .i64 0)])),
  ([(.int .u8 44)], (.tup [(.int .u8 53), (.int .i64 0)])),
  ([(.int .u8 45)], (.tup [(.int .u8 82), (.int .i64 0)])),
  ([(.int .u8 46)], (.tup [(.int .u8 82), (.int .i64 0)])),
  ([(.int .u8 47)], (.tup [(.int .u8 82), (.int .i64 0)])),
  ([(.int .u8 48)], (.tup [(.int .u8 82), (.int .i64 0)])),
  ([(.int .u8 49)], (.tup [(.int .u8 82), (.int .i64 0)])),
  ([(.int .u8 50)], (.tup [(.int .u8 82), (.int .i64 0)])),
  ([(.int .u8 51)], (.tup [(.int .u8 82), (.int .i64 0)])),
  ([(.int .u8 52)], (.tup [(.int .u8 82), (.int .i64 0)])),
  ([(.int .u8 53)], (.tup [(.int .u8 82), (.int .i64 0)])),
  ([(.int .u8 54)], (.tup [(.int .u8 82), (.int .i64 0)])),
  ([(.int .u8 55)], (.tup [(.int .u8 82), (.int .i64 0)])),
  ([(.int .u8 56)], (.tup [(.int .u8 82), (.int .i64 0)])),
  ([(.int .u8 57)], (.tup [(.int .u8 82), (.int .i64 0)])),
  ([(.int .u8 58)], (.tup [(.int .u8 82), (.int .i64 0)])),
  ([(.int .u8 59)], (.tup [(.int .u8 82), (.int .i64 0)])),
  ([(.int .u8 60)], (.tup [(.int .u8 82), (.int .i64 0)])),
  ([(.int .u8 61)], (.tup [(.int .u8 82), (.int .i64 0)])),
  ([(.int .u8 62)], (.tup [(.int .u8 82), (.int .i64 0)])),
  ([(.int .u8 63)], (.tup [(.int .u8 70), (.int .i64 0)])),
  ([(.int .u8 64)], (.tup [(.int .u8 78), (.int .i64 0)])),
  ([(.int .u8 66)], (.tup [(.int .u8 78), (.int .i64 0)]))]
theorem tab31_ok : TabG Tryz.prog vars 13 31 tab31 := tabG_of mixed o30_OK (by kernel_rfl)
noncomputable def o31 : Fa → ACall := orG o30 (fun _ => orcTabG vars 31 tab31)
theorem o31_OK : ∀ φ, OrcOK Tryz.prog 13 φ o31 := orG_OK o30_OK (tabG_OK varsOK tab31_ok)
/-- quoin/insn.Of -/
def tab132 : List (List AV × AV) := [
  ([(.str [108, 105])], (.tup [(.int .u8 0), (.int .i64 6)])),
  ([(.str [97, 100, 100, 105])], (.tup [(.int .u8 22), (.int .i64 0)])),
  ([(.str [97, 100, 100])], (.tup [(.int .u8 31), (.int .i64 0)])),
  ([(.str [98, 110, 101, 122])], (.tup [(.int .u8 0), (.int .i64 6)])),
  ([(.str [98, 110, 101])], (.tup [(.int .u8 6), (.int .i64 0)])),
  ([(.str [101, 99, 97, 108, 108])], (.tup [(.int .u8 65), (.int .i64 0)])),
  ([(.str [101, 98, 114, 101, 97, 107])], (.tup [(.int .u8 66), (.int .i64 0)])),
  ([(.str [108, 100])], (.tup [(.int .u8 14), (.int .i64 0)])),
  ([(.str [106, 97, 108, 114])], (.tup [(.int .u8 4), (.int .i64 0)]))]
theorem tab132_ok : TabG Tryz.prog vars 13 132 tab132 := tabG_of mixed o31_OK (by kernel_rfl)
noncomputable def o132 : Fa → ACall := orG o31 (fun _ => orcTabG vars 132 tab132)
theorem o132_OK : ∀ φ, OrcOK Tryz.prog 13 φ o132 := orG_OK o31_OK (tabG_OK varsOK tab132_ok)
/-- quoin/enc.Base -/
def tab105 : List (List AV × AV) := [
  ([(.int .u8 1)], (.tup [(.int .u32 55), (.int .i64 0)])),
  ([(.int .u8 2)], (.tup [(.int .u32 23), (.int .i64 0)])),
  ([(.int .u8 3)], (.tup [(.int .u32 111), (.int .i64 0)])),
  ([(.int .u8 4)], (.tup [(.int .u32 103), (.int .i64 0)])),
  ([(.int .u8 5)], (.tup [(.int .u32 99), (.int .i64 0)])),
  ([(.int .u8 6)], (.tup [(.int .u32 4195), (.int .i64 0)])),
  ([(.int .u8 7)], (.tup [(.int .u32 16483), (.int .i64 0)])),
  ([(.int .u8 8)], (.tup [(.int .u32 20579), (.int .i64 0)])),
  ([(.int .u8 9)], (.tup [(.int .u32 24675), (.int .i64 0)])),
  ([(.int .u8 10)], (.tup [(.int .u32 28771), (.int .i64 0)])),
  ([(.int .u8 11)], (.tup [(.int .u32 3), (.int .i64 0)])),
  ([(.int .u8 12)], (.tup [(.int .u32 4099), (.int .i64 0)])),
  ([(.int .u8 13)], (.tup [(.int .u32 8195), (.int .i64 0)])),
  ([(.int .u8 14)], (.tup [(.int .u32 12291), (.int .i64 0)])),
  ([(.int .u8 15)], (.tup [(.int .u32 16387), (.int .i64 0)])),
  ([(.int .u8 16)], (.tup [(.int .u32 20483), (.int .i64 0)])),
  ([(.int .u8 17)], (.tup [(.int .u32 24579), (.int .i64 0)])),
  ([(.int .u8 18)], (.tup [(.int .u32 35), (.int .i64 0)])),
  ([(.int .u8 19)], (.tup [(.int .u32 4131), (.int .i64 0)])),
  ([(.int .u8 20)], (.tup [(.int .u32 8227), (.int .i64 0)])),
  ([(.int .u8 21)], (.tup [(.int .u32 12323), (.int .i64 0)])),
  ([(.int .u8 22)], (.tup [(.int .u32 19), (.int .i64 0)])),
  ([(.int .u8 23)], (.tup [(.int .u32 8211), (.int .i64 0)])),
  ([(.int .u8 24)], (.tup [(.int .u32 12307), (.int .i64 0)])),
  ([(.int .u8 25)], (.tup [(.int .u32 16403), (.int .i64 0)])),
  ([(.int .u8 26)], (.tup [(.int .u32 24595), (.int .i64 0)])),
  ([(.int .u8 27)], (.tup [(.int .u32 28691), (.int .i64 0)])),
  ([(.int .u8 28)], (.tup [(.int .u32 4115), (.int .i64 0)])),
  ([(.int .u8 29)], (.tup [(.int .u32 20499), (.int .i64 0)])),
  ([(.int .u8 30)], (.tup [(.int .u32 1073762323), (.int .i64 0)])),
  ([(.int .u8 31)], (.tup [(.int .u32 51), (.int .i64 0)])),
  ([(.int .u8 32)], (.tup [(.int .u32 1073741875), (.int .i64 0)])),
  ([(.int .u8 33)], (.tup [(.int .u32 4147), (.int .i64 0)])),
  ([(.int .u8 34)], (.tup [(.int .u32 8243), (.int .i64 0)])),
  ([(.int .u8 35)], (.tup [(.int .u32 12339), (.int .i64 0)])),
  ([(.int .u8 36)], (.tup [(.int .u32 16435), (.int .i64 0)])),
  ([(.int .u8 37)], (.tup [(.int .u32 20531), (.int .i64 0)])),
  ([(.int .u8 38)], (.tup [(.int .u32 1073762355), (.int .i64 0)])),
  ([(.int .u8 39)], (.tup [(.int .u32 24627), (.int .i64 0)])),
  ([(.int .u8 40)], (.tup [(.int .u32 28723), (.int .i64 0)])),
  ([(.int .u8 41)], (.tup [(.int .u32 27), (.int .i64 0)])),
  ([(.int .u8 42)], (.tup [(.int .u32 4123), (.int .i64 0)])),
  ([(.int .u8 43)], (.tup [(.int .u32 20507), (.int .i64 0)])),
  ([(.int .u8 44)], (.tup [(.int .u32 1073762331), (.int .i64 0)])),
  ([(.int .u8 45)], (.tup [(.int .u32 59), (.int .i64 0)])),
  ([(.int .u8 46)], (.tup [(.int .u32 1073741883), (.int .i64 0)])),
  ([(.int .u8 47)], (.tup [(.int .u32 4155), (.int .i64 0)])),
  ([(.int .u8 48)], (.tup [(.int .u32 20539), (.int .i64 0)])),
  ([(.int .u8 49)], (.tup [(.int .u32 1073762363), (.int .i64 0)])),
  ([(.int .u8 50)], (.tup [(.int .u32 33554483), (.int .i64 0)])),
  ([(.int .u8 51)], (.tup [(.int .u32 33558579), (.int .i64 0)])),
  ([(.int .u8 52)], (.tup [(.int .u32 33562675), (.int .i64 0)])),
  ([(.int .u8 53)], (.tup [(.int .u32 33566771), (.int .i64 0)])),
  ([(.int .u8 54)], (.tup [(.int .u32 33570867), (.int .i64 0)])),
  ([(.int .u8 55)], (.tup [(.int .u32 33574963), (.int .i64 0)])),
  ([(.int .u8 56)], (.tup [(.int .u32 33579059), (.int .i64 0)])),
  ([(.int .u8 57)], (.tup [(.int .u32 33583155), (.int .i64 0)])),
  ([(.int .u8 58)], (.tup [(.int .u32 33554491), (.int .i64 0)])),
  ([(.int .u8 59)], (.tup [(.int .u32 33570875), (.int .i64 0)])),
  ([(.int .u8 60)], (.tup [(.int .u32 33574971), (.int .i64 0)])),
  ([(.int .u8 61)], (.tup [(.int .u32 33579067), (.int .i64 0)])),
  ([(.int .u8 62)], (.tup [(.int .u32 33583163), (.int .i64 0)])),
  ([(.int .u8 63)], (.tup [(.int .u32 15), (.int .i64 0)])),
  ([(.int .u8 64)], (.tup [(.int .u32 4111), (.int .i64 0)])),
  ([(.int .u8 65)], (.tup [(.int .u32 115), (.int .i64 0)])),
  ([(.int .u8 66)], (.tup [(.int .u32 1048691), (.int .i64 0)]))]
theorem tab105_ok : TabG Tryz.prog vars 13 105 tab105 := tabG_of mixed o132_OK (by kernel_rfl)
noncomputable def o105 : Fa → ACall := orG o132 (fun _ => orcTabG vars 105 tab105)
theorem o105_OK : ∀ φ, OrcOK Tryz.prog 13 φ o105 := orG_OK o132_OK (tabG_OK varsOK tab105_ok)
/-- quoin/dec.Fixed -/
def tab106 : List (List AV × AV) := [
  ([(.int .u8 85)], (.tup [(.int .u32 127), (.int .i64 0)])),
  ([(.int .u8 74)], (.tup [(.int .u32 127), (.int .i64 0)])),
  ([(.int .u8 76)], (.tup [(.int .u32 28799), (.int .i64 0)])),
  ([(.int .u8 66)], (.tup [(.int .u32 28799), (.int .i64 0)])),
  ([(.int .u8 83)], (.tup [(.int .u32 28799), (.int .i64 0)])),
  ([(.int .u8 73)], (.tup [(.int .u32 28799), (.int .i64 0)])),
  ([(.int .u8 54)], (.tup [(.int .u32 4227887231), (.int .i64 0)])),
  ([(.int .u8 82)], (.tup [(.int .u32 4261441663), (.int .i64 0)])),
  ([(.int .u8 53)], (.tup [(.int .u32 4261441663), (.int .i64 0)])),
  ([(.int .u8 70)], (.tup [(.int .u32 4027580415), (.int .i64 0)])),
  ([(.int .u8 78)], (.tup [(.int .u32 4294967295), (.int .i64 0)]))]
theorem tab106_ok : TabG Tryz.prog vars 13 106 tab106 := tabG_of mixed o105_OK (by kernel_rfl)
noncomputable def o106 : Fa → ACall := orG o105 (fun _ => orcTabG vars 106 tab106)
theorem o106_OK : ∀ φ, OrcOK Tryz.prog 13 φ o106 := orG_OK o105_OK (tabG_OK varsOK tab106_ok)
/-- quoin/dec.fields -/
def tab107 : List (List AV × AV) := [
  ([(.int .u8 22), (.int .u8 73), (.int .u32 1299)], (.agg [(.int .u8 22), (.int .i64 10), (.int .i64 0), (.int .i64 0), (.int .i64 0)])),
  ([(.int .u8 22), (.int .u8 73), (.int .u32 5243539)], (.agg [(.int .u8 22), (.int .i64 5), (.int .i64 0), (.int .i64 0), (.int .i64 5)])),
  ([(.int .u8 31), (.int .u8 82), (.int .u32 5571891)], (.agg [(.int .u8 31), (.int .i64 10), (.int .i64 10), (.int .i64 5), (.int .i64 0)])),
  ([(.int .u8 22), (.int .u8 73), (.int .u32 4294083219)], (.agg [(.int .u8 22), (.int .i64 5), (.int .i64 5), (.int .i64 0), (.int .i64 (-1))])),
  ([(.int .u8 6), (.int .u8 66), (.int .u32 4261584099)], (.agg [(.int .u8 6), (.int .i64 0), (.int .i64 5), (.int .i64 0), (.int .i64 (-8))])),
  ([(.int .u8 22), (.int .u8 73), (.int .u32 97519763)], (.agg [(.int .u8 22), (.int .i64 17), (.int .i64 0), (.int .i64 0), (.int .i64 93)])),
  ([(.int .u8 65), (.int .u8 78), (.int .u32 115)], (.agg [(.int .u8 65), (.int .i64 0), (.int .i64 0), (.int .i64 0), (.int .i64 0)])),
  ([(.int .u8 22), (.int .u8 73), (.int .u32 7341331)], (.agg [(.int .u8 22), (.int .i64 10), (.int .i64 0), (.int .i64 0), (.int .i64 7)])),
  ([(.int .u8 66), (.int .u8 78), (.int .u32 1048691)], (.agg [(.int .u8 66), (.int .i64 0), (.int .i64 0), (.int .i64 0), (.int .i64 0)])),
  ([(.int .u8 14), (.int .u8 76), (.int .u32 79107)], (.agg [(.int .u8 14), (.int .i64 10), (.int .i64 2), (.int .i64 0), (.int .i64 0)]))]
theorem tab107_ok : TabG Tryz.prog vars 13 107 tab107 := tabG_of mixed o106_OK (by kernel_rfl)
noncomputable def o107 : Fa → ACall := orG o106 (fun _ => orcTabG vars 107 tab107)
theorem o107_OK : ∀ φ, OrcOK Tryz.prog 13 φ o107 := orG_OK o106_OK (tabG_OK varsOK tab107_ok)
/-- quoin/insn.Check -/
def tab59 : List (List AV × AV) := [
  ([(.agg [(.int .u8 22), (.int .i64 10), (.int .i64 0), (.int .i64 0), (.int .i64 0)])], (.int .i64 0)),
  ([(.agg [(.int .u8 22), (.int .i64 5), (.int .i64 0), (.int .i64 0), (.int .i64 5)])], (.int .i64 0)),
  ([(.agg [(.int .u8 31), (.int .i64 10), (.int .i64 10), (.int .i64 5), (.int .i64 0)])], (.int .i64 0)),
  ([(.agg [(.int .u8 22), (.int .i64 5), (.int .i64 5), (.int .i64 0), (.int .i64 (-1))])], (.int .i64 0)),
  ([(.agg [(.int .u8 6), (.int .i64 0), (.int .i64 5), (.int .i64 0), (.int .i64 (-8))])], (.int .i64 0)),
  ([(.agg [(.int .u8 22), (.int .i64 17), (.int .i64 0), (.int .i64 0), (.int .i64 93)])], (.int .i64 0)),
  ([(.agg [(.int .u8 65), (.int .i64 0), (.int .i64 0), (.int .i64 0), (.int .i64 0)])], (.int .i64 0)),
  ([(.agg [(.int .u8 0), (.int .i64 0), (.int .i64 0), (.int .i64 0), (.int .i64 0)])], (.int .i64 20)),
  ([(.agg [(.int .u8 22), (.int .i64 10), (.int .i64 0), (.int .i64 0), (.int .i64 7)])], (.int .i64 0)),
  ([(.agg [(.int .u8 66), (.int .i64 0), (.int .i64 0), (.int .i64 0), (.int .i64 0)])], (.int .i64 0)),
  ([(.agg [(.int .u8 14), (.int .i64 10), (.int .i64 2), (.int .i64 0), (.int .i64 0)])], (.int .i64 0))]
theorem tab59_ok : TabG Tryz.prog vars 13 59 tab59 := tabG_of mixed o107_OK (by kernel_rfl)
noncomputable def o59 : Fa → ACall := orG o107 (fun _ => orcTabG vars 59 tab59)
theorem o59_OK : ∀ φ, OrcOK Tryz.prog 13 φ o59 := orG_OK o107_OK (tabG_OK varsOK tab59_ok)
/-- quoin/cenc.Half -/
def tab42 : List (List AV × AV) := [
  ([(.agg [(.int .u8 22), (.int .i64 10), (.int .i64 0), (.int .i64 0), (.int .i64 0)])], (.tup [(.int .u16 17665), (.int .i64 0)])),
  ([(.agg [(.int .u8 22), (.int .i64 5), (.int .i64 0), (.int .i64 0), (.int .i64 5)])], (.tup [(.int .u16 17045), (.int .i64 0)])),
  ([(.agg [(.int .u8 31), (.int .i64 10), (.int .i64 10), (.int .i64 5), (.int .i64 0)])], (.tup [(.int .u16 38166), (.int .i64 0)])),
  ([(.agg [(.int .u8 22), (.int .i64 5), (.int .i64 5), (.int .i64 0), (.int .i64 (-1))])], (.tup [(.int .u16 4861), (.int .i64 0)])),
  ([(.agg [(.int .u8 6), (.int .i64 0), (.int .i64 5), (.int .i64 0), (.int .i64 (-8))])], (.tup [(.int .u16 0), (.int .i64 6)])),
  ([(.agg [(.int .u8 22), (.int .i64 17), (.int .i64 0), (.int .i64 0), (.int .i64 93)])], (.tup [(.int .u16 0), (.int .i64 6)])),
  ([(.agg [(.int .u8 65), (.int .i64 0), (.int .i64 0), (.int .i64 0), (.int .i64 0)])], (.tup [(.int .u16 0), (.int .i64 6)])),
  ([(.agg [(.int .u8 0), (.int .i64 0), (.int .i64 0), (.int .i64 0), (.int .i64 0)])], (.tup [(.int .u16 0), (.int .i64 20)])),
  ([(.agg [(.int .u8 22), (.int .i64 10), (.int .i64 0), (.int .i64 0), (.int .i64 7)])], (.tup [(.int .u16 17693), (.int .i64 0)])),
  ([(.agg [(.int .u8 66), (.int .i64 0), (.int .i64 0), (.int .i64 0), (.int .i64 0)])], (.tup [(.int .u16 36866), (.int .i64 0)])),
  ([(.agg [(.int .u8 14), (.int .i64 10), (.int .i64 2), (.int .i64 0), (.int .i64 0)])], (.tup [(.int .u16 25858), (.int .i64 0)]))]
theorem tab42_ok : TabG Tryz.prog vars 13 42 tab42 := tabG_of mixed o59_OK (by kernel_rfl)
noncomputable def o42 : Fa → ACall := orG o59 (fun _ => orcTabG vars 42 tab42)
theorem o42_OK : ∀ φ, OrcOK Tryz.prog 13 φ o42 := orG_OK o59_OK (tabG_OK varsOK tab42_ok)
/-- quoin/enc.Word -/
def tab43 : List (List AV × AV) := [
  ([(.agg [(.int .u8 22), (.int .i64 10), (.int .i64 0), (.int .i64 0), (.int .i64 0)])], (.tup [(.int .u32 1299), (.int .i64 0)])),
  ([(.agg [(.int .u8 22), (.int .i64 5), (.int .i64 0), (.int .i64 0), (.int .i64 5)])], (.tup [(.int .u32 5243539), (.int .i64 0)])),
  ([(.agg [(.int .u8 31), (.int .i64 10), (.int .i64 10), (.int .i64 5), (.int .i64 0)])], (.tup [(.int .u32 5571891), (.int .i64 0)])),
  ([(.agg [(.int .u8 22), (.int .i64 5), (.int .i64 5), (.int .i64 0), (.int .i64 (-1))])], (.tup [(.int .u32 4294083219), (.int .i64 0)])),
  ([(.agg [(.int .u8 6), (.int .i64 0), (.int .i64 5), (.int .i64 0), (.int .i64 (-8))])], (.tup [(.int .u32 4261584099), (.int .i64 0)])),
  ([(.agg [(.int .u8 22), (.int .i64 17), (.int .i64 0), (.int .i64 0), (.int .i64 93)])], (.tup [(.int .u32 97519763), (.int .i64 0)])),
  ([(.agg [(.int .u8 65), (.int .i64 0), (.int .i64 0), (.int .i64 0), (.int .i64 0)])], (.tup [(.int .u32 115), (.int .i64 0)])),
  ([(.agg [(.int .u8 22), (.int .i64 10), (.int .i64 0), (.int .i64 0), (.int .i64 7)])], (.tup [(.int .u32 7341331), (.int .i64 0)])),
  ([(.agg [(.int .u8 66), (.int .i64 0), (.int .i64 0), (.int .i64 0), (.int .i64 0)])], (.tup [(.int .u32 1048691), (.int .i64 0)])),
  ([(.agg [(.int .u8 14), (.int .i64 10), (.int .i64 2), (.int .i64 0), (.int .i64 0)])], (.tup [(.int .u32 79107), (.int .i64 0)]))]
theorem tab43_ok : TabG Tryz.prog vars 13 43 tab43 := tabG_of mixed o42_OK (by kernel_rfl)
noncomputable def o43 : Fa → ACall := orG o42 (fun _ => orcTabG vars 43 tab43)
theorem o43_OK : ∀ φ, OrcOK Tryz.prog 13 φ o43 := orG_OK o42_OK (tabG_OK varsOK tab43_ok)
/-- quoin/cdec.Insn -/
def tab65 : List (List AV × AV) := [
  ([(.int .u16 1299)], (.tup [(.agg [(.int .u8 0), (.int .i64 0), (.int .i64 0), (.int .i64 0), (.int .i64 0)]), (.int .i64 60)])),
  ([(.int .u16 659)], (.tup [(.agg [(.int .u8 0), (.int .i64 0), (.int .i64 0), (.int .i64 0), (.int .i64 0)]), (.int .i64 60)])),
  ([(.int .u16 1331)], (.tup [(.agg [(.int .u8 0), (.int .i64 0), (.int .i64 0), (.int .i64 0), (.int .i64 0)]), (.int .i64 60)])),
  ([(.int .u16 33427)], (.tup [(.agg [(.int .u8 0), (.int .i64 0), (.int .i64 0), (.int .i64 0), (.int .i64 0)]), (.int .i64 60)])),
  ([(.int .u16 40163)], (.tup [(.agg [(.int .u8 0), (.int .i64 0), (.int .i64 0), (.int .i64 0), (.int .i64 0)]), (.int .i64 60)])),
  ([(.int .u16 2195)], (.tup [(.agg [(.int .u8 0), (.int .i64 0), (.int .i64 0), (.int .i64 0), (.int .i64 0)]), (.int .i64 60)])),
  ([(.int .u16 115)], (.tup [(.agg [(.int .u8 0), (.int .i64 0), (.int .i64 0), (.int .i64 0), (.int .i64 0)]), (.int .i64 60)])),
  ([(.int .u16 13571)], (.tup [(.agg [(.int .u8 0), (.int .i64 0), (.int .i64 0), (.int .i64 0), (.int .i64 0)]), (.int .i64 60)]))]
theorem tab65_ok : TabG Tryz.prog vars 13 65 tab65 := tabG_of mixed o43_OK (by kernel_rfl)
noncomputable def o65 : Fa → ACall := orG o43 (fun _ => orcTabG vars 65 tab65)
theorem o65_OK : ∀ φ, OrcOK Tryz.prog 13 φ o65 := orG_OK o43_OK (tabG_OK varsOK tab65_ok)
/-- quoin/dec.Insn -/
def tab66 : List (List AV × AV) := [
  ([(.int .u32 1299)], (.tup [(.agg [(.int .u8 22), (.int .i64 10), (.int .i64 0), (.int .i64 0), (.int .i64 0)]), (.int .i64 0)])),
  ([(.int .u32 5243539)], (.tup [(.agg [(.int .u8 22), (.int .i64 5), (.int .i64 0), (.int .i64 0), (.int .i64 5)]), (.int .i64 0)])),
  ([(.int .u32 5571891)], (.tup [(.agg [(.int .u8 31), (.int .i64 10), (.int .i64 10), (.int .i64 5), (.int .i64 0)]), (.int .i64 0)])),
  ([(.int .u32 4294083219)], (.tup [(.agg [(.int .u8 22), (.int .i64 5), (.int .i64 5), (.int .i64 0), (.int .i64 (-1))]), (.int .i64 0)])),
  ([(.int .u32 4261584099)], (.tup [(.agg [(.int .u8 6), (.int .i64 0), (.int .i64 5), (.int .i64 0), (.int .i64 (-8))]), (.int .i64 0)])),
  ([(.int .u32 97519763)], (.tup [(.agg [(.int .u8 22), (.int .i64 17), (.int .i64 0), (.int .i64 0), (.int .i64 93)]), (.int .i64 0)])),
  ([(.int .u32 115)], (.tup [(.agg [(.int .u8 65), (.int .i64 0), (.int .i64 0), (.int .i64 0), (.int .i64 0)]), (.int .i64 0)])),
  ([(.int .u32 7341331)], (.tup [(.agg [(.int .u8 22), (.int .i64 10), (.int .i64 0), (.int .i64 0), (.int .i64 7)]), (.int .i64 0)])),
  ([(.int .u32 1048691)], (.tup [(.agg [(.int .u8 66), (.int .i64 0), (.int .i64 0), (.int .i64 0), (.int .i64 0)]), (.int .i64 0)])),
  ([(.int .u32 79107)], (.tup [(.agg [(.int .u8 14), (.int .i64 10), (.int .i64 2), (.int .i64 0), (.int .i64 0)]), (.int .i64 0)]))]
theorem tab66_ok : TabG Tryz.prog vars 13 66 tab66 := tabG_of mixed o65_OK (by kernel_rfl)
noncomputable def o66 : Fa → ACall := orG o65 (fun _ => orcTabG vars 66 tab66)
theorem o66_OK : ∀ φ, OrcOK Tryz.prog 13 φ o66 := orG_OK o65_OK (tabG_OK varsOK tab66_ok)
/-- quoin/lex.name -/
def tab178 : List (List AV × AV) := [
  ([(.str [108, 105])], (.bool true)),
  ([(.str [97, 48])], (.bool true)),
  ([(.str [116, 48])], (.bool true)),
  ([(.str [97, 100, 100])], (.bool true)),
  ([(.str [49])], (.bool false)),
  ([(.str [97, 100, 100, 105])], (.bool true)),
  ([(.str [98, 110, 101, 122])], (.bool true)),
  ([(.str [97, 55])], (.bool true)),
  ([(.str [101, 99, 97, 108, 108])], (.bool true)),
  ([(.str [101, 98, 114, 101, 97, 107])], (.bool true)),
  ([(.str [108, 100])], (.bool true)),
  ([(.str [115, 112])], (.bool true))]
theorem tab178_ok : TabG Tryz.prog vars 13 178 tab178 := tabG_of mixed o66_OK (by kernel_rfl)
noncomputable def o178 : Fa → ACall := orG o66 (fun _ => orcTabG vars 178 tab178)
theorem o178_OK : ∀ φ, OrcOK Tryz.prog 13 φ o178 := orG_OK o66_OK (tabG_OK varsOK tab178_ok)
/-- quoin/lex.number -/
def tab180 : List (List AV × AV) := [
  ([(.str [48])], (.tup [(.int .i64 0), (.int .i64 1)])),
  ([(.str [53])], (.tup [(.int .i64 5), (.int .i64 1)])),
  ([(.str [49, 58, 32, 97, 100, 100, 32, 97, 48, 44, 32, 97, 48, 44, 32, 116, 48])], (.tup [(.int .i64 1), (.int .i64 1)])),
  ([(.str [49])], (.tup [(.int .i64 1), (.int .i64 1)])),
  ([(.str [56])], (.tup [(.int .i64 8), (.int .i64 1)])),
  ([(.str [57, 51])], (.tup [(.int .i64 93), (.int .i64 2)])),
  ([(.str [55])], (.tup [(.int .i64 7), (.int .i64 1)]))]
theorem tab180_ok : TabG Tryz.prog vars 13 180 tab180 := tabG_of mixed o178_OK (by kernel_rfl)
noncomputable def o180 : Fa → ACall := orG o178 (fun _ => orcTabG vars 180 tab180)
theorem o180_OK : ∀ φ, OrcOK Tryz.prog 13 φ o180 := orG_OK o178_OK (tabG_OK varsOK tab180_ok)
/-- quoin/lex.Check -/
def tab266 : List (List AV × AV) := [
  ([(.agg [(.int .u8 1), (.str [108, 105]), (.int .i64 0)])], (.int .i64 0)),
  ([(.agg [(.int .u8 1), (.str [97, 48]), (.int .i64 0)])], (.int .i64 0)),
  ([(.agg [(.int .u8 4), (.str [44]), (.int .i64 0)])], (.int .i64 0)),
  ([(.agg [(.int .u8 2), (.str []), (.int .i64 0)])], (.int .i64 0)),
  ([(.agg [(.int .u8 1), (.str [116, 48]), (.int .i64 0)])], (.int .i64 0)),
  ([(.agg [(.int .u8 2), (.str []), (.int .i64 5)])], (.int .i64 0)),
  ([(.agg [(.int .u8 1), (.str [49]), (.int .i64 0)])], (.int .i64 8)),
  ([(.agg [(.int .u8 1), (.str [97, 100, 100]), (.int .i64 0)])], (.int .i64 0)),
  ([(.agg [(.int .u8 1), (.str [97, 100, 100, 105]), (.int .i64 0)])], (.int .i64 0)),
  ([(.agg [(.int .u8 4), (.str [45]), (.int .i64 0)])], (.int .i64 0)),
  ([(.agg [(.int .u8 2), (.str []), (.int .i64 1)])], (.int .i64 0)),
  ([(.agg [(.int .u8 1), (.str [98, 110, 101, 122]), (.int .i64 0)])], (.int .i64 0)),
  ([(.agg [(.int .u8 2), (.str []), (.int .i64 8)])], (.int .i64 0)),
  ([(.agg [(.int .u8 1), (.str [97, 55]), (.int .i64 0)])], (.int .i64 0)),
  ([(.agg [(.int .u8 2), (.str []), (.int .i64 93)])], (.int .i64 0)),
  ([(.agg [(.int .u8 1), (.str [101, 99, 97, 108, 108]), (.int .i64 0)])], (.int .i64 0)),
  ([(.agg [(.int .u8 2), (.str []), (.int .i64 7)])], (.int .i64 0)),
  ([(.agg [(.int .u8 1), (.str [101, 98, 114, 101, 97, 107]), (.int .i64 0)])], (.int .i64 0)),
  ([(.agg [(.int .u8 1), (.str [108, 100]), (.int .i64 0)])], (.int .i64 0))]
theorem tab266_ok : TabG Tryz.prog vars 13 266 tab266 := tabG_of mixed o180_OK (by kernel_rfl)
noncomputable def o266 : Fa → ACall := orG o180 (fun _ => orcTabG vars 266 tab266)
theorem o266_OK : ∀ φ, OrcOK Tryz.prog 13 φ o266 := orG_OK o180_OK (tabG_OK varsOK tab266_ok)
/-- quoin/line.Register -/
def tab263 : List (List AV × AV) := [
  ([(.str [97, 48])], (.tup [(.int .i64 10), (.int .i64 0)])),
  ([(.str [])], (.tup [(.int .i64 0), (.int .i64 6)])),
  ([(.str [116, 48])], (.tup [(.int .i64 5), (.int .i64 0)])),
  ([(.str [97, 55])], (.tup [(.int .i64 17), (.int .i64 0)])),
  ([(.str [115, 112])], (.tup [(.int .i64 2), (.int .i64 0)]))]
theorem tab263_ok : TabG Tryz.prog vars 13 263 tab263 := tabG_of mixed o266_OK (by kernel_rfl)
noncomputable def o263 : Fa → ACall := orG o266 (fun _ => orcTabG vars 263 tab263)
theorem o263_OK : ∀ φ, OrcOK Tryz.prog 13 φ o263 := orG_OK o266_OK (tabG_OK varsOK tab263_ok)
/-- quoin/line.Called -/
def tab269 : List (List AV × AV) := [
  ([(.int .i64 10)], (.tup [(.str [97, 48]), (.int .i64 0)])),
  ([(.int .i64 0)], (.tup [(.str [122, 101, 114, 111]), (.int .i64 0)])),
  ([(.int .i64 5)], (.tup [(.str [116, 48]), (.int .i64 0)])),
  ([(.int .i64 17)], (.tup [(.str [97, 55]), (.int .i64 0)])),
  ([(.int .i64 2)], (.tup [(.str [115, 112]), (.int .i64 0)]))]
theorem tab269_ok : TabG Tryz.prog vars 13 269 tab269 := tabG_of mixed o263_OK (by kernel_rfl)
noncomputable def o269 : Fa → ACall := orG o263 (fun _ => orcTabG vars 269 tab269)
theorem o269_OK : ∀ φ, OrcOK Tryz.prog 13 φ o269 := orG_OK o263_OK (tabG_OK varsOK tab269_ok)
/-- quoin/line.sum -/
def tab184 : List (List AV × AV) := [
  ([(.agg [(.str []), (.str []), (.int .i64 0), (.int .u8 0)])], (.bool true)),
  ([(.agg [(.str []), (.str []), (.int .i64 5), (.int .u8 0)])], (.bool true)),
  ([(.agg [(.str []), (.str []), (.int .i64 (-1)), (.int .u8 0)])], (.bool true)),
  ([(.agg [(.str []), (.str []), (.int .i64 (-8)), (.int .u8 0)])], (.bool true)),
  ([(.agg [(.str []), (.str []), (.int .i64 93), (.int .u8 0)])], (.bool true)),
  ([(.agg [(.str []), (.str []), (.int .i64 7), (.int .u8 0)])], (.bool true))]
theorem tab184_ok : TabG Tryz.prog vars 13 184 tab184 := tabG_of mixed o269_OK (by kernel_rfl)
noncomputable def o184 : Fa → ACall := orG o269 (fun _ => orcTabG vars 184 tab184)
theorem o184_OK : ∀ φ, OrcOK Tryz.prog 13 φ o184 := orG_OK o269_OK (tabG_OK varsOK tab184_ok)
end Go.Proofs.YtoehlmiadiiimaaGreatDoor
