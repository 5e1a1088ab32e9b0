/-
  The examples of layer 19: the variables as laid; tables of closed calls (printed by a program of mine, proved by the kernel).
-/
import Derived.Test.YtgafnmpbnjalhaaGreatDoorExpA
import Derived.Test.YtgafnmpbnjalhaaGreatDoorExExt
namespace Go.Proofs.YtgafnmpbnjalhaaGreatDoor
open Go.Proofs.YtgafnmpbnjalhaaGreatDoor.Ex

/-- quoin/insn.names -/
def var1 : List AV := [(.str [108, 117, 105]), (.str [97, 117, 105, 112, 99]), (.str [106, 97, 108]), (.str [106, 97, 108, 114]), (.str [98, 101, 113]), (.str [98, 110, 101]), (.str [98, 108, 116]), (.str [98, 103, 101]), (.str [98, 108, 116, 117]), (.str [98, 103, 101, 117]), (.str [108, 98]), (.str [108, 104]), (.str [108, 119]), (.str [108, 100]), (.str [108, 98, 117]), (.str [108, 104, 117]), (.str [108, 119, 117]), (.str [115, 98]), (.str [115, 104]), (.str [115, 119]), (.str [115, 100]), (.str [97, 100, 100, 105]), (.str [115, 108, 116, 105]), (.str [115, 108, 116, 105, 117]), (.str [120, 111, 114, 105]), (.str [111, 114, 105]), (.str [97, 110, 100, 105]), (.str [115, 108, 108, 105]), (.str [115, 114, 108, 105]), (.str [115, 114, 97, 105]), (.str [97, 100, 100]), (.str [115, 117, 98]), (.str [115, 108, 108]), (.str [115, 108, 116]), (.str [115, 108, 116, 117]), (.str [120, 111, 114]), (.str [115, 114, 108]), (.str [115, 114, 97]), (.str [111, 114]), (.str [97, 110, 100]), (.str [97, 100, 100, 105, 119]), (.str [115, 108, 108, 105, 119]), (.str [115, 114, 108, 105, 119]), (.str [115, 114, 97, 105, 119]), (.str [97, 100, 100, 119]), (.str [115, 117, 98, 119]), (.str [115, 108, 108, 119]), (.str [115, 114, 108, 119]), (.str [115, 114, 97, 119]), (.str [109, 117, 108]), (.str [109, 117, 108, 104]), (.str [109, 117, 108, 104, 115, 117]), (.str [109, 117, 108, 104, 117]), (.str [100, 105, 118]), (.str [100, 105, 118, 117]), (.str [114, 101, 109]), (.str [114, 101, 109, 117]), (.str [109, 117, 108, 119]), (.str [100, 105, 118, 119]), (.str [100, 105, 118, 117, 119]), (.str [114, 101, 109, 119]), (.str [114, 101, 109, 117, 119]), (.str [102, 101, 110, 99, 101]), (.str [102, 101, 110, 99, 101, 46, 105]), (.str [101, 99, 97, 108, 108]), (.str [101, 98, 114, 101, 97, 107]), (.str [99, 115, 114, 114, 119]), (.str [99, 115, 114, 114, 115]), (.str [99, 115, 114, 114, 99]), (.str [99, 115, 114, 114, 119, 105]), (.str [99, 115, 114, 114, 115, 105]), (.str [99, 115, 114, 114, 99, 105]), (.str [108, 114, 46, 119]), (.str [115, 99, 46, 119]), (.str [97, 109, 111, 115, 119, 97, 112, 46, 119]), (.str [97, 109, 111, 97, 100, 100, 46, 119]), (.str [97, 109, 111, 120, 111, 114, 46, 119]), (.str [97, 109, 111, 97, 110, 100, 46, 119]), (.str [97, 109, 111, 111, 114, 46, 119]), (.str [97, 109, 111, 109, 105, 110, 46, 119]), (.str [97, 109, 111, 109, 97, 120, 46, 119]), (.str [97, 109, 111, 109, 105, 110, 117, 46, 119]), (.str [97, 109, 111, 109, 97, 120, 117, 46, 119]), (.str [108, 114, 46, 100]), (.str [115, 99, 46, 100]), (.str [97, 109, 111, 115, 119, 97, 112, 46, 100]), (.str [97, 109, 111, 97, 100, 100, 46, 100]), (.str [97, 109, 111, 120, 111, 114, 46, 100]), (.str [97, 109, 111, 97, 110, 100, 46, 100]), (.str [97, 109, 111, 111, 114, 46, 100]), (.str [97, 109, 111, 109, 105, 110, 46, 100]), (.str [97, 109, 111, 109, 97, 120, 46, 100]), (.str [97, 109, 111, 109, 105, 110, 117, 46, 100]), (.str [97, 109, 111, 109, 97, 120, 117, 46, 100])]
/-- quoin/enc.bases -/
def var2 : List AV := [(.int .u32 55), (.int .u32 23), (.int .u32 111), (.int .u32 103), (.int .u32 99), (.int .u32 4195), (.int .u32 16483), (.int .u32 20579), (.int .u32 24675), (.int .u32 28771), (.int .u32 3), (.int .u32 4099), (.int .u32 8195), (.int .u32 12291), (.int .u32 16387), (.int .u32 20483), (.int .u32 24579), (.int .u32 35), (.int .u32 4131), (.int .u32 8227), (.int .u32 12323), (.int .u32 19), (.int .u32 8211), (.int .u32 12307), (.int .u32 16403), (.int .u32 24595), (.int .u32 28691), (.int .u32 4115), (.int .u32 20499), (.int .u32 1073762323), (.int .u32 51), (.int .u32 1073741875), (.int .u32 4147), (.int .u32 8243), (.int .u32 12339), (.int .u32 16435), (.int .u32 20531), (.int .u32 1073762355), (.int .u32 24627), (.int .u32 28723), (.int .u32 27), (.int .u32 4123), (.int .u32 20507), (.int .u32 1073762331), (.int .u32 59), (.int .u32 1073741883), (.int .u32 4155), (.int .u32 20539), (.int .u32 1073762363), (.int .u32 33554483), (.int .u32 33558579), (.int .u32 33562675), (.int .u32 33566771), (.int .u32 33570867), (.int .u32 33574963), (.int .u32 33579059), (.int .u32 33583155), (.int .u32 33554491), (.int .u32 33570875), (.int .u32 33574971), (.int .u32 33579067), (.int .u32 33583163), (.int .u32 15), (.int .u32 4111), (.int .u32 115), (.int .u32 1048691), (.int .u32 4211), (.int .u32 8307), (.int .u32 12403), (.int .u32 20595), (.int .u32 24691), (.int .u32 28787), (.int .u32 268443695), (.int .u32 402661423), (.int .u32 134225967), (.int .u32 8239), (.int .u32 536879151), (.int .u32 1610620975), (.int .u32 1073750063), (.int .u32 2147491887), (.int .u32 2684362799), (.int .u32 3221233711), (.int .u32 3758104623), (.int .u32 268447791), (.int .u32 402665519), (.int .u32 134230063), (.int .u32 12335), (.int .u32 536883247), (.int .u32 1610625071), (.int .u32 1073754159), (.int .u32 2147495983), (.int .u32 2684366895), (.int .u32 3221237807), (.int .u32 3758108719)]
/-- quoin/line.registers -/
def var3 : List AV := [(.str [122, 101, 114, 111]), (.str [114, 97]), (.str [115, 112]), (.str [103, 112]), (.str [116, 112]), (.str [116, 48]), (.str [116, 49]), (.str [116, 50]), (.str [115, 48]), (.str [115, 49]), (.str [97, 48]), (.str [97, 49]), (.str [97, 50]), (.str [97, 51]), (.str [97, 52]), (.str [97, 53]), (.str [97, 54]), (.str [97, 55]), (.str [115, 50]), (.str [115, 51]), (.str [115, 52]), (.str [115, 53]), (.str [115, 54]), (.str [115, 55]), (.str [115, 56]), (.str [115, 57]), (.str [115, 49, 48]), (.str [115, 49, 49]), (.str [116, 51]), (.str [116, 52]), (.str [116, 53]), (.str [116, 54])]
/-- quoin/expr.mods -/
def var4 : List AV := [(.str [37, 104, 105]), (.str [37, 108, 111]), (.str [37, 112, 99, 114, 101, 108, 95, 104, 105]), (.str [37, 112, 99, 114, 101, 108, 95, 108, 111])]
def vars : Vars := [(1, var1), (2, var2), (3, var3), (4, var4)]
theorem varsOK : VarsOK vars 14 where
  lits := by
    have h : (vars.all fun x => isLits x.2) = true := by kernel_rfl
    exact fun x hx => List.all_eq_true.1 h x hx
  lt := by
    have h : (vars.all fun x => Nat.blt x.1 14) = true := by kernel_rfl
    exact fun x hx => Nat.le_of_ble_eq_true (List.all_eq_true.1 h x hx)
  one := by
    intro x hx y hy e
    simp only [vars, List.mem_cons, List.not_mem_nil, or_false] at hx hy
    rcases hx with rfl | rfl | rfl | rfl <;> rcases hy with rfl | rfl | rfl | rfl <;> first | rfl | (exfalso; revert e; decide)
noncomputable def oExt : Fa → ACall := orG (fun _ => orcCnt 70) (fun _ => orcIdx 194)
theorem oExt_OK : ∀ φ, OrcOK Tryz.prog 14 φ oExt := orcExt_OK count_one index_byte
/-- quoin/insn.Name -/
def tab25 : List (List AV × AV) := [
]
theorem tab25_ok : TabG Tryz.prog vars 14 25 tab25 := tabG_of mixed oExt_OK (by kernel_rfl)
noncomputable def o25 : Fa → ACall := orG oExt (fun _ => orcTabG vars 25 tab25)
theorem o25_OK : ∀ φ, OrcOK Tryz.prog 14 φ o25 := orG_OK oExt_OK (tabG_OK varsOK tab25_ok)
/-- quoin/insn.Form -/
def tab21 : List (List AV × AV) := [
  ([(.int .u8 2)], (.tup [(.int .u8 85), (.int .i64 0)])),
  ([(.int .u8 4)], (.tup [(.int .u8 76), (.int .i64 0)])),
  ([(.int .u8 22)], (.tup [(.int .u8 73), (.int .i64 0)])),
  ([(.int .u8 50)], (.tup [(.int .u8 82), (.int .i64 0)]))]
theorem tab21_ok : TabG Tryz.prog vars 14 21 tab21 := tabG_of mixed o25_OK (by kernel_rfl)
noncomputable def o21 : Fa → ACall := orG o25 (fun _ => orcTabG vars 21 tab21)
theorem o21_OK : ∀ φ, OrcOK Tryz.prog 14 φ o21 := orG_OK o25_OK (tabG_OK varsOK tab21_ok)
/-- quoin/insn.Of -/
def tab79 : List (List AV × AV) := [
  ([(.str [99, 97, 108, 108])], (.tup [(.int .u8 0), (.int .i64 6)])),
  ([(.str [97, 117, 105, 112, 99])], (.tup [(.int .u8 2), (.int .i64 0)])),
  ([(.str [106, 97, 108, 114])], (.tup [(.int .u8 4), (.int .i64 0)])),
  ([(.str [108, 97])], (.tup [(.int .u8 0), (.int .i64 6)])),
  ([(.str [97, 100, 100, 105])], (.tup [(.int .u8 22), (.int .i64 0)])),
  ([(.str [102, 111, 111])], (.tup [(.int .u8 0), (.int .i64 6)])),
  ([(.str [109, 117, 108])], (.tup [(.int .u8 50), (.int .i64 0)])),
  ([(.str [108, 105])], (.tup [(.int .u8 0), (.int .i64 6)])),
  ([(.str [46, 111, 112, 116, 105, 111, 110])], (.tup [(.int .u8 0), (.int .i64 6)]))]
theorem tab79_ok : TabG Tryz.prog vars 14 79 tab79 := tabG_of mixed o21_OK (by kernel_rfl)
noncomputable def o79 : Fa → ACall := orG o21 (fun _ => orcTabG vars 79 tab79)
theorem o79_OK : ∀ φ, OrcOK Tryz.prog 14 φ o79 := orG_OK o21_OK (tabG_OK varsOK tab79_ok)
/-- quoin/enc.Base -/
def tab63 : List (List AV × AV) := [
]
theorem tab63_ok : TabG Tryz.prog vars 14 63 tab63 := tabG_of mixed o79_OK (by kernel_rfl)
noncomputable def o63 : Fa → ACall := orG o79 (fun _ => orcTabG vars 63 tab63)
theorem o63_OK : ∀ φ, OrcOK Tryz.prog 14 φ o63 := orG_OK o79_OK (tabG_OK varsOK tab63_ok)
/-- quoin/dec.Fixed -/
def tab64 : List (List AV × AV) := [
]
theorem tab64_ok : TabG Tryz.prog vars 14 64 tab64 := tabG_of mixed o63_OK (by kernel_rfl)
noncomputable def o64 : Fa → ACall := orG o63 (fun _ => orcTabG vars 64 tab64)
theorem o64_OK : ∀ φ, OrcOK Tryz.prog 14 φ o64 := orG_OK o63_OK (tabG_OK varsOK tab64_ok)
/-- quoin/dec.fields -/
def tab65 : List (List AV × AV) := [
]
theorem tab65_ok : TabG Tryz.prog vars 14 65 tab65 := tabG_of mixed o64_OK (by kernel_rfl)
noncomputable def o65 : Fa → ACall := orG o64 (fun _ => orcTabG vars 65 tab65)
theorem o65_OK : ∀ φ, OrcOK Tryz.prog 14 φ o65 := orG_OK o64_OK (tabG_OK varsOK tab65_ok)
/-- quoin/insn.Check -/
def tab12 : List (List AV × AV) := [
  ([(.agg [(.int .u8 2), (.int .i64 1), (.int .i64 0), (.int .i64 0), (.int .i64 0)])], (.int .i64 0)),
  ([(.agg [(.int .u8 4), (.int .i64 1), (.int .i64 1), (.int .i64 0), (.int .i64 0)])], (.int .i64 0)),
  ([(.agg [(.int .u8 2), (.int .i64 10), (.int .i64 0), (.int .i64 0), (.int .i64 0)])], (.int .i64 0)),
  ([(.agg [(.int .u8 22), (.int .i64 10), (.int .i64 10), (.int .i64 0), (.int .i64 0)])], (.int .i64 0)),
  ([(.agg [(.int .u8 22), (.int .i64 10), (.int .i64 0), (.int .i64 0), (.int .i64 0)])], (.int .i64 0)),
  ([(.agg [(.int .u8 50), (.int .i64 10), (.int .i64 10), (.int .i64 11), (.int .i64 0)])], (.int .i64 0)),
  ([(.agg [(.int .u8 22), (.int .i64 10), (.int .i64 10), (.int .i64 0), (.int .i64 1)])], (.int .i64 0))]
theorem tab12_ok : TabG Tryz.prog vars 14 12 tab12 := tabG_of mixed o65_OK (by kernel_rfl)
noncomputable def o12 : Fa → ACall := orG o65 (fun _ => orcTabG vars 12 tab12)
theorem o12_OK : ∀ φ, OrcOK Tryz.prog 14 φ o12 := orG_OK o65_OK (tabG_OK varsOK tab12_ok)
/-- quoin/cenc.Half -/
def tab46 : List (List AV × AV) := [
  ([(.agg [(.int .u8 2), (.int .i64 10), (.int .i64 0), (.int .i64 0), (.int .i64 0)])], (.tup [(.int .u16 0), (.int .i64 6)])),
  ([(.agg [(.int .u8 22), (.int .i64 10), (.int .i64 10), (.int .i64 0), (.int .i64 0)])], (.tup [(.int .u16 0), (.int .i64 6)])),
  ([(.agg [(.int .u8 50), (.int .i64 10), (.int .i64 10), (.int .i64 11), (.int .i64 0)])], (.tup [(.int .u16 0), (.int .i64 6)])),
  ([(.agg [(.int .u8 22), (.int .i64 10), (.int .i64 10), (.int .i64 0), (.int .i64 1)])], (.tup [(.int .u16 1285), (.int .i64 0)]))]
theorem tab46_ok : TabG Tryz.prog vars 14 46 tab46 := tabG_of mixed o12_OK (by kernel_rfl)
noncomputable def o46 : Fa → ACall := orG o12 (fun _ => orcTabG vars 46 tab46)
theorem o46_OK : ∀ φ, OrcOK Tryz.prog 14 φ o46 := orG_OK o12_OK (tabG_OK varsOK tab46_ok)
/-- quoin/enc.Word -/
def tab205 : List (List AV × AV) := [
  ([(.agg [(.int .u8 2), (.int .i64 1), (.int .i64 0), (.int .i64 0), (.int .i64 0)])], (.tup [(.int .u32 151), (.int .i64 0)])),
  ([(.agg [(.int .u8 4), (.int .i64 1), (.int .i64 1), (.int .i64 0), (.int .i64 0)])], (.tup [(.int .u32 32999), (.int .i64 0)])),
  ([(.agg [(.int .u8 2), (.int .i64 10), (.int .i64 0), (.int .i64 0), (.int .i64 0)])], (.tup [(.int .u32 1303), (.int .i64 0)])),
  ([(.agg [(.int .u8 22), (.int .i64 10), (.int .i64 10), (.int .i64 0), (.int .i64 0)])], (.tup [(.int .u32 328979), (.int .i64 0)])),
  ([(.agg [(.int .u8 50), (.int .i64 10), (.int .i64 10), (.int .i64 11), (.int .i64 0)])], (.tup [(.int .u32 45417779), (.int .i64 0)])),
  ([(.agg [(.int .u8 22), (.int .i64 10), (.int .i64 10), (.int .i64 0), (.int .i64 1)])], (.tup [(.int .u32 1377555), (.int .i64 0)]))]
theorem tab205_ok : TabG Tryz.prog vars 14 205 tab205 := tabG_of mixed o46_OK (by kernel_rfl)
noncomputable def o205 : Fa → ACall := orG o46 (fun _ => orcTabG vars 205 tab205)
theorem o205_OK : ∀ φ, OrcOK Tryz.prog 14 φ o205 := orG_OK o46_OK (tabG_OK varsOK tab205_ok)
/-- quoin/cdec.Insn -/
def tab45 : List (List AV × AV) := [
]
theorem tab45_ok : TabG Tryz.prog vars 14 45 tab45 := tabG_of mixed o205_OK (by kernel_rfl)
noncomputable def o45 : Fa → ACall := orG o205 (fun _ => orcTabG vars 45 tab45)
theorem o45_OK : ∀ φ, OrcOK Tryz.prog 14 φ o45 := orG_OK o205_OK (tabG_OK varsOK tab45_ok)
/-- quoin/dec.Insn -/
def tab44 : List (List AV × AV) := [
]
theorem tab44_ok : TabG Tryz.prog vars 14 44 tab44 := tabG_of mixed o45_OK (by kernel_rfl)
noncomputable def o44 : Fa → ACall := orG o45 (fun _ => orcTabG vars 44 tab44)
theorem o44_OK : ∀ φ, OrcOK Tryz.prog 14 φ o44 := orG_OK o45_OK (tabG_OK varsOK tab44_ok)
/-- quoin/lex.name -/
def tab88 : List (List AV × AV) := [
  ([(.str [99, 97, 108, 108])], (.bool true)),
  ([(.str [102])], (.bool true)),
  ([(.str [108, 97])], (.bool true)),
  ([(.str [97, 48])], (.bool true)),
  ([(.str [120])], (.bool true)),
  ([(.str [102, 111, 111])], (.bool true)),
  ([(.str [97, 100, 100, 105])], (.bool true)),
  ([(.str [99, 46, 109, 117, 108])], (.bool true)),
  ([(.str [97, 49])], (.bool true)),
  ([(.str [108, 105])], (.bool true)),
  ([(.str [97])], (.bool true)),
  ([(.str [46, 111, 112, 116, 105, 111, 110])], (.bool true)),
  ([(.str [114, 118, 99])], (.bool true))]
theorem tab88_ok : TabG Tryz.prog vars 14 88 tab88 := tabG_of mixed o44_OK (by kernel_rfl)
noncomputable def o88 : Fa → ACall := orG o44 (fun _ => orcTabG vars 88 tab88)
theorem o88_OK : ∀ φ, OrcOK Tryz.prog 14 φ o88 := orG_OK o44_OK (tabG_OK varsOK tab88_ok)
/-- quoin/lex.number -/
def tab119 : List (List AV × AV) := [
  ([(.str [49])], (.tup [(.int .i64 1), (.int .i64 1)]))]
theorem tab119_ok : TabG Tryz.prog vars 14 119 tab119 := tabG_of mixed o88_OK (by kernel_rfl)
noncomputable def o119 : Fa → ACall := orG o88 (fun _ => orcTabG vars 119 tab119)
theorem o119_OK : ∀ φ, OrcOK Tryz.prog 14 φ o119 := orG_OK o88_OK (tabG_OK varsOK tab119_ok)
/-- quoin/lex.Check -/
def tab84 : List (List AV × AV) := [
  ([(.agg [(.int .u8 1), (.str [99, 97, 108, 108]), (.int .i64 0)])], (.int .i64 0)),
  ([(.agg [(.int .u8 1), (.str [102]), (.int .i64 0)])], (.int .i64 0)),
  ([(.agg [(.int .u8 1), (.str [108, 97]), (.int .i64 0)])], (.int .i64 0)),
  ([(.agg [(.int .u8 1), (.str [97, 48]), (.int .i64 0)])], (.int .i64 0)),
  ([(.agg [(.int .u8 4), (.str [44]), (.int .i64 0)])], (.int .i64 0)),
  ([(.agg [(.int .u8 1), (.str [120]), (.int .i64 0)])], (.int .i64 0)),
  ([(.agg [(.int .u8 1), (.str [102, 111, 111]), (.int .i64 0)])], (.int .i64 0)),
  ([(.agg [(.int .u8 1), (.str [97, 100, 100, 105]), (.int .i64 0)])], (.int .i64 0)),
  ([(.agg [(.int .u8 1), (.str [99, 46, 109, 117, 108]), (.int .i64 0)])], (.int .i64 0)),
  ([(.agg [(.int .u8 1), (.str [108, 105]), (.int .i64 0)])], (.int .i64 0)),
  ([(.agg [(.int .u8 1), (.str [97]), (.int .i64 0)])], (.int .i64 0)),
  ([(.agg [(.int .u8 4), (.str [58]), (.int .i64 0)])], (.int .i64 0)),
  ([(.agg [(.int .u8 2), (.str []), (.int .i64 1)])], (.int .i64 0)),
  ([(.agg [(.int .u8 1), (.str [46, 111, 112, 116, 105, 111, 110]), (.int .i64 0)])], (.int .i64 0)),
  ([(.agg [(.int .u8 1), (.str [114, 118, 99]), (.int .i64 0)])], (.int .i64 0))]
theorem tab84_ok : TabG Tryz.prog vars 14 84 tab84 := tabG_of mixed o119_OK (by kernel_rfl)
noncomputable def o84 : Fa → ACall := orG o119 (fun _ => orcTabG vars 84 tab84)
theorem o84_OK : ∀ φ, OrcOK Tryz.prog 14 φ o84 := orG_OK o119_OK (tabG_OK varsOK tab84_ok)
/-- quoin/line.Register -/
def tab180 : List (List AV × AV) := [
  ([(.str [102])], (.tup [(.int .i64 0), (.int .i64 6)])),
  ([(.str [97, 48])], (.tup [(.int .i64 10), (.int .i64 0)])),
  ([(.str [120])], (.tup [(.int .i64 0), (.int .i64 6)])),
  ([(.str [])], (.tup [(.int .i64 0), (.int .i64 6)])),
  ([(.str [97, 49])], (.tup [(.int .i64 11), (.int .i64 0)])),
  ([(.str [114, 118, 99])], (.tup [(.int .i64 0), (.int .i64 6)]))]
theorem tab180_ok : TabG Tryz.prog vars 14 180 tab180 := tabG_of mixed o84_OK (by kernel_rfl)
noncomputable def o180 : Fa → ACall := orG o84 (fun _ => orcTabG vars 180 tab180)
theorem o180_OK : ∀ φ, OrcOK Tryz.prog 14 φ o180 := orG_OK o84_OK (tabG_OK varsOK tab180_ok)
/-- quoin/line.Called -/
def tab85 : List (List AV × AV) := [
  ([(.int .i64 0)], (.tup [(.str [122, 101, 114, 111]), (.int .i64 0)])),
  ([(.int .i64 10)], (.tup [(.str [97, 48]), (.int .i64 0)])),
  ([(.int .i64 11)], (.tup [(.str [97, 49]), (.int .i64 0)]))]
theorem tab85_ok : TabG Tryz.prog vars 14 85 tab85 := tabG_of mixed o180_OK (by kernel_rfl)
noncomputable def o85 : Fa → ACall := orG o180 (fun _ => orcTabG vars 85 tab85)
theorem o85_OK : ∀ φ, OrcOK Tryz.prog 14 φ o85 := orG_OK o180_OK (tabG_OK varsOK tab85_ok)
/-- quoin/line.sum -/
def tab87 : List (List AV × AV) := [
  ([(.agg [(.str [102]), (.str []), (.int .i64 0), (.int .u8 0)])], (.bool true)),
  ([(.agg [(.str [120]), (.str []), (.int .i64 0), (.int .u8 0)])], (.bool true)),
  ([(.agg [(.str []), (.str []), (.int .i64 0), (.int .u8 0)])], (.bool true)),
  ([(.agg [(.str []), (.str []), (.int .i64 1), (.int .u8 0)])], (.bool true)),
  ([(.agg [(.str [114, 118, 99]), (.str []), (.int .i64 0), (.int .u8 0)])], (.bool true))]
theorem tab87_ok : TabG Tryz.prog vars 14 87 tab87 := tabG_of mixed o85_OK (by kernel_rfl)
noncomputable def o87 : Fa → ACall := orG o85 (fun _ => orcTabG vars 87 tab87)
theorem o87_OK : ∀ φ, OrcOK Tryz.prog 14 φ o87 := orG_OK o85_OK (tabG_OK varsOK tab87_ok)
end Go.Proofs.YtgafnmpbnjalhaaGreatDoor
