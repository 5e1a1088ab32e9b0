import Derived.Test.YtoehlmiadiiimaaGreatDoorTMacT
import Derived.Test.YtoehlmiadiiimaaGreatDoorRows
/-
  The machine's laws: what the laid variables give the executor.
-/
namespace Go.Proofs.YtoehlmiadiiimaaGreatDoor
open Go.Proofs.YtoehlmiadiiimaaGreatDoor.Ex
theorem eq0:(dParts Rows.laid_quoin_insn_names).map dAV=var0:=by kernel_rfl
theorem eq1:(dParts Rows.laid_quoin_enc_bases).map dAV=var1:=by kernel_rfl
theorem eq2:(dParts Rows.laid_quoin_cdec_alu).map dAV=var2:=by kernel_rfl
structure Laids (l:List (String×DataW Unit)) : Prop where
 no:(l.all fun x=>x.2.handleName?.isNone)=true
 m0:("quoin/insn.names",Rows.laid_quoin_insn_names)∈l
 m1:("quoin/enc.bases",Rows.laid_quoin_enc_bases)∈l
 m2:("quoin/cdec.alu",Rows.laid_quoin_cdec_alu)∈l
theorem of_laids {l:List (String×DataW Unit)} (hl:Laids l) {W:World} (h:laidMetH Tryz.prog l W) : LaidG Tryz.prog vars 3 W:=by
 refine laidG_of varsOK ?_ ?_
 ·obtain ⟨C,T,hC,-⟩:=laid_block h hl.no hl.m2 (L:=dParts Rows.laid_quoin_cdec_alu) rfl (g:=2) (t:=290) (n:=6) (e:=9) (by kernel_rfl) (by kernel_rfl) (by kernel_rfl) (.inl (by kernel_rfl)) (by kernel_rfl) (by kernel_rfl) (by decide)
  have:=(Array.getElem?_eq_some_iff.1 hC).1
  omega
 ·intro x hx
  simp only [vars,List.mem_cons,List.not_mem_nil,or_false] at hx
  rcases hx with rfl | rfl | rfl
  ·rw [← eq0]
   exact laid_block h hl.no hl.m0 (L:=dParts Rows.laid_quoin_insn_names) rfl (g:=0) (t:=79) (n:=94) (e:=9) (by kernel_rfl) (by kernel_rfl) (by kernel_rfl) (.inl (by kernel_rfl)) (by kernel_rfl) (by kernel_rfl) (by decide)
  ·rw [← eq1]
   exact laid_block h hl.no hl.m1 (L:=dParts Rows.laid_quoin_enc_bases) rfl (g:=1) (t:=122) (n:=94) (e:=58) (by kernel_rfl) (by kernel_rfl) (by kernel_rfl) (.inr ⟨.u32,by kernel_rfl⟩) (by kernel_rfl) (by kernel_rfl) (by decide)
  ·rw [← eq2]
   exact laid_block h hl.no hl.m2 (L:=dParts Rows.laid_quoin_cdec_alu) rfl (g:=2) (t:=290) (n:=6) (e:=9) (by kernel_rfl) (by kernel_rfl) (by kernel_rfl) (.inl (by kernel_rfl)) (by kernel_rfl) (by kernel_rfl) (by decide)
end Go.Proofs.YtoehlmiadiiimaaGreatDoor

/-
  The machine's laws: the laid variables are thirteen blocks.
-/
namespace Go.Proofs.YtoehlmiadiiimaaGreatDoor
open Go.Proofs.YtoehlmiadiiimaaGreatDoor.Ex
theorem laids_size {l:List (String×DataW Unit)} (hl:Laids l) {W:World} (h:laidMetH Tryz.prog l W) : 3≤W.heap.size:=by
 obtain ⟨C,T,hC,-⟩:=laid_block h hl.no hl.m2 (L:=dParts Rows.laid_quoin_cdec_alu) rfl (g:=2) (t:=290) (n:=6) (e:=9) (by kernel_rfl) (by kernel_rfl) (by kernel_rfl) (.inl (by kernel_rfl)) (by kernel_rfl) (by kernel_rfl) (by decide)
 have:=(Array.getElem?_eq_some_iff.1 hC).1
 omega
end Go.Proofs.YtoehlmiadiiimaaGreatDoor

