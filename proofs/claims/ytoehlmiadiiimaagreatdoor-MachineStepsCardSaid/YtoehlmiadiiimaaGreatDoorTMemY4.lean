/-
  The machine: the contract of do.
-/
import Derived.Test.YtoehlmiadiiimaaGreatDoorTMemV2
namespace Go.Proofs.YtoehlmiadiiimaaGreatDoor
open Go.ChangeShapes Go.WideShapes Go.RowKit Go.Proofs.YtoehlmiadiiimaaGreatDoor.Ex
section
variable {B g:Nat} {r:Rn} {mv tv:Value} {w:World} {i:Ins}
theorem name_of (o1:1≤i.op) (o2:i.op≤94) (hL:LG w) (hB:3≤B) (K:Nat) (hK:i.op=K) (W:World) (hb:Below B w W) : Calls Tryz.prog 30 #[.int .u8 i.op] W fun e w'=>e=.returned (.tuple #[.string (nameB K),.int .i64 0])∧Below W.heap.size W w':=by
 have:=name_c i.op o1 o2 W (laidG_below hL (hb.mono hB))
 rw [show nameB i.op=nameB K from by rw [hK]] at this
 exact this
theorem form_of (o1:1≤i.op) (o2:i.op≤94) (hL:LG w) (hB:3≤B) (f:Nat) (hf:formB i.op=f) (W:World) (hb:Below B w W) : Calls Tryz.prog 31 #[.int .u8 i.op] W fun e w'=>e=.returned (.tuple #[.int .u8 f,.int .i64 0])∧Below W.heap.size W w':=by
 have:=form_c i.op o1 o2 W (laidG_below hL (hb.mono hB))
 rw [hf] at this
 exact this
end
structure DoH (B g:Nat) (r:Rn) (mv tv:Value) (w:World) (i:Ins) : Prop where
 hr:RunW B w g r mv tv
 h1:i.s1 < 32
 h2:i.s2 < 32
 h3:i.rd < 32
 hs:r.stop=false
 hL:LG w
 hB:3≤B
 hl:r.mem.length≤65536
 ht:r.told.length≤1000000
 h64:Regs64 r.regs
 hname:∀ K,i.op=K→∀ W,Below B w W→Calls Tryz.prog 30 #[.int .u8 i.op] W fun e w'=>e=.returned (.tuple #[.string (nameB K),.int .i64 0])∧Below W.heap.size W w'
 hform:∀ f:Nat,formB i.op=f→∀ W,Below B w W→Calls Tryz.prog 31 #[.int .u8 i.op] W fun e w'=>e=.returned (.tuple #[.int .u8 f,.int .i64 0])∧Below W.heap.size W w'
def DoG (B g:Nat) (r:Rn) (mv tv:Value) (w:World) (i:Ins) : Prop:=Calls Tryz.prog 45 #[.pointer (some ⟨g,0,none⟩),i.v] w (DoAll B w g mv tv (doF i r))
section
variable {B g:Nat} {r:Rn} {mv tv:Value} {w:World} {i:Ins}
theorem doC_1 (H:DoH B g r mv tv w i) (hop:i.op=1) : DoG B g r mv tv w i:=by
 obtain ⟨hr,h1,h2,h3,hs,hL,hB,hl,ht,h64,hname,hform⟩:=H
 unfold DoG
 have hf:formB i.op=85:=by rw [hop]; rfl
 have e:doF i r=some (r.on,r.wr i.rd (nar32 (IntKind.u64.wrap (IntKind.u64.wrap i.imm*4096)))):=by unfold doF; rw [hf,hop] <;> rfl
 rw [e]
 exact (do_lui B g r mv tv w hr i h1 h2 h3 hs (nameB 1) (hname 1 hop) (hform 85 hf) (by simp [nameB])).mono fun _ _ h=>⟨tv,h⟩
theorem doC_2 (H:DoH B g r mv tv w i) (hop:i.op=2) : DoG B g r mv tv w i:=by
 obtain ⟨hr,h1,h2,h3,hs,hL,hB,hl,ht,h64,hname,hform⟩:=H
 unfold DoG
 have hf:formB i.op=85:=by rw [hop]; rfl
 have e:doF i r=some (r.on,r.wr i.rd (IntKind.u64.wrap (nar32 (IntKind.u64.wrap (IntKind.u64.wrap i.imm*4096))+r.pc))):=by unfold doF; rw [hf,hop] <;> rfl
 rw [e]
 exact (do_auipc B g r mv tv w hr i h1 h2 h3 hs (nameB 2) (hname 2 hop) (hform 85 hf) (by simp [nameB])).mono fun _ _ h=>⟨tv,h⟩
theorem doC_3 (H:DoH B g r mv tv w i) (hop:i.op=3) : DoG B g r mv tv w i:=by
 obtain ⟨hr,h1,h2,h3,hs,hL,hB,hl,ht,h64,hname,hform⟩:=H
 unfold DoG
 have hf:formB i.op=74:=by rw [hop]; rfl
 have e:doF i r=some (IntKind.u64.wrap (r.pc+IntKind.u64.wrap i.imm),r.wr i.rd r.on):=by unfold doF; rw [hf] <;> rfl
 rw [e]
 exact (do_J B g r mv tv w hr i h1 h2 h3 hs (nameB 3) (hname 3 hop) (hform 74 hf)).mono fun _ _ h=>⟨tv,h⟩
theorem doC_4 (H:DoH B g r mv tv w i) (hop:i.op=4) : DoG B g r mv tv w i:=by
 obtain ⟨hr,h1,h2,h3,hs,hL,hB,hl,ht,h64,hname,hform⟩:=H
 unfold DoG
 have hf:formB i.op=76:=by rw [hop]; rfl
 have e:doF i r=some (bits .andNot .u64 (IntKind.u64.wrap ((r.regs[i.s1]?.getD 0)+IntKind.u64.wrap i.imm)) 1,r.wr i.rd r.on):=by unfold doF; rw [hf,hop] <;> rfl
 rw [e]
 exact (do_jalr B g r mv tv w hr i h1 h2 h3 hs (nameB 4) (hname 4 hop) (hform 76 hf) (by simp [nameB])).mono fun _ _ h=>⟨tv,h⟩
theorem doC_5 (H:DoH B g r mv tv w i) (hop:i.op=5) : DoG B g r mv tv w i:=by
 obtain ⟨hr,h1,h2,h3,hs,hL,hB,hl,ht,h64,hname,hform⟩:=H
 unfold DoG
 have hf:formB i.op=66:=by rw [hop]; rfl
 have e:doF i r=some (if brF 5 (r.regs[i.s1]?.getD 0) (r.regs[i.s2]?.getD 0)=true then IntKind.u64.wrap (r.pc+IntKind.u64.wrap i.imm) else r.on,r.wr i.rd 0):=by unfold doF; rw [hf,hop] <;> rfl
 rw [e]
 cases hb:brF 5 (r.regs[i.s1]?.getD 0) (r.regs[i.s2]?.getD 0) with
 | true=>exact (do_Bt B g r mv tv w hr i h1 h2 h3 hs (nameB 5) (hname 5 hop) (hform 66 hf) (fun W=>by have:=br_all 5 (by omega) (by omega) (r.regs[i.s1]?.getD 0) (r.regs[i.s2]?.getD 0) W; rw [hb] at this; exact this)).mono fun _ _ h=>⟨tv,h⟩
 | false=>exact (do_Bf B g r mv tv w hr i h1 h2 h3 hs (nameB 5) (hname 5 hop) (hform 66 hf) (fun W=>by have:=br_all 5 (by omega) (by omega) (r.regs[i.s1]?.getD 0) (r.regs[i.s2]?.getD 0) W; rw [hb] at this; exact this)).mono fun _ _ h=>⟨tv,h⟩
theorem doC_6 (H:DoH B g r mv tv w i) (hop:i.op=6) : DoG B g r mv tv w i:=by
 obtain ⟨hr,h1,h2,h3,hs,hL,hB,hl,ht,h64,hname,hform⟩:=H
 unfold DoG
 have hf:formB i.op=66:=by rw [hop]; rfl
 have e:doF i r=some (if brF 6 (r.regs[i.s1]?.getD 0) (r.regs[i.s2]?.getD 0)=true then IntKind.u64.wrap (r.pc+IntKind.u64.wrap i.imm) else r.on,r.wr i.rd 0):=by unfold doF; rw [hf,hop] <;> rfl
 rw [e]
 cases hb:brF 6 (r.regs[i.s1]?.getD 0) (r.regs[i.s2]?.getD 0) with
 | true=>exact (do_Bt B g r mv tv w hr i h1 h2 h3 hs (nameB 6) (hname 6 hop) (hform 66 hf) (fun W=>by have:=br_all 6 (by omega) (by omega) (r.regs[i.s1]?.getD 0) (r.regs[i.s2]?.getD 0) W; rw [hb] at this; exact this)).mono fun _ _ h=>⟨tv,h⟩
 | false=>exact (do_Bf B g r mv tv w hr i h1 h2 h3 hs (nameB 6) (hname 6 hop) (hform 66 hf) (fun W=>by have:=br_all 6 (by omega) (by omega) (r.regs[i.s1]?.getD 0) (r.regs[i.s2]?.getD 0) W; rw [hb] at this; exact this)).mono fun _ _ h=>⟨tv,h⟩
theorem doC_7 (H:DoH B g r mv tv w i) (hop:i.op=7) : DoG B g r mv tv w i:=by
 obtain ⟨hr,h1,h2,h3,hs,hL,hB,hl,ht,h64,hname,hform⟩:=H
 unfold DoG
 have hf:formB i.op=66:=by rw [hop]; rfl
 have e:doF i r=some (if brF 7 (r.regs[i.s1]?.getD 0) (r.regs[i.s2]?.getD 0)=true then IntKind.u64.wrap (r.pc+IntKind.u64.wrap i.imm) else r.on,r.wr i.rd 0):=by unfold doF; rw [hf,hop] <;> rfl
 rw [e]
 cases hb:brF 7 (r.regs[i.s1]?.getD 0) (r.regs[i.s2]?.getD 0) with
 | true=>exact (do_Bt B g r mv tv w hr i h1 h2 h3 hs (nameB 7) (hname 7 hop) (hform 66 hf) (fun W=>by have:=br_all 7 (by omega) (by omega) (r.regs[i.s1]?.getD 0) (r.regs[i.s2]?.getD 0) W; rw [hb] at this; exact this)).mono fun _ _ h=>⟨tv,h⟩
 | false=>exact (do_Bf B g r mv tv w hr i h1 h2 h3 hs (nameB 7) (hname 7 hop) (hform 66 hf) (fun W=>by have:=br_all 7 (by omega) (by omega) (r.regs[i.s1]?.getD 0) (r.regs[i.s2]?.getD 0) W; rw [hb] at this; exact this)).mono fun _ _ h=>⟨tv,h⟩
theorem doC_8 (H:DoH B g r mv tv w i) (hop:i.op=8) : DoG B g r mv tv w i:=by
 obtain ⟨hr,h1,h2,h3,hs,hL,hB,hl,ht,h64,hname,hform⟩:=H
 unfold DoG
 have hf:formB i.op=66:=by rw [hop]; rfl
 have e:doF i r=some (if brF 8 (r.regs[i.s1]?.getD 0) (r.regs[i.s2]?.getD 0)=true then IntKind.u64.wrap (r.pc+IntKind.u64.wrap i.imm) else r.on,r.wr i.rd 0):=by unfold doF; rw [hf,hop] <;> rfl
 rw [e]
 cases hb:brF 8 (r.regs[i.s1]?.getD 0) (r.regs[i.s2]?.getD 0) with
 | true=>exact (do_Bt B g r mv tv w hr i h1 h2 h3 hs (nameB 8) (hname 8 hop) (hform 66 hf) (fun W=>by have:=br_all 8 (by omega) (by omega) (r.regs[i.s1]?.getD 0) (r.regs[i.s2]?.getD 0) W; rw [hb] at this; exact this)).mono fun _ _ h=>⟨tv,h⟩
 | false=>exact (do_Bf B g r mv tv w hr i h1 h2 h3 hs (nameB 8) (hname 8 hop) (hform 66 hf) (fun W=>by have:=br_all 8 (by omega) (by omega) (r.regs[i.s1]?.getD 0) (r.regs[i.s2]?.getD 0) W; rw [hb] at this; exact this)).mono fun _ _ h=>⟨tv,h⟩
theorem doC_9 (H:DoH B g r mv tv w i) (hop:i.op=9) : DoG B g r mv tv w i:=by
 obtain ⟨hr,h1,h2,h3,hs,hL,hB,hl,ht,h64,hname,hform⟩:=H
 unfold DoG
 have hf:formB i.op=66:=by rw [hop]; rfl
 have e:doF i r=some (if brF 9 (r.regs[i.s1]?.getD 0) (r.regs[i.s2]?.getD 0)=true then IntKind.u64.wrap (r.pc+IntKind.u64.wrap i.imm) else r.on,r.wr i.rd 0):=by unfold doF; rw [hf,hop] <;> rfl
 rw [e]
 cases hb:brF 9 (r.regs[i.s1]?.getD 0) (r.regs[i.s2]?.getD 0) with
 | true=>exact (do_Bt B g r mv tv w hr i h1 h2 h3 hs (nameB 9) (hname 9 hop) (hform 66 hf) (fun W=>by have:=br_all 9 (by omega) (by omega) (r.regs[i.s1]?.getD 0) (r.regs[i.s2]?.getD 0) W; rw [hb] at this; exact this)).mono fun _ _ h=>⟨tv,h⟩
 | false=>exact (do_Bf B g r mv tv w hr i h1 h2 h3 hs (nameB 9) (hname 9 hop) (hform 66 hf) (fun W=>by have:=br_all 9 (by omega) (by omega) (r.regs[i.s1]?.getD 0) (r.regs[i.s2]?.getD 0) W; rw [hb] at this; exact this)).mono fun _ _ h=>⟨tv,h⟩
theorem doC_10 (H:DoH B g r mv tv w i) (hop:i.op=10) : DoG B g r mv tv w i:=by
 obtain ⟨hr,h1,h2,h3,hs,hL,hB,hl,ht,h64,hname,hform⟩:=H
 unfold DoG
 have hf:formB i.op=66:=by rw [hop]; rfl
 have e:doF i r=some (if brF 10 (r.regs[i.s1]?.getD 0) (r.regs[i.s2]?.getD 0)=true then IntKind.u64.wrap (r.pc+IntKind.u64.wrap i.imm) else r.on,r.wr i.rd 0):=by unfold doF; rw [hf,hop] <;> rfl
 rw [e]
 cases hb:brF 10 (r.regs[i.s1]?.getD 0) (r.regs[i.s2]?.getD 0) with
 | true=>exact (do_Bt B g r mv tv w hr i h1 h2 h3 hs (nameB 10) (hname 10 hop) (hform 66 hf) (fun W=>by have:=br_all 10 (by omega) (by omega) (r.regs[i.s1]?.getD 0) (r.regs[i.s2]?.getD 0) W; rw [hb] at this; exact this)).mono fun _ _ h=>⟨tv,h⟩
 | false=>exact (do_Bf B g r mv tv w hr i h1 h2 h3 hs (nameB 10) (hname 10 hop) (hform 66 hf) (fun W=>by have:=br_all 10 (by omega) (by omega) (r.regs[i.s1]?.getD 0) (r.regs[i.s2]?.getD 0) W; rw [hb] at this; exact this)).mono fun _ _ h=>⟨tv,h⟩
theorem doC_11 (H:DoH B g r mv tv w i) (hop:i.op=11) : DoG B g r mv tv w i:=by
 obtain ⟨hr,h1,h2,h3,hs,hL,hB,hl,ht,h64,hname,hform⟩:=H
 unfold DoG
 have hf:formB i.op=76:=by rw [hop]; rfl
 have e:doF i r=match place r (IntKind.u64.wrap ((r.regs[i.s1]?.getD 0)+IntKind.u64.wrap i.imm)) (ldN 11) with | none=>none | some k=>some (r.on,r.wr i.rd (ldE 11 (ldm r.mem k (ldN 11)))):=by unfold doF; rw [hf,hop] <;> rfl
 have eN:ldN 11=1:=rfl
 have eE:∀ x,ldE 11 x=nar8 x:=fun _=>rfl
 rw [e,eN]
 cases hp:place r (IntKind.u64.wrap ((r.regs[i.s1]?.getD 0)+IntKind.u64.wrap i.imm)) 1 with
 | none=>exact do_Lx B g r mv tv w hr i h1 h2 h3 hs (nameB 11) (hname 11 hop) (hform 76 hf) (by simp [nameB]) _ (fun W hW=>loaded_lb _ _ _ W _ (ld_out hr hl (by omega) hp hW))
 | some k =>
  simp only [eE]
  exact (do_L B g r mv tv w hr i h1 h2 h3 hs (nameB 11) (hname 11 hop) (hform 76 hf) (by simp [nameB]) _ (fun W hW=>loaded_lb _ _ _ W _ (ld_in hr hl (by omega) (by omega) hp hW))).mono fun _ _ h=>⟨tv,h⟩
theorem doC_12 (H:DoH B g r mv tv w i) (hop:i.op=12) : DoG B g r mv tv w i:=by
 obtain ⟨hr,h1,h2,h3,hs,hL,hB,hl,ht,h64,hname,hform⟩:=H
 unfold DoG
 have hf:formB i.op=76:=by rw [hop]; rfl
 have e:doF i r=match place r (IntKind.u64.wrap ((r.regs[i.s1]?.getD 0)+IntKind.u64.wrap i.imm)) (ldN 12) with | none=>none | some k=>some (r.on,r.wr i.rd (ldE 12 (ldm r.mem k (ldN 12)))):=by unfold doF; rw [hf,hop] <;> rfl
 have eN:ldN 12=2:=rfl
 have eE:∀ x,ldE 12 x=nar16 x:=fun _=>rfl
 rw [e,eN]
 cases hp:place r (IntKind.u64.wrap ((r.regs[i.s1]?.getD 0)+IntKind.u64.wrap i.imm)) 2 with
 | none=>exact do_Lx B g r mv tv w hr i h1 h2 h3 hs (nameB 12) (hname 12 hop) (hform 76 hf) (by simp [nameB]) _ (fun W hW=>loaded_lh _ _ _ W _ (ld_out hr hl (by omega) hp hW))
 | some k =>
  simp only [eE]
  exact (do_L B g r mv tv w hr i h1 h2 h3 hs (nameB 12) (hname 12 hop) (hform 76 hf) (by simp [nameB]) _ (fun W hW=>loaded_lh _ _ _ W _ (ld_in hr hl (by omega) (by omega) hp hW))).mono fun _ _ h=>⟨tv,h⟩
theorem doC_13 (H:DoH B g r mv tv w i) (hop:i.op=13) : DoG B g r mv tv w i:=by
 obtain ⟨hr,h1,h2,h3,hs,hL,hB,hl,ht,h64,hname,hform⟩:=H
 unfold DoG
 have hf:formB i.op=76:=by rw [hop]; rfl
 have e:doF i r=match place r (IntKind.u64.wrap ((r.regs[i.s1]?.getD 0)+IntKind.u64.wrap i.imm)) (ldN 13) with | none=>none | some k=>some (r.on,r.wr i.rd (ldE 13 (ldm r.mem k (ldN 13)))):=by unfold doF; rw [hf,hop] <;> rfl
 have eN:ldN 13=4:=rfl
 have eE:∀ x,ldE 13 x=nar32 x:=fun _=>rfl
 rw [e,eN]
 cases hp:place r (IntKind.u64.wrap ((r.regs[i.s1]?.getD 0)+IntKind.u64.wrap i.imm)) 4 with
 | none=>exact do_Lx B g r mv tv w hr i h1 h2 h3 hs (nameB 13) (hname 13 hop) (hform 76 hf) (by simp [nameB]) _ (fun W hW=>loaded_lw _ _ _ W _ (ld_out hr hl (by omega) hp hW))
 | some k =>
  simp only [eE]
  exact (do_L B g r mv tv w hr i h1 h2 h3 hs (nameB 13) (hname 13 hop) (hform 76 hf) (by simp [nameB]) _ (fun W hW=>loaded_lw _ _ _ W _ (ld_in hr hl (by omega) (by omega) hp hW))).mono fun _ _ h=>⟨tv,h⟩
theorem doC_14 (H:DoH B g r mv tv w i) (hop:i.op=14) : DoG B g r mv tv w i:=by
 obtain ⟨hr,h1,h2,h3,hs,hL,hB,hl,ht,h64,hname,hform⟩:=H
 unfold DoG
 have hf:formB i.op=76:=by rw [hop]; rfl
 have e:doF i r=match place r (IntKind.u64.wrap ((r.regs[i.s1]?.getD 0)+IntKind.u64.wrap i.imm)) (ldN 14) with | none=>none | some k=>some (r.on,r.wr i.rd (ldE 14 (ldm r.mem k (ldN 14)))):=by unfold doF; rw [hf,hop] <;> rfl
 have eN:ldN 14=8:=rfl
 have eE:∀ x,ldE 14 x=x:=fun _=>rfl
 rw [e,eN]
 cases hp:place r (IntKind.u64.wrap ((r.regs[i.s1]?.getD 0)+IntKind.u64.wrap i.imm)) 8 with
 | none=>exact do_Lx B g r mv tv w hr i h1 h2 h3 hs (nameB 14) (hname 14 hop) (hform 76 hf) (by simp [nameB]) _ (fun W hW=>loaded_ld _ _ _ W _ (ld_out hr hl (by omega) hp hW))
 | some k =>
  simp only [eE]
  exact (do_L B g r mv tv w hr i h1 h2 h3 hs (nameB 14) (hname 14 hop) (hform 76 hf) (by simp [nameB]) _ (fun W hW=>loaded_ld _ _ _ W _ (ld_in hr hl (by omega) (by omega) hp hW))).mono fun _ _ h=>⟨tv,h⟩
theorem doC_15 (H:DoH B g r mv tv w i) (hop:i.op=15) : DoG B g r mv tv w i:=by
 obtain ⟨hr,h1,h2,h3,hs,hL,hB,hl,ht,h64,hname,hform⟩:=H
 unfold DoG
 have hf:formB i.op=76:=by rw [hop]; rfl
 have e:doF i r=match place r (IntKind.u64.wrap ((r.regs[i.s1]?.getD 0)+IntKind.u64.wrap i.imm)) (ldN 15) with | none=>none | some k=>some (r.on,r.wr i.rd (ldE 15 (ldm r.mem k (ldN 15)))):=by unfold doF; rw [hf,hop] <;> rfl
 have eN:ldN 15=1:=rfl
 have eE:∀ x,ldE 15 x=x:=fun _=>rfl
 rw [e,eN]
 cases hp:place r (IntKind.u64.wrap ((r.regs[i.s1]?.getD 0)+IntKind.u64.wrap i.imm)) 1 with
 | none=>exact do_Lx B g r mv tv w hr i h1 h2 h3 hs (nameB 15) (hname 15 hop) (hform 76 hf) (by simp [nameB]) _ (fun W hW=>loaded_lbu _ _ _ W _ (ld_out hr hl (by omega) hp hW))
 | some k =>
  simp only [eE]
  exact (do_L B g r mv tv w hr i h1 h2 h3 hs (nameB 15) (hname 15 hop) (hform 76 hf) (by simp [nameB]) _ (fun W hW=>loaded_lbu _ _ _ W _ (ld_in hr hl (by omega) (by omega) hp hW))).mono fun _ _ h=>⟨tv,h⟩
theorem doC_16 (H:DoH B g r mv tv w i) (hop:i.op=16) : DoG B g r mv tv w i:=by
 obtain ⟨hr,h1,h2,h3,hs,hL,hB,hl,ht,h64,hname,hform⟩:=H
 unfold DoG
 have hf:formB i.op=76:=by rw [hop]; rfl
 have e:doF i r=match place r (IntKind.u64.wrap ((r.regs[i.s1]?.getD 0)+IntKind.u64.wrap i.imm)) (ldN 16) with | none=>none | some k=>some (r.on,r.wr i.rd (ldE 16 (ldm r.mem k (ldN 16)))):=by unfold doF; rw [hf,hop] <;> rfl
 have eN:ldN 16=2:=rfl
 have eE:∀ x,ldE 16 x=x:=fun _=>rfl
 rw [e,eN]
 cases hp:place r (IntKind.u64.wrap ((r.regs[i.s1]?.getD 0)+IntKind.u64.wrap i.imm)) 2 with
 | none=>exact do_Lx B g r mv tv w hr i h1 h2 h3 hs (nameB 16) (hname 16 hop) (hform 76 hf) (by simp [nameB]) _ (fun W hW=>loaded_lhu _ _ _ W _ (ld_out hr hl (by omega) hp hW))
 | some k =>
  simp only [eE]
  exact (do_L B g r mv tv w hr i h1 h2 h3 hs (nameB 16) (hname 16 hop) (hform 76 hf) (by simp [nameB]) _ (fun W hW=>loaded_lhu _ _ _ W _ (ld_in hr hl (by omega) (by omega) hp hW))).mono fun _ _ h=>⟨tv,h⟩
theorem doC_17 (H:DoH B g r mv tv w i) (hop:i.op=17) : DoG B g r mv tv w i:=by
 obtain ⟨hr,h1,h2,h3,hs,hL,hB,hl,ht,h64,hname,hform⟩:=H
 unfold DoG
 have hf:formB i.op=76:=by rw [hop]; rfl
 have e:doF i r=match place r (IntKind.u64.wrap ((r.regs[i.s1]?.getD 0)+IntKind.u64.wrap i.imm)) (ldN 17) with | none=>none | some k=>some (r.on,r.wr i.rd (ldE 17 (ldm r.mem k (ldN 17)))):=by unfold doF; rw [hf,hop] <;> rfl
 have eN:ldN 17=4:=rfl
 have eE:∀ x,ldE 17 x=x:=fun _=>rfl
 rw [e,eN]
 cases hp:place r (IntKind.u64.wrap ((r.regs[i.s1]?.getD 0)+IntKind.u64.wrap i.imm)) 4 with
 | none=>exact do_Lx B g r mv tv w hr i h1 h2 h3 hs (nameB 17) (hname 17 hop) (hform 76 hf) (by simp [nameB]) _ (fun W hW=>loaded_lwu _ _ _ W _ (ld_out hr hl (by omega) hp hW))
 | some k =>
  simp only [eE]
  exact (do_L B g r mv tv w hr i h1 h2 h3 hs (nameB 17) (hname 17 hop) (hform 76 hf) (by simp [nameB]) _ (fun W hW=>loaded_lwu _ _ _ W _ (ld_in hr hl (by omega) (by omega) hp hW))).mono fun _ _ h=>⟨tv,h⟩
theorem doC_18 (H:DoH B g r mv tv w i) (hop:i.op=18) : DoG B g r mv tv w i:=by
 obtain ⟨hr,h1,h2,h3,hs,hL,hB,hl,ht,h64,hname,hform⟩:=H
 unfold DoG
 have hf:formB i.op=83:=by rw [hop]; rfl
 have e:doF i r=match place r (IntKind.u64.wrap ((r.regs[i.s1]?.getD 0)+IntKind.u64.wrap i.imm)) (stN 18) with | none=>none | some k=>some (r.on,{ r with mem:=memSet r.mem k (r.regs[i.s2]?.getD 0) (stN 18) }.wr i.rd 0):=by unfold doF; rw [hf,hop] <;> rfl
 have eN:stN 18=1:=rfl
 rw [e,eN]
 cases hp:place r (IntKind.u64.wrap ((r.regs[i.s1]?.getD 0)+IntKind.u64.wrap i.imm)) 1 with
 | none=>exact do_stx (nameB 18) 1 (by decide) rfl B g r mv tv w hr i h1 h2 h3 hs (hname 18 hop) (hform 83 hf) (fun W hW=>st_out hr hl (by omega) hp hW)
 | some k =>
  have hpk:=(place_some hp).2
  obtain ⟨gm,c,hmv,hc,hgm⟩:=own_none hr.mem (by omega)
  exact (do_st (nameB 18) 1 (by decide) rfl B g r mv tv w hr i h1 h2 h3 hs (hname 18 hop) (hform 83 hf) gm k c hmv hgm (fun W hW=>st_in hr hl (by omega) (by omega) hp hmv hW)).mono fun _ _ h=>⟨tv,h⟩
theorem doC_19 (H:DoH B g r mv tv w i) (hop:i.op=19) : DoG B g r mv tv w i:=by
 obtain ⟨hr,h1,h2,h3,hs,hL,hB,hl,ht,h64,hname,hform⟩:=H
 unfold DoG
 have hf:formB i.op=83:=by rw [hop]; rfl
 have e:doF i r=match place r (IntKind.u64.wrap ((r.regs[i.s1]?.getD 0)+IntKind.u64.wrap i.imm)) (stN 19) with | none=>none | some k=>some (r.on,{ r with mem:=memSet r.mem k (r.regs[i.s2]?.getD 0) (stN 19) }.wr i.rd 0):=by unfold doF; rw [hf,hop] <;> rfl
 have eN:stN 19=2:=rfl
 rw [e,eN]
 cases hp:place r (IntKind.u64.wrap ((r.regs[i.s1]?.getD 0)+IntKind.u64.wrap i.imm)) 2 with
 | none=>exact do_stx (nameB 19) 2 (by decide) rfl B g r mv tv w hr i h1 h2 h3 hs (hname 19 hop) (hform 83 hf) (fun W hW=>st_out hr hl (by omega) hp hW)
 | some k =>
  have hpk:=(place_some hp).2
  obtain ⟨gm,c,hmv,hc,hgm⟩:=own_none hr.mem (by omega)
  exact (do_st (nameB 19) 2 (by decide) rfl B g r mv tv w hr i h1 h2 h3 hs (hname 19 hop) (hform 83 hf) gm k c hmv hgm (fun W hW=>st_in hr hl (by omega) (by omega) hp hmv hW)).mono fun _ _ h=>⟨tv,h⟩
theorem doC_20 (H:DoH B g r mv tv w i) (hop:i.op=20) : DoG B g r mv tv w i:=by
 obtain ⟨hr,h1,h2,h3,hs,hL,hB,hl,ht,h64,hname,hform⟩:=H
 unfold DoG
 have hf:formB i.op=83:=by rw [hop]; rfl
 have e:doF i r=match place r (IntKind.u64.wrap ((r.regs[i.s1]?.getD 0)+IntKind.u64.wrap i.imm)) (stN 20) with | none=>none | some k=>some (r.on,{ r with mem:=memSet r.mem k (r.regs[i.s2]?.getD 0) (stN 20) }.wr i.rd 0):=by unfold doF; rw [hf,hop] <;> rfl
 have eN:stN 20=4:=rfl
 rw [e,eN]
 cases hp:place r (IntKind.u64.wrap ((r.regs[i.s1]?.getD 0)+IntKind.u64.wrap i.imm)) 4 with
 | none=>exact do_stx (nameB 20) 4 (by decide) rfl B g r mv tv w hr i h1 h2 h3 hs (hname 20 hop) (hform 83 hf) (fun W hW=>st_out hr hl (by omega) hp hW)
 | some k =>
  have hpk:=(place_some hp).2
  obtain ⟨gm,c,hmv,hc,hgm⟩:=own_none hr.mem (by omega)
  exact (do_st (nameB 20) 4 (by decide) rfl B g r mv tv w hr i h1 h2 h3 hs (hname 20 hop) (hform 83 hf) gm k c hmv hgm (fun W hW=>st_in hr hl (by omega) (by omega) hp hmv hW)).mono fun _ _ h=>⟨tv,h⟩
theorem doC_21 (H:DoH B g r mv tv w i) (hop:i.op=21) : DoG B g r mv tv w i:=by
 obtain ⟨hr,h1,h2,h3,hs,hL,hB,hl,ht,h64,hname,hform⟩:=H
 unfold DoG
 have hf:formB i.op=83:=by rw [hop]; rfl
 have e:doF i r=match place r (IntKind.u64.wrap ((r.regs[i.s1]?.getD 0)+IntKind.u64.wrap i.imm)) (stN 21) with | none=>none | some k=>some (r.on,{ r with mem:=memSet r.mem k (r.regs[i.s2]?.getD 0) (stN 21) }.wr i.rd 0):=by unfold doF; rw [hf,hop] <;> rfl
 have eN:stN 21=8:=rfl
 rw [e,eN]
 cases hp:place r (IntKind.u64.wrap ((r.regs[i.s1]?.getD 0)+IntKind.u64.wrap i.imm)) 8 with
 | none=>exact do_stx (nameB 21) 8 (by decide) rfl B g r mv tv w hr i h1 h2 h3 hs (hname 21 hop) (hform 83 hf) (fun W hW=>st_out hr hl (by omega) hp hW)
 | some k =>
  have hpk:=(place_some hp).2
  obtain ⟨gm,c,hmv,hc,hgm⟩:=own_none hr.mem (by omega)
  exact (do_st (nameB 21) 8 (by decide) rfl B g r mv tv w hr i h1 h2 h3 hs (hname 21 hop) (hform 83 hf) gm k c hmv hgm (fun W hW=>st_in hr hl (by omega) (by omega) hp hmv hW)).mono fun _ _ h=>⟨tv,h⟩
theorem doC_22 (H:DoH B g r mv tv w i) (hop:i.op=22) : DoG B g r mv tv w i:=by
 obtain ⟨hr,h1,h2,h3,hs,hL,hB,hl,ht,h64,hname,hform⟩:=H
 unfold DoG
 have hn:=u64_bd i.imm
 obtain ⟨x0,x1⟩:=reg64 h64 i.s1
 have hf:formB i.op=73:=by rw [hop]; rfl
 have e:doF i r=some (r.on,r.wr i.rd (twoF 22 (r.regs[i.s1]?.getD 0) (IntKind.u64.wrap i.imm))):=by unfold doF; rw [hf,hop] <;> rfl
 rw [e]
 exact (do_I B g r mv tv w hr i h1 h2 h3 hs (nameB 22) (hname 22 hop) (hform 73 hf) _ (fun W _=>two_all 22 (by omega) (by omega) (r.regs[i.s1]?.getD 0) (IntKind.u64.wrap i.imm) W x0 x1 hn.1 hn.2)).mono fun _ _ h=>⟨tv,h⟩
theorem doC_23 (H:DoH B g r mv tv w i) (hop:i.op=23) : DoG B g r mv tv w i:=by
 obtain ⟨hr,h1,h2,h3,hs,hL,hB,hl,ht,h64,hname,hform⟩:=H
 unfold DoG
 have hn:=u64_bd i.imm
 obtain ⟨x0,x1⟩:=reg64 h64 i.s1
 have hf:formB i.op=73:=by rw [hop]; rfl
 have e:doF i r=some (r.on,r.wr i.rd (twoF 23 (r.regs[i.s1]?.getD 0) (IntKind.u64.wrap i.imm))):=by unfold doF; rw [hf,hop] <;> rfl
 rw [e]
 exact (do_I B g r mv tv w hr i h1 h2 h3 hs (nameB 23) (hname 23 hop) (hform 73 hf) _ (fun W _=>two_all 23 (by omega) (by omega) (r.regs[i.s1]?.getD 0) (IntKind.u64.wrap i.imm) W x0 x1 hn.1 hn.2)).mono fun _ _ h=>⟨tv,h⟩
theorem doC_24 (H:DoH B g r mv tv w i) (hop:i.op=24) : DoG B g r mv tv w i:=by
 obtain ⟨hr,h1,h2,h3,hs,hL,hB,hl,ht,h64,hname,hform⟩:=H
 unfold DoG
 have hn:=u64_bd i.imm
 obtain ⟨x0,x1⟩:=reg64 h64 i.s1
 have hf:formB i.op=73:=by rw [hop]; rfl
 have e:doF i r=some (r.on,r.wr i.rd (twoF 24 (r.regs[i.s1]?.getD 0) (IntKind.u64.wrap i.imm))):=by unfold doF; rw [hf,hop] <;> rfl
 rw [e]
 exact (do_I B g r mv tv w hr i h1 h2 h3 hs (nameB 24) (hname 24 hop) (hform 73 hf) _ (fun W _=>two_all 24 (by omega) (by omega) (r.regs[i.s1]?.getD 0) (IntKind.u64.wrap i.imm) W x0 x1 hn.1 hn.2)).mono fun _ _ h=>⟨tv,h⟩
theorem doC_25 (H:DoH B g r mv tv w i) (hop:i.op=25) : DoG B g r mv tv w i:=by
 obtain ⟨hr,h1,h2,h3,hs,hL,hB,hl,ht,h64,hname,hform⟩:=H
 unfold DoG
 have hn:=u64_bd i.imm
 obtain ⟨x0,x1⟩:=reg64 h64 i.s1
 have hf:formB i.op=73:=by rw [hop]; rfl
 have e:doF i r=some (r.on,r.wr i.rd (twoF 25 (r.regs[i.s1]?.getD 0) (IntKind.u64.wrap i.imm))):=by unfold doF; rw [hf,hop] <;> rfl
 rw [e]
 exact (do_I B g r mv tv w hr i h1 h2 h3 hs (nameB 25) (hname 25 hop) (hform 73 hf) _ (fun W _=>two_all 25 (by omega) (by omega) (r.regs[i.s1]?.getD 0) (IntKind.u64.wrap i.imm) W x0 x1 hn.1 hn.2)).mono fun _ _ h=>⟨tv,h⟩
theorem doC_26 (H:DoH B g r mv tv w i) (hop:i.op=26) : DoG B g r mv tv w i:=by
 obtain ⟨hr,h1,h2,h3,hs,hL,hB,hl,ht,h64,hname,hform⟩:=H
 unfold DoG
 have hn:=u64_bd i.imm
 obtain ⟨x0,x1⟩:=reg64 h64 i.s1
 have hf:formB i.op=73:=by rw [hop]; rfl
 have e:doF i r=some (r.on,r.wr i.rd (twoF 26 (r.regs[i.s1]?.getD 0) (IntKind.u64.wrap i.imm))):=by unfold doF; rw [hf,hop] <;> rfl
 rw [e]
 exact (do_I B g r mv tv w hr i h1 h2 h3 hs (nameB 26) (hname 26 hop) (hform 73 hf) _ (fun W _=>two_all 26 (by omega) (by omega) (r.regs[i.s1]?.getD 0) (IntKind.u64.wrap i.imm) W x0 x1 hn.1 hn.2)).mono fun _ _ h=>⟨tv,h⟩
theorem doC_27 (H:DoH B g r mv tv w i) (hop:i.op=27) : DoG B g r mv tv w i:=by
 obtain ⟨hr,h1,h2,h3,hs,hL,hB,hl,ht,h64,hname,hform⟩:=H
 unfold DoG
 have hn:=u64_bd i.imm
 obtain ⟨x0,x1⟩:=reg64 h64 i.s1
 have hf:formB i.op=73:=by rw [hop]; rfl
 have e:doF i r=some (r.on,r.wr i.rd (twoF 27 (r.regs[i.s1]?.getD 0) (IntKind.u64.wrap i.imm))):=by unfold doF; rw [hf,hop] <;> rfl
 rw [e]
 exact (do_I B g r mv tv w hr i h1 h2 h3 hs (nameB 27) (hname 27 hop) (hform 73 hf) _ (fun W _=>two_all 27 (by omega) (by omega) (r.regs[i.s1]?.getD 0) (IntKind.u64.wrap i.imm) W x0 x1 hn.1 hn.2)).mono fun _ _ h=>⟨tv,h⟩
theorem doC_28 (H:DoH B g r mv tv w i) (hop:i.op=28) : DoG B g r mv tv w i:=by
 obtain ⟨hr,h1,h2,h3,hs,hL,hB,hl,ht,h64,hname,hform⟩:=H
 unfold DoG
 have hn:=u64_bd i.imm
 obtain ⟨x0,x1⟩:=reg64 h64 i.s1
 have hf:formB i.op=54:=by rw [hop]; rfl
 have e:doF i r=some (r.on,r.wr i.rd (twoF 28 (r.regs[i.s1]?.getD 0) (IntKind.u64.wrap i.imm))):=by unfold doF; rw [hf,hop] <;> rfl
 rw [e]
 exact (do_six B g r mv tv w hr i h1 h2 h3 hs (nameB 28) (hname 28 hop) (hform 54 hf) _ (fun W _=>two_all 28 (by omega) (by omega) (r.regs[i.s1]?.getD 0) (IntKind.u64.wrap i.imm) W x0 x1 hn.1 hn.2)).mono fun _ _ h=>⟨tv,h⟩
theorem doC_29 (H:DoH B g r mv tv w i) (hop:i.op=29) : DoG B g r mv tv w i:=by
 obtain ⟨hr,h1,h2,h3,hs,hL,hB,hl,ht,h64,hname,hform⟩:=H
 unfold DoG
 have hn:=u64_bd i.imm
 obtain ⟨x0,x1⟩:=reg64 h64 i.s1
 have hf:formB i.op=54:=by rw [hop]; rfl
 have e:doF i r=some (r.on,r.wr i.rd (twoF 29 (r.regs[i.s1]?.getD 0) (IntKind.u64.wrap i.imm))):=by unfold doF; rw [hf,hop] <;> rfl
 rw [e]
 exact (do_six B g r mv tv w hr i h1 h2 h3 hs (nameB 29) (hname 29 hop) (hform 54 hf) _ (fun W _=>two_all 29 (by omega) (by omega) (r.regs[i.s1]?.getD 0) (IntKind.u64.wrap i.imm) W x0 x1 hn.1 hn.2)).mono fun _ _ h=>⟨tv,h⟩
theorem doC_30 (H:DoH B g r mv tv w i) (hop:i.op=30) : DoG B g r mv tv w i:=by
 obtain ⟨hr,h1,h2,h3,hs,hL,hB,hl,ht,h64,hname,hform⟩:=H
 unfold DoG
 have hn:=u64_bd i.imm
 obtain ⟨x0,x1⟩:=reg64 h64 i.s1
 have hf:formB i.op=54:=by rw [hop]; rfl
 have e:doF i r=some (r.on,r.wr i.rd (twoF 30 (r.regs[i.s1]?.getD 0) (IntKind.u64.wrap i.imm))):=by unfold doF; rw [hf,hop] <;> rfl
 rw [e]
 exact (do_six B g r mv tv w hr i h1 h2 h3 hs (nameB 30) (hname 30 hop) (hform 54 hf) _ (fun W _=>two_all 30 (by omega) (by omega) (r.regs[i.s1]?.getD 0) (IntKind.u64.wrap i.imm) W x0 x1 hn.1 hn.2)).mono fun _ _ h=>⟨tv,h⟩
theorem doC_31 (H:DoH B g r mv tv w i) (hop:i.op=31) : DoG B g r mv tv w i:=by
 obtain ⟨hr,h1,h2,h3,hs,hL,hB,hl,ht,h64,hname,hform⟩:=H
 unfold DoG
 obtain ⟨x0,x1⟩:=reg64 h64 i.s1
 obtain ⟨y0,y1⟩:=reg64 h64 i.s2
 have hf:formB i.op=82:=by rw [hop]; rfl
 have e:doF i r=some (r.on,r.wr i.rd (twoF 31 (r.regs[i.s1]?.getD 0) (r.regs[i.s2]?.getD 0))):=by unfold doF; rw [hf,hop] <;> rfl
 rw [e]
 exact (do_R B g r mv tv w hr i h1 h2 h3 hs (nameB 31) (hname 31 hop) (hform 82 hf) _ (fun W _=>two_all 31 (by omega) (by omega) (r.regs[i.s1]?.getD 0) (r.regs[i.s2]?.getD 0) W x0 x1 y0 y1)).mono fun _ _ h=>⟨tv,h⟩
theorem doC_32 (H:DoH B g r mv tv w i) (hop:i.op=32) : DoG B g r mv tv w i:=by
 obtain ⟨hr,h1,h2,h3,hs,hL,hB,hl,ht,h64,hname,hform⟩:=H
 unfold DoG
 obtain ⟨x0,x1⟩:=reg64 h64 i.s1
 obtain ⟨y0,y1⟩:=reg64 h64 i.s2
 have hf:formB i.op=82:=by rw [hop]; rfl
 have e:doF i r=some (r.on,r.wr i.rd (twoF 32 (r.regs[i.s1]?.getD 0) (r.regs[i.s2]?.getD 0))):=by unfold doF; rw [hf,hop] <;> rfl
 rw [e]
 exact (do_R B g r mv tv w hr i h1 h2 h3 hs (nameB 32) (hname 32 hop) (hform 82 hf) _ (fun W _=>two_all 32 (by omega) (by omega) (r.regs[i.s1]?.getD 0) (r.regs[i.s2]?.getD 0) W x0 x1 y0 y1)).mono fun _ _ h=>⟨tv,h⟩
theorem doC_33 (H:DoH B g r mv tv w i) (hop:i.op=33) : DoG B g r mv tv w i:=by
 obtain ⟨hr,h1,h2,h3,hs,hL,hB,hl,ht,h64,hname,hform⟩:=H
 unfold DoG
 obtain ⟨x0,x1⟩:=reg64 h64 i.s1
 obtain ⟨y0,y1⟩:=reg64 h64 i.s2
 have hf:formB i.op=82:=by rw [hop]; rfl
 have e:doF i r=some (r.on,r.wr i.rd (twoF 33 (r.regs[i.s1]?.getD 0) (r.regs[i.s2]?.getD 0))):=by unfold doF; rw [hf,hop] <;> rfl
 rw [e]
 exact (do_R B g r mv tv w hr i h1 h2 h3 hs (nameB 33) (hname 33 hop) (hform 82 hf) _ (fun W _=>two_all 33 (by omega) (by omega) (r.regs[i.s1]?.getD 0) (r.regs[i.s2]?.getD 0) W x0 x1 y0 y1)).mono fun _ _ h=>⟨tv,h⟩
theorem doC_34 (H:DoH B g r mv tv w i) (hop:i.op=34) : DoG B g r mv tv w i:=by
 obtain ⟨hr,h1,h2,h3,hs,hL,hB,hl,ht,h64,hname,hform⟩:=H
 unfold DoG
 obtain ⟨x0,x1⟩:=reg64 h64 i.s1
 obtain ⟨y0,y1⟩:=reg64 h64 i.s2
 have hf:formB i.op=82:=by rw [hop]; rfl
 have e:doF i r=some (r.on,r.wr i.rd (twoF 34 (r.regs[i.s1]?.getD 0) (r.regs[i.s2]?.getD 0))):=by unfold doF; rw [hf,hop] <;> rfl
 rw [e]
 exact (do_R B g r mv tv w hr i h1 h2 h3 hs (nameB 34) (hname 34 hop) (hform 82 hf) _ (fun W _=>two_all 34 (by omega) (by omega) (r.regs[i.s1]?.getD 0) (r.regs[i.s2]?.getD 0) W x0 x1 y0 y1)).mono fun _ _ h=>⟨tv,h⟩
theorem doC_35 (H:DoH B g r mv tv w i) (hop:i.op=35) : DoG B g r mv tv w i:=by
 obtain ⟨hr,h1,h2,h3,hs,hL,hB,hl,ht,h64,hname,hform⟩:=H
 unfold DoG
 obtain ⟨x0,x1⟩:=reg64 h64 i.s1
 obtain ⟨y0,y1⟩:=reg64 h64 i.s2
 have hf:formB i.op=82:=by rw [hop]; rfl
 have e:doF i r=some (r.on,r.wr i.rd (twoF 35 (r.regs[i.s1]?.getD 0) (r.regs[i.s2]?.getD 0))):=by unfold doF; rw [hf,hop] <;> rfl
 rw [e]
 exact (do_R B g r mv tv w hr i h1 h2 h3 hs (nameB 35) (hname 35 hop) (hform 82 hf) _ (fun W _=>two_all 35 (by omega) (by omega) (r.regs[i.s1]?.getD 0) (r.regs[i.s2]?.getD 0) W x0 x1 y0 y1)).mono fun _ _ h=>⟨tv,h⟩
theorem doC_36 (H:DoH B g r mv tv w i) (hop:i.op=36) : DoG B g r mv tv w i:=by
 obtain ⟨hr,h1,h2,h3,hs,hL,hB,hl,ht,h64,hname,hform⟩:=H
 unfold DoG
 obtain ⟨x0,x1⟩:=reg64 h64 i.s1
 obtain ⟨y0,y1⟩:=reg64 h64 i.s2
 have hf:formB i.op=82:=by rw [hop]; rfl
 have e:doF i r=some (r.on,r.wr i.rd (twoF 36 (r.regs[i.s1]?.getD 0) (r.regs[i.s2]?.getD 0))):=by unfold doF; rw [hf,hop] <;> rfl
 rw [e]
 exact (do_R B g r mv tv w hr i h1 h2 h3 hs (nameB 36) (hname 36 hop) (hform 82 hf) _ (fun W _=>two_all 36 (by omega) (by omega) (r.regs[i.s1]?.getD 0) (r.regs[i.s2]?.getD 0) W x0 x1 y0 y1)).mono fun _ _ h=>⟨tv,h⟩
theorem doC_37 (H:DoH B g r mv tv w i) (hop:i.op=37) : DoG B g r mv tv w i:=by
 obtain ⟨hr,h1,h2,h3,hs,hL,hB,hl,ht,h64,hname,hform⟩:=H
 unfold DoG
 obtain ⟨x0,x1⟩:=reg64 h64 i.s1
 obtain ⟨y0,y1⟩:=reg64 h64 i.s2
 have hf:formB i.op=82:=by rw [hop]; rfl
 have e:doF i r=some (r.on,r.wr i.rd (twoF 37 (r.regs[i.s1]?.getD 0) (r.regs[i.s2]?.getD 0))):=by unfold doF; rw [hf,hop] <;> rfl
 rw [e]
 exact (do_R B g r mv tv w hr i h1 h2 h3 hs (nameB 37) (hname 37 hop) (hform 82 hf) _ (fun W _=>two_all 37 (by omega) (by omega) (r.regs[i.s1]?.getD 0) (r.regs[i.s2]?.getD 0) W x0 x1 y0 y1)).mono fun _ _ h=>⟨tv,h⟩
theorem doC_38 (H:DoH B g r mv tv w i) (hop:i.op=38) : DoG B g r mv tv w i:=by
 obtain ⟨hr,h1,h2,h3,hs,hL,hB,hl,ht,h64,hname,hform⟩:=H
 unfold DoG
 obtain ⟨x0,x1⟩:=reg64 h64 i.s1
 obtain ⟨y0,y1⟩:=reg64 h64 i.s2
 have hf:formB i.op=82:=by rw [hop]; rfl
 have e:doF i r=some (r.on,r.wr i.rd (twoF 38 (r.regs[i.s1]?.getD 0) (r.regs[i.s2]?.getD 0))):=by unfold doF; rw [hf,hop] <;> rfl
 rw [e]
 exact (do_R B g r mv tv w hr i h1 h2 h3 hs (nameB 38) (hname 38 hop) (hform 82 hf) _ (fun W _=>two_all 38 (by omega) (by omega) (r.regs[i.s1]?.getD 0) (r.regs[i.s2]?.getD 0) W x0 x1 y0 y1)).mono fun _ _ h=>⟨tv,h⟩
theorem doC_39 (H:DoH B g r mv tv w i) (hop:i.op=39) : DoG B g r mv tv w i:=by
 obtain ⟨hr,h1,h2,h3,hs,hL,hB,hl,ht,h64,hname,hform⟩:=H
 unfold DoG
 obtain ⟨x0,x1⟩:=reg64 h64 i.s1
 obtain ⟨y0,y1⟩:=reg64 h64 i.s2
 have hf:formB i.op=82:=by rw [hop]; rfl
 have e:doF i r=some (r.on,r.wr i.rd (twoF 39 (r.regs[i.s1]?.getD 0) (r.regs[i.s2]?.getD 0))):=by unfold doF; rw [hf,hop] <;> rfl
 rw [e]
 exact (do_R B g r mv tv w hr i h1 h2 h3 hs (nameB 39) (hname 39 hop) (hform 82 hf) _ (fun W _=>two_all 39 (by omega) (by omega) (r.regs[i.s1]?.getD 0) (r.regs[i.s2]?.getD 0) W x0 x1 y0 y1)).mono fun _ _ h=>⟨tv,h⟩
theorem doC_40 (H:DoH B g r mv tv w i) (hop:i.op=40) : DoG B g r mv tv w i:=by
 obtain ⟨hr,h1,h2,h3,hs,hL,hB,hl,ht,h64,hname,hform⟩:=H
 unfold DoG
 obtain ⟨x0,x1⟩:=reg64 h64 i.s1
 obtain ⟨y0,y1⟩:=reg64 h64 i.s2
 have hf:formB i.op=82:=by rw [hop]; rfl
 have e:doF i r=some (r.on,r.wr i.rd (twoF 40 (r.regs[i.s1]?.getD 0) (r.regs[i.s2]?.getD 0))):=by unfold doF; rw [hf,hop] <;> rfl
 rw [e]
 exact (do_R B g r mv tv w hr i h1 h2 h3 hs (nameB 40) (hname 40 hop) (hform 82 hf) _ (fun W _=>two_all 40 (by omega) (by omega) (r.regs[i.s1]?.getD 0) (r.regs[i.s2]?.getD 0) W x0 x1 y0 y1)).mono fun _ _ h=>⟨tv,h⟩
theorem doC_41 (H:DoH B g r mv tv w i) (hop:i.op=41) : DoG B g r mv tv w i:=by
 obtain ⟨hr,h1,h2,h3,hs,hL,hB,hl,ht,h64,hname,hform⟩:=H
 unfold DoG
 have hn:=u64_bd i.imm
 obtain ⟨x0,x1⟩:=reg64 h64 i.s1
 have hf:formB i.op=73:=by rw [hop]; rfl
 have e:doF i r=some (r.on,r.wr i.rd (twoF 41 (r.regs[i.s1]?.getD 0) (IntKind.u64.wrap i.imm))):=by unfold doF; rw [hf,hop] <;> rfl
 rw [e]
 exact (do_I B g r mv tv w hr i h1 h2 h3 hs (nameB 41) (hname 41 hop) (hform 73 hf) _ (fun W _=>two_all 41 (by omega) (by omega) (r.regs[i.s1]?.getD 0) (IntKind.u64.wrap i.imm) W x0 x1 hn.1 hn.2)).mono fun _ _ h=>⟨tv,h⟩
theorem doC_42 (H:DoH B g r mv tv w i) (hop:i.op=42) : DoG B g r mv tv w i:=by
 obtain ⟨hr,h1,h2,h3,hs,hL,hB,hl,ht,h64,hname,hform⟩:=H
 unfold DoG
 have hn:=u64_bd i.imm
 obtain ⟨x0,x1⟩:=reg64 h64 i.s1
 have hf:formB i.op=53:=by rw [hop]; rfl
 have e:doF i r=some (r.on,r.wr i.rd (twoF 42 (r.regs[i.s1]?.getD 0) (IntKind.u64.wrap i.imm))):=by unfold doF; rw [hf,hop] <;> rfl
 rw [e]
 exact (do_five B g r mv tv w hr i h1 h2 h3 hs (nameB 42) (hname 42 hop) (hform 53 hf) _ (fun W _=>two_all 42 (by omega) (by omega) (r.regs[i.s1]?.getD 0) (IntKind.u64.wrap i.imm) W x0 x1 hn.1 hn.2)).mono fun _ _ h=>⟨tv,h⟩
theorem doC_43 (H:DoH B g r mv tv w i) (hop:i.op=43) : DoG B g r mv tv w i:=by
 obtain ⟨hr,h1,h2,h3,hs,hL,hB,hl,ht,h64,hname,hform⟩:=H
 unfold DoG
 have hn:=u64_bd i.imm
 obtain ⟨x0,x1⟩:=reg64 h64 i.s1
 have hf:formB i.op=53:=by rw [hop]; rfl
 have e:doF i r=some (r.on,r.wr i.rd (twoF 43 (r.regs[i.s1]?.getD 0) (IntKind.u64.wrap i.imm))):=by unfold doF; rw [hf,hop] <;> rfl
 rw [e]
 exact (do_five B g r mv tv w hr i h1 h2 h3 hs (nameB 43) (hname 43 hop) (hform 53 hf) _ (fun W _=>two_all 43 (by omega) (by omega) (r.regs[i.s1]?.getD 0) (IntKind.u64.wrap i.imm) W x0 x1 hn.1 hn.2)).mono fun _ _ h=>⟨tv,h⟩
theorem doC_44 (H:DoH B g r mv tv w i) (hop:i.op=44) : DoG B g r mv tv w i:=by
 obtain ⟨hr,h1,h2,h3,hs,hL,hB,hl,ht,h64,hname,hform⟩:=H
 unfold DoG
 have hn:=u64_bd i.imm
 obtain ⟨x0,x1⟩:=reg64 h64 i.s1
 have hf:formB i.op=53:=by rw [hop]; rfl
 have e:doF i r=some (r.on,r.wr i.rd (twoF 44 (r.regs[i.s1]?.getD 0) (IntKind.u64.wrap i.imm))):=by unfold doF; rw [hf,hop] <;> rfl
 rw [e]
 exact (do_five B g r mv tv w hr i h1 h2 h3 hs (nameB 44) (hname 44 hop) (hform 53 hf) _ (fun W _=>two_all 44 (by omega) (by omega) (r.regs[i.s1]?.getD 0) (IntKind.u64.wrap i.imm) W x0 x1 hn.1 hn.2)).mono fun _ _ h=>⟨tv,h⟩
theorem doC_45 (H:DoH B g r mv tv w i) (hop:i.op=45) : DoG B g r mv tv w i:=by
 obtain ⟨hr,h1,h2,h3,hs,hL,hB,hl,ht,h64,hname,hform⟩:=H
 unfold DoG
 obtain ⟨x0,x1⟩:=reg64 h64 i.s1
 obtain ⟨y0,y1⟩:=reg64 h64 i.s2
 have hf:formB i.op=82:=by rw [hop]; rfl
 have e:doF i r=some (r.on,r.wr i.rd (twoF 45 (r.regs[i.s1]?.getD 0) (r.regs[i.s2]?.getD 0))):=by unfold doF; rw [hf,hop] <;> rfl
 rw [e]
 exact (do_R B g r mv tv w hr i h1 h2 h3 hs (nameB 45) (hname 45 hop) (hform 82 hf) _ (fun W _=>two_all 45 (by omega) (by omega) (r.regs[i.s1]?.getD 0) (r.regs[i.s2]?.getD 0) W x0 x1 y0 y1)).mono fun _ _ h=>⟨tv,h⟩
theorem doC_46 (H:DoH B g r mv tv w i) (hop:i.op=46) : DoG B g r mv tv w i:=by
 obtain ⟨hr,h1,h2,h3,hs,hL,hB,hl,ht,h64,hname,hform⟩:=H
 unfold DoG
 obtain ⟨x0,x1⟩:=reg64 h64 i.s1
 obtain ⟨y0,y1⟩:=reg64 h64 i.s2
 have hf:formB i.op=82:=by rw [hop]; rfl
 have e:doF i r=some (r.on,r.wr i.rd (twoF 46 (r.regs[i.s1]?.getD 0) (r.regs[i.s2]?.getD 0))):=by unfold doF; rw [hf,hop] <;> rfl
 rw [e]
 exact (do_R B g r mv tv w hr i h1 h2 h3 hs (nameB 46) (hname 46 hop) (hform 82 hf) _ (fun W _=>two_all 46 (by omega) (by omega) (r.regs[i.s1]?.getD 0) (r.regs[i.s2]?.getD 0) W x0 x1 y0 y1)).mono fun _ _ h=>⟨tv,h⟩
theorem doC_47 (H:DoH B g r mv tv w i) (hop:i.op=47) : DoG B g r mv tv w i:=by
 obtain ⟨hr,h1,h2,h3,hs,hL,hB,hl,ht,h64,hname,hform⟩:=H
 unfold DoG
 obtain ⟨x0,x1⟩:=reg64 h64 i.s1
 obtain ⟨y0,y1⟩:=reg64 h64 i.s2
 have hf:formB i.op=82:=by rw [hop]; rfl
 have e:doF i r=some (r.on,r.wr i.rd (twoF 47 (r.regs[i.s1]?.getD 0) (r.regs[i.s2]?.getD 0))):=by unfold doF; rw [hf,hop] <;> rfl
 rw [e]
 exact (do_R B g r mv tv w hr i h1 h2 h3 hs (nameB 47) (hname 47 hop) (hform 82 hf) _ (fun W _=>two_all 47 (by omega) (by omega) (r.regs[i.s1]?.getD 0) (r.regs[i.s2]?.getD 0) W x0 x1 y0 y1)).mono fun _ _ h=>⟨tv,h⟩
theorem doC_48 (H:DoH B g r mv tv w i) (hop:i.op=48) : DoG B g r mv tv w i:=by
 obtain ⟨hr,h1,h2,h3,hs,hL,hB,hl,ht,h64,hname,hform⟩:=H
 unfold DoG
 obtain ⟨x0,x1⟩:=reg64 h64 i.s1
 obtain ⟨y0,y1⟩:=reg64 h64 i.s2
 have hf:formB i.op=82:=by rw [hop]; rfl
 have e:doF i r=some (r.on,r.wr i.rd (twoF 48 (r.regs[i.s1]?.getD 0) (r.regs[i.s2]?.getD 0))):=by unfold doF; rw [hf,hop] <;> rfl
 rw [e]
 exact (do_R B g r mv tv w hr i h1 h2 h3 hs (nameB 48) (hname 48 hop) (hform 82 hf) _ (fun W _=>two_all 48 (by omega) (by omega) (r.regs[i.s1]?.getD 0) (r.regs[i.s2]?.getD 0) W x0 x1 y0 y1)).mono fun _ _ h=>⟨tv,h⟩
theorem doC_49 (H:DoH B g r mv tv w i) (hop:i.op=49) : DoG B g r mv tv w i:=by
 obtain ⟨hr,h1,h2,h3,hs,hL,hB,hl,ht,h64,hname,hform⟩:=H
 unfold DoG
 obtain ⟨x0,x1⟩:=reg64 h64 i.s1
 obtain ⟨y0,y1⟩:=reg64 h64 i.s2
 have hf:formB i.op=82:=by rw [hop]; rfl
 have e:doF i r=some (r.on,r.wr i.rd (twoF 49 (r.regs[i.s1]?.getD 0) (r.regs[i.s2]?.getD 0))):=by unfold doF; rw [hf,hop] <;> rfl
 rw [e]
 exact (do_R B g r mv tv w hr i h1 h2 h3 hs (nameB 49) (hname 49 hop) (hform 82 hf) _ (fun W _=>two_all 49 (by omega) (by omega) (r.regs[i.s1]?.getD 0) (r.regs[i.s2]?.getD 0) W x0 x1 y0 y1)).mono fun _ _ h=>⟨tv,h⟩
theorem doC_50 (H:DoH B g r mv tv w i) (hop:i.op=50) : DoG B g r mv tv w i:=by
 obtain ⟨hr,h1,h2,h3,hs,hL,hB,hl,ht,h64,hname,hform⟩:=H
 unfold DoG
 obtain ⟨x0,x1⟩:=reg64 h64 i.s1
 obtain ⟨y0,y1⟩:=reg64 h64 i.s2
 have hf:formB i.op=82:=by rw [hop]; rfl
 have e:doF i r=some (r.on,r.wr i.rd (twoF 50 (r.regs[i.s1]?.getD 0) (r.regs[i.s2]?.getD 0))):=by unfold doF; rw [hf,hop] <;> rfl
 rw [e]
 exact (do_R B g r mv tv w hr i h1 h2 h3 hs (nameB 50) (hname 50 hop) (hform 82 hf) _ (fun W _=>two_all 50 (by omega) (by omega) (r.regs[i.s1]?.getD 0) (r.regs[i.s2]?.getD 0) W x0 x1 y0 y1)).mono fun _ _ h=>⟨tv,h⟩
theorem doC_51 (H:DoH B g r mv tv w i) (hop:i.op=51) : DoG B g r mv tv w i:=by
 obtain ⟨hr,h1,h2,h3,hs,hL,hB,hl,ht,h64,hname,hform⟩:=H
 unfold DoG
 obtain ⟨x0,x1⟩:=reg64 h64 i.s1
 obtain ⟨y0,y1⟩:=reg64 h64 i.s2
 have hf:formB i.op=82:=by rw [hop]; rfl
 have e:doF i r=some (r.on,r.wr i.rd (twoF 51 (r.regs[i.s1]?.getD 0) (r.regs[i.s2]?.getD 0))):=by unfold doF; rw [hf,hop] <;> rfl
 rw [e]
 exact (do_R B g r mv tv w hr i h1 h2 h3 hs (nameB 51) (hname 51 hop) (hform 82 hf) _ (fun W _=>two_all 51 (by omega) (by omega) (r.regs[i.s1]?.getD 0) (r.regs[i.s2]?.getD 0) W x0 x1 y0 y1)).mono fun _ _ h=>⟨tv,h⟩
theorem doC_52 (H:DoH B g r mv tv w i) (hop:i.op=52) : DoG B g r mv tv w i:=by
 obtain ⟨hr,h1,h2,h3,hs,hL,hB,hl,ht,h64,hname,hform⟩:=H
 unfold DoG
 obtain ⟨x0,x1⟩:=reg64 h64 i.s1
 obtain ⟨y0,y1⟩:=reg64 h64 i.s2
 have hf:formB i.op=82:=by rw [hop]; rfl
 have e:doF i r=some (r.on,r.wr i.rd (twoF 52 (r.regs[i.s1]?.getD 0) (r.regs[i.s2]?.getD 0))):=by unfold doF; rw [hf,hop] <;> rfl
 rw [e]
 exact (do_R B g r mv tv w hr i h1 h2 h3 hs (nameB 52) (hname 52 hop) (hform 82 hf) _ (fun W _=>two_all 52 (by omega) (by omega) (r.regs[i.s1]?.getD 0) (r.regs[i.s2]?.getD 0) W x0 x1 y0 y1)).mono fun _ _ h=>⟨tv,h⟩
theorem doC_53 (H:DoH B g r mv tv w i) (hop:i.op=53) : DoG B g r mv tv w i:=by
 obtain ⟨hr,h1,h2,h3,hs,hL,hB,hl,ht,h64,hname,hform⟩:=H
 unfold DoG
 obtain ⟨x0,x1⟩:=reg64 h64 i.s1
 obtain ⟨y0,y1⟩:=reg64 h64 i.s2
 have hf:formB i.op=82:=by rw [hop]; rfl
 have e:doF i r=some (r.on,r.wr i.rd (twoF 53 (r.regs[i.s1]?.getD 0) (r.regs[i.s2]?.getD 0))):=by unfold doF; rw [hf,hop] <;> rfl
 rw [e]
 exact (do_R B g r mv tv w hr i h1 h2 h3 hs (nameB 53) (hname 53 hop) (hform 82 hf) _ (fun W _=>two_all 53 (by omega) (by omega) (r.regs[i.s1]?.getD 0) (r.regs[i.s2]?.getD 0) W x0 x1 y0 y1)).mono fun _ _ h=>⟨tv,h⟩
theorem doC_54 (H:DoH B g r mv tv w i) (hop:i.op=54) : DoG B g r mv tv w i:=by
 obtain ⟨hr,h1,h2,h3,hs,hL,hB,hl,ht,h64,hname,hform⟩:=H
 unfold DoG
 obtain ⟨x0,x1⟩:=reg64 h64 i.s1
 obtain ⟨y0,y1⟩:=reg64 h64 i.s2
 have hf:formB i.op=82:=by rw [hop]; rfl
 have e:doF i r=some (r.on,r.wr i.rd (twoF 54 (r.regs[i.s1]?.getD 0) (r.regs[i.s2]?.getD 0))):=by unfold doF; rw [hf,hop] <;> rfl
 rw [e]
 exact (do_R B g r mv tv w hr i h1 h2 h3 hs (nameB 54) (hname 54 hop) (hform 82 hf) _ (fun W _=>two_all 54 (by omega) (by omega) (r.regs[i.s1]?.getD 0) (r.regs[i.s2]?.getD 0) W x0 x1 y0 y1)).mono fun _ _ h=>⟨tv,h⟩
theorem doC_55 (H:DoH B g r mv tv w i) (hop:i.op=55) : DoG B g r mv tv w i:=by
 obtain ⟨hr,h1,h2,h3,hs,hL,hB,hl,ht,h64,hname,hform⟩:=H
 unfold DoG
 obtain ⟨x0,x1⟩:=reg64 h64 i.s1
 obtain ⟨y0,y1⟩:=reg64 h64 i.s2
 have hf:formB i.op=82:=by rw [hop]; rfl
 have e:doF i r=some (r.on,r.wr i.rd (twoF 55 (r.regs[i.s1]?.getD 0) (r.regs[i.s2]?.getD 0))):=by unfold doF; rw [hf,hop] <;> rfl
 rw [e]
 exact (do_R B g r mv tv w hr i h1 h2 h3 hs (nameB 55) (hname 55 hop) (hform 82 hf) _ (fun W _=>two_all 55 (by omega) (by omega) (r.regs[i.s1]?.getD 0) (r.regs[i.s2]?.getD 0) W x0 x1 y0 y1)).mono fun _ _ h=>⟨tv,h⟩
theorem doC_56 (H:DoH B g r mv tv w i) (hop:i.op=56) : DoG B g r mv tv w i:=by
 obtain ⟨hr,h1,h2,h3,hs,hL,hB,hl,ht,h64,hname,hform⟩:=H
 unfold DoG
 obtain ⟨x0,x1⟩:=reg64 h64 i.s1
 obtain ⟨y0,y1⟩:=reg64 h64 i.s2
 have hf:formB i.op=82:=by rw [hop]; rfl
 have e:doF i r=some (r.on,r.wr i.rd (twoF 56 (r.regs[i.s1]?.getD 0) (r.regs[i.s2]?.getD 0))):=by unfold doF; rw [hf,hop] <;> rfl
 rw [e]
 exact (do_R B g r mv tv w hr i h1 h2 h3 hs (nameB 56) (hname 56 hop) (hform 82 hf) _ (fun W _=>two_all 56 (by omega) (by omega) (r.regs[i.s1]?.getD 0) (r.regs[i.s2]?.getD 0) W x0 x1 y0 y1)).mono fun _ _ h=>⟨tv,h⟩
theorem doC_57 (H:DoH B g r mv tv w i) (hop:i.op=57) : DoG B g r mv tv w i:=by
 obtain ⟨hr,h1,h2,h3,hs,hL,hB,hl,ht,h64,hname,hform⟩:=H
 unfold DoG
 obtain ⟨x0,x1⟩:=reg64 h64 i.s1
 obtain ⟨y0,y1⟩:=reg64 h64 i.s2
 have hf:formB i.op=82:=by rw [hop]; rfl
 have e:doF i r=some (r.on,r.wr i.rd (twoF 57 (r.regs[i.s1]?.getD 0) (r.regs[i.s2]?.getD 0))):=by unfold doF; rw [hf,hop] <;> rfl
 rw [e]
 exact (do_R B g r mv tv w hr i h1 h2 h3 hs (nameB 57) (hname 57 hop) (hform 82 hf) _ (fun W _=>two_all 57 (by omega) (by omega) (r.regs[i.s1]?.getD 0) (r.regs[i.s2]?.getD 0) W x0 x1 y0 y1)).mono fun _ _ h=>⟨tv,h⟩
theorem doC_58 (H:DoH B g r mv tv w i) (hop:i.op=58) : DoG B g r mv tv w i:=by
 obtain ⟨hr,h1,h2,h3,hs,hL,hB,hl,ht,h64,hname,hform⟩:=H
 unfold DoG
 obtain ⟨x0,x1⟩:=reg64 h64 i.s1
 obtain ⟨y0,y1⟩:=reg64 h64 i.s2
 have hf:formB i.op=82:=by rw [hop]; rfl
 have e:doF i r=some (r.on,r.wr i.rd (twoF 58 (r.regs[i.s1]?.getD 0) (r.regs[i.s2]?.getD 0))):=by unfold doF; rw [hf,hop] <;> rfl
 rw [e]
 exact (do_R B g r mv tv w hr i h1 h2 h3 hs (nameB 58) (hname 58 hop) (hform 82 hf) _ (fun W _=>two_all 58 (by omega) (by omega) (r.regs[i.s1]?.getD 0) (r.regs[i.s2]?.getD 0) W x0 x1 y0 y1)).mono fun _ _ h=>⟨tv,h⟩
theorem doC_59 (H:DoH B g r mv tv w i) (hop:i.op=59) : DoG B g r mv tv w i:=by
 obtain ⟨hr,h1,h2,h3,hs,hL,hB,hl,ht,h64,hname,hform⟩:=H
 unfold DoG
 obtain ⟨x0,x1⟩:=reg64 h64 i.s1
 obtain ⟨y0,y1⟩:=reg64 h64 i.s2
 have hf:formB i.op=82:=by rw [hop]; rfl
 have e:doF i r=some (r.on,r.wr i.rd (twoF 59 (r.regs[i.s1]?.getD 0) (r.regs[i.s2]?.getD 0))):=by unfold doF; rw [hf,hop] <;> rfl
 rw [e]
 exact (do_R B g r mv tv w hr i h1 h2 h3 hs (nameB 59) (hname 59 hop) (hform 82 hf) _ (fun W _=>two_all 59 (by omega) (by omega) (r.regs[i.s1]?.getD 0) (r.regs[i.s2]?.getD 0) W x0 x1 y0 y1)).mono fun _ _ h=>⟨tv,h⟩
theorem doC_60 (H:DoH B g r mv tv w i) (hop:i.op=60) : DoG B g r mv tv w i:=by
 obtain ⟨hr,h1,h2,h3,hs,hL,hB,hl,ht,h64,hname,hform⟩:=H
 unfold DoG
 obtain ⟨x0,x1⟩:=reg64 h64 i.s1
 obtain ⟨y0,y1⟩:=reg64 h64 i.s2
 have hf:formB i.op=82:=by rw [hop]; rfl
 have e:doF i r=some (r.on,r.wr i.rd (twoF 60 (r.regs[i.s1]?.getD 0) (r.regs[i.s2]?.getD 0))):=by unfold doF; rw [hf,hop] <;> rfl
 rw [e]
 exact (do_R B g r mv tv w hr i h1 h2 h3 hs (nameB 60) (hname 60 hop) (hform 82 hf) _ (fun W _=>two_all 60 (by omega) (by omega) (r.regs[i.s1]?.getD 0) (r.regs[i.s2]?.getD 0) W x0 x1 y0 y1)).mono fun _ _ h=>⟨tv,h⟩
theorem doC_61 (H:DoH B g r mv tv w i) (hop:i.op=61) : DoG B g r mv tv w i:=by
 obtain ⟨hr,h1,h2,h3,hs,hL,hB,hl,ht,h64,hname,hform⟩:=H
 unfold DoG
 obtain ⟨x0,x1⟩:=reg64 h64 i.s1
 obtain ⟨y0,y1⟩:=reg64 h64 i.s2
 have hf:formB i.op=82:=by rw [hop]; rfl
 have e:doF i r=some (r.on,r.wr i.rd (twoF 61 (r.regs[i.s1]?.getD 0) (r.regs[i.s2]?.getD 0))):=by unfold doF; rw [hf,hop] <;> rfl
 rw [e]
 exact (do_R B g r mv tv w hr i h1 h2 h3 hs (nameB 61) (hname 61 hop) (hform 82 hf) _ (fun W _=>two_all 61 (by omega) (by omega) (r.regs[i.s1]?.getD 0) (r.regs[i.s2]?.getD 0) W x0 x1 y0 y1)).mono fun _ _ h=>⟨tv,h⟩
theorem doC_62 (H:DoH B g r mv tv w i) (hop:i.op=62) : DoG B g r mv tv w i:=by
 obtain ⟨hr,h1,h2,h3,hs,hL,hB,hl,ht,h64,hname,hform⟩:=H
 unfold DoG
 obtain ⟨x0,x1⟩:=reg64 h64 i.s1
 obtain ⟨y0,y1⟩:=reg64 h64 i.s2
 have hf:formB i.op=82:=by rw [hop]; rfl
 have e:doF i r=some (r.on,r.wr i.rd (twoF 62 (r.regs[i.s1]?.getD 0) (r.regs[i.s2]?.getD 0))):=by unfold doF; rw [hf,hop] <;> rfl
 rw [e]
 exact (do_R B g r mv tv w hr i h1 h2 h3 hs (nameB 62) (hname 62 hop) (hform 82 hf) _ (fun W _=>two_all 62 (by omega) (by omega) (r.regs[i.s1]?.getD 0) (r.regs[i.s2]?.getD 0) W x0 x1 y0 y1)).mono fun _ _ h=>⟨tv,h⟩
theorem doC_63 (H:DoH B g r mv tv w i) (hop:i.op=63) : DoG B g r mv tv w i:=by
 obtain ⟨hr,h1,h2,h3,hs,hL,hB,hl,ht,h64,hname,hform⟩:=H
 unfold DoG
 have hf:formB i.op=70:=by rw [hop]; rfl
 have e:doF i r=some (r.on,r.wr i.rd 0):=by unfold doF; rw [hf] <;> rfl
 rw [e]
 exact (do_F B g r mv tv w hr i h1 h2 h3 hs (nameB 63) (hname 63 hop) (hform 70 hf)).mono fun _ _ h=>⟨tv,h⟩
theorem doC_64 (H:DoH B g r mv tv w i) (hop:i.op=64) : DoG B g r mv tv w i:=by
 obtain ⟨hr,h1,h2,h3,hs,hL,hB,hl,ht,h64,hname,hform⟩:=H
 unfold DoG
 have hf:formB i.op=78:=by rw [hop]; rfl
 have e:doF i r=none:=by unfold doF; rw [hf,hop] <;> rfl
 rw [e]
 exact do_none 78 (.inl rfl) B g r mv tv w hr i h1 h2 h3 hs (nameB 64) (hname 64 hop) (hform 78 hf) (by simp [nameB])
theorem doC_65 (H:DoH B g r mv tv w i) (hop:i.op=65) : DoG B g r mv tv w i:=by
 obtain ⟨hr,h1,h2,h3,hs,hL,hB,hl,ht,h64,hname,hform⟩:=H
 unfold DoG
 have hf:formB i.op=78:=by rw [hop]; rfl
 obtain ⟨T,d,rfl,hd,_⟩:=own_slice hr.told
 have e:doF i r=if r.told.length < 1000 then some (r.on,{ r with told:=r.told ++ [r.regs.getD 10 0],done:=r.regs.getD 17 0 == 93 }.wr i.rd 0) else none:=by unfold doF; rw [hf,hop] <;> rfl
 rw [e]
 by_cases hfull:r.told.length < 1000
 ·rw [if_pos hfull]
  exact do_ecall B g r mv _ w hr i h1 h2 h3 hs (nameB 65) (hname 65 hop) (hform 78 hf) (by simp [nameB]) T d rfl hfull
 ·rw [if_neg hfull]
  exact do_ecall_full B g r mv _ w hr i h1 h2 h3 hs (nameB 65) (hname 65 hop) (hform 78 hf) (by simp [nameB]) T d rfl (by omega) ht
theorem doC_66 (H:DoH B g r mv tv w i) (hop:i.op=66) : DoG B g r mv tv w i:=by
 obtain ⟨hr,h1,h2,h3,hs,hL,hB,hl,ht,h64,hname,hform⟩:=H
 unfold DoG
 have hf:formB i.op=78:=by rw [hop]; rfl
 have e:doF i r=none:=by unfold doF; rw [hf,hop] <;> rfl
 rw [e]
 exact do_none 78 (.inl rfl) B g r mv tv w hr i h1 h2 h3 hs (nameB 66) (hname 66 hop) (hform 78 hf) (by simp [nameB])
theorem name_far {n:Nat} (a:67≤n) (b:n≤94) : ((nameB n).toList == [101,99,97,108,108])=false :=
 (by decide +kernel:∀ n:Fin 95,67≤n.1→((nameB n.1).toList == [101,99,97,108,108])=false) ⟨n,by omega⟩ a
theorem doC_far (H:DoH B g r mv tv w i) (a:67≤i.op) (b:i.op≤94) : DoG B g r mv tv w i:=by
 obtain ⟨hr,h1,h2,h3,hs,hL,hB,hl,ht,h64,hname,hform⟩:=H
 unfold DoG
 have hf:formB i.op=65∨formB i.op=67∨formB i.op=90∨formB i.op=108:=(by decide:∀ n:Fin 95,67≤n.1→formB n.1=65∨formB n.1=67∨formB n.1=90∨formB n.1=108) ⟨i.op,by omega⟩ a
 have e:doF i r=none:=by unfold doF; obtain hf | hf | hf | hf:=hf <;> (rw [hf] <;> rfl)
 rw [e]
 exact do_none (formB i.op) (by omega) B g r mv tv w hr i h1 h2 h3 hs (nameB i.op) (hname _ rfl) (hform _ rfl) (name_far a b)
end
theorem do_c (B g:Nat) (r:Rn) (mv tv:Value) (w:World) (hr:RunW B w g r mv tv) (i:Ins) (hok:i.ok) (hs:r.stop=false) (hL:LG w) (hB:3≤B) (hl:r.mem.length≤65536) (ht:r.told.length≤1000000) (h64:Regs64 r.regs) :
  Calls Tryz.prog 45 #[.pointer (some ⟨g,0,none⟩),i.v] w (DoAll B w g mv tv (doF i r)):=by
 obtain ⟨o1,o2,h3,h1,h2⟩:=hok
 have H:DoH B g r mv tv w i:=⟨hr,h1,h2,h3,hs,hL,hB,hl,ht,h64,name_of o1 o2 hL hB,form_of o1 o2 hL hB⟩
 obtain hop | hop | hop | hop | hop | hop | hop | hop | hop | hop | hop | hop | hop | hop | hop | hop | hop | hop | hop | hop | hop | hop | hop | hop | hop | hop | hop | hop | hop | hop | hop | hop | hop | hop | hop | hop | hop | hop | hop | hop | hop | hop | hop | hop | hop | hop | hop | hop | hop | hop | hop | hop | hop | hop | hop | hop | hop | hop | hop | hop | hop | hop | hop | hop | hop | hop | a:i.op=1∨i.op=2∨i.op=3∨i.op=4∨i.op=5∨i.op=6∨i.op=7∨i.op=8∨i.op=9∨i.op=10∨i.op=11∨i.op=12∨i.op=13∨i.op=14∨i.op=15∨i.op=16∨i.op=17∨i.op=18∨i.op=19∨i.op=20∨i.op=21∨i.op=22∨i.op=23∨i.op=24∨i.op=25∨i.op=26∨i.op=27∨i.op=28∨i.op=29∨i.op=30∨i.op=31∨i.op=32∨i.op=33∨i.op=34∨i.op=35∨i.op=36∨i.op=37∨i.op=38∨i.op=39∨i.op=40∨i.op=41∨i.op=42∨i.op=43∨i.op=44∨i.op=45∨i.op=46∨i.op=47∨i.op=48∨i.op=49∨i.op=50∨i.op=51∨i.op=52∨i.op=53∨i.op=54∨i.op=55∨i.op=56∨i.op=57∨i.op=58∨i.op=59∨i.op=60∨i.op=61∨i.op=62∨i.op=63∨i.op=64∨i.op=65∨i.op=66∨67≤i.op:=by omega
 ·exact doC_1 H hop
 ·exact doC_2 H hop
 ·exact doC_3 H hop
 ·exact doC_4 H hop
 ·exact doC_5 H hop
 ·exact doC_6 H hop
 ·exact doC_7 H hop
 ·exact doC_8 H hop
 ·exact doC_9 H hop
 ·exact doC_10 H hop
 ·exact doC_11 H hop
 ·exact doC_12 H hop
 ·exact doC_13 H hop
 ·exact doC_14 H hop
 ·exact doC_15 H hop
 ·exact doC_16 H hop
 ·exact doC_17 H hop
 ·exact doC_18 H hop
 ·exact doC_19 H hop
 ·exact doC_20 H hop
 ·exact doC_21 H hop
 ·exact doC_22 H hop
 ·exact doC_23 H hop
 ·exact doC_24 H hop
 ·exact doC_25 H hop
 ·exact doC_26 H hop
 ·exact doC_27 H hop
 ·exact doC_28 H hop
 ·exact doC_29 H hop
 ·exact doC_30 H hop
 ·exact doC_31 H hop
 ·exact doC_32 H hop
 ·exact doC_33 H hop
 ·exact doC_34 H hop
 ·exact doC_35 H hop
 ·exact doC_36 H hop
 ·exact doC_37 H hop
 ·exact doC_38 H hop
 ·exact doC_39 H hop
 ·exact doC_40 H hop
 ·exact doC_41 H hop
 ·exact doC_42 H hop
 ·exact doC_43 H hop
 ·exact doC_44 H hop
 ·exact doC_45 H hop
 ·exact doC_46 H hop
 ·exact doC_47 H hop
 ·exact doC_48 H hop
 ·exact doC_49 H hop
 ·exact doC_50 H hop
 ·exact doC_51 H hop
 ·exact doC_52 H hop
 ·exact doC_53 H hop
 ·exact doC_54 H hop
 ·exact doC_55 H hop
 ·exact doC_56 H hop
 ·exact doC_57 H hop
 ·exact doC_58 H hop
 ·exact doC_59 H hop
 ·exact doC_60 H hop
 ·exact doC_61 H hop
 ·exact doC_62 H hop
 ·exact doC_63 H hop
 ·exact doC_64 H hop
 ·exact doC_65 H hop
 ·exact doC_66 H hop
 ·exact doC_far H a o2
end Go.Proofs.YtoehlmiadiiimaaGreatDoor
