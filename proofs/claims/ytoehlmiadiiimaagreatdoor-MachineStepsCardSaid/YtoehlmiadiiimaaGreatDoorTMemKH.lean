/-
  The machine, as the document has it: may one be; what stays as numbers are.
-/
import Derived.Test.YtoehlmiadiiimaaGreatDoorTMemJ8
namespace Go.Proofs.YtoehlmiadiiimaaGreatDoor
open Go.ChangeShapes Go.WideShapes Go.RowKit Go.Proofs.YtoehlmiadiiimaaGreatDoor.Ex
set_option maxRecDepth 100000 in
set_option maxHeartbeats 1000000 in
theorem mayM (v:Value) (r:Rn) (w:World) (h:MachR w v r) (b:Bool) (hb:decide (checkE r=0)=b) : Calls Tryz.prog 34 #[v] w fun e w'=>e=.returned (.bool b)∧Below w.heap.size w w':=by
 obtain ⟨mv,tv,rfl,hmv,htv⟩:=h.form
 have hlen:=h.len
 obtain ⟨A1,q1,rfl,-,-⟩:=hmv.form
 obtain ⟨A2,q2,rfl,-,-⟩:=htv.form
 have c33:=mc33 (r:=r) (mv:=.slice A1 (r.mem.map (Value.int .u8)).length q1) (tv:=.slice A2 (r.told.map (Value.int .u64)).length q2) hlen
 have c34:=mc34 (r:=r) (mv:=.slice A1 (r.mem.map (Value.int .u8)).length q1) (tv:=.slice A2 (r.told.map (Value.int .u64)).length q2) hlen
 have c35:=mc35 (r:=r) (mv:=.slice A1 (r.mem.map (Value.int .u8)).length q1) (tv:=.slice A2 (r.told.map (Value.int .u64)).length q2) hlen
 have c1:=mcR (r:=r) (mv:=.slice A1 (r.mem.map (Value.int .u8)).length q1) (tv:=.slice A2 (r.told.map (Value.int .u64)).length q2) hlen 0 (by omega)
 generalize (mcells r (.slice A1 (r.mem.map (Value.int .u8)).length q1) (.slice A2 (r.told.map (Value.int .u64)).length q2)).toArray=cs at *
 simp only [List.length_map] at c34 c35
 unfold checkE checkF at hb
 generalize r.base=B at *
 generalize r.mem.length=m at *
 generalize r.regs.getD 0 0=x at *
 generalize r.told.length=t at *
 clear hmv htv h hlen
 have HB:=Lib.hid hb
 clear hb
 by_cases k1:B≤2147483648
 ·by_cases k2:m≤65536
  ·have k2':(m:Int)≤65536:=by omega
   by_cases k3:x=0
   ·subst k3
    by_cases k4:t≤1000
    ·have k4':(t:Int)≤1000:=by omega
     have d4:decide (t≤1000)=true:=decide_eq_true k4
     have d2:decide (m≤65536)=true:=decide_eq_true k2
     obtain rfl:b=true:=by rw [← HB.out]; exact decide_eq_true (by (repeat' split) <;> omega)
     go_enter Tryz.func34,Tryz.ntmps34
     go_wp2
     go_ret
     exact ⟨rfl,(Below.refl _ _).alloc (Nat.le_refl _) _⟩
    ·have k4':¬ (t:Int)≤1000:=by omega
     have d4:decide (t≤1000)=false:=decide_eq_false k4
     have d2:decide (m≤65536)=true:=decide_eq_true k2
     obtain rfl:b=false:=by rw [← HB.out]; exact decide_eq_false (by (repeat' split) <;> omega)
     go_enter Tryz.func34,Tryz.ntmps34
     go_wp2
     go_ret
     exact ⟨rfl,(Below.refl _ _).alloc (Nat.le_refl _) _⟩
   ·have k3':(x == 0)=false:=by simpa using k3
    have d2:decide (m≤65536)=true:=decide_eq_true k2
    obtain rfl:b=false:=by rw [← HB.out]; exact decide_eq_false (by (repeat' split) <;> omega)
    clear k3
    go_enter Tryz.func34,Tryz.ntmps34
    go_wp2
    go_ret
    exact ⟨rfl,(Below.refl _ _).alloc (Nat.le_refl _) _⟩
  ·have k2':¬ (m:Int)≤65536:=by omega
   have d2:decide (m≤65536)=false:=decide_eq_false k2
   obtain rfl:b=false:=by rw [← HB.out]; exact decide_eq_false (by (repeat' split) <;> omega)
   go_enter Tryz.func34,Tryz.ntmps34
   go_wp2
   go_ret
   exact ⟨rfl,(Below.refl _ _).alloc (Nat.le_refl _) _⟩
 ·have d1:decide (B≤2147483648)=false:=decide_eq_false k1
  obtain rfl:b=false:=by rw [← HB.out]; exact decide_eq_false (by (repeat' split) <;> omega)
  go_enter Tryz.func34,Tryz.ntmps34
  go_wp2
  go_ret
  exact ⟨rfl,(Below.refl _ _).alloc (Nat.le_refl _) _⟩
theorem mem_set_all {l:List Int} (h:∀ x∈l,0≤x∧x < 256) (k:Nat) {v:Int} (hv:0≤v∧v < 256) : ∀ x∈l.set k v,0≤x∧x < 256:=fun x hx=>by
 rcases List.mem_or_eq_of_mem_set hx with h1 | h1
 ·exact h x h1
 ·subst h1; exact hv
theorem memSet_all {l:List Int} (h:∀ x∈l,0≤x∧x < 256) (k:Nat) (y:Int) : ∀ j,∀ x∈memSet l k y j,0≤x∧x < 256
 | 0=>h
 | j+1=>mem_set_all (memSet_all h k y j) _ (by
  unfold stv
  show 0≤(y / 2 ^ (8*j)) % 256∧(y / 2 ^ (8*j)) % 256 < 256
  omega)
theorem doF_more {i:Ins} {r r':Rn} {to:Int} (h:doF i r=some (to,r')) (h0:r.on < B64) (hm:∀ x∈r.mem,0≤x∧x < 256) : to < B64∧∀ x∈r'.mem,0≤x∧x < 256:=by
 unfold doF at h
 split at h
 ·injection h with h; injection h with h1 h; subst h; subst h1
  exact ⟨h0,hm⟩
 ·injection h with h; injection h with h1 h; subst h; subst h1
  exact ⟨(u64_B _).2,hm⟩
 ·injection h with h; injection h with h1 h; subst h; subst h1
  refine ⟨?_,hm⟩
  split
  ·exact (u64_B _).2
  ·exact h0
 ·split at h
  ·injection h with h; injection h with h1 h; subst h; subst h1
   exact ⟨(bits_bd _ _ _).2,hm⟩
  ·split at h
   ·cases h
   ·injection h with h; injection h with h1 h; subst h; subst h1
    exact ⟨h0,hm⟩
 ·split at h
  ·cases h
  ·injection h with h; injection h with h1 h; subst h; subst h1
   exact ⟨h0,memSet_all hm _ _ _⟩
 ·injection h with h; injection h with h1 h; subst h; subst h1
  exact ⟨h0,hm⟩
 ·injection h with h; injection h with h1 h; subst h; subst h1
  exact ⟨h0,hm⟩
 ·injection h with h; injection h with h1 h; subst h; subst h1
  exact ⟨h0,hm⟩
 ·injection h with h; injection h with h1 h; subst h; subst h1
  exact ⟨h0,hm⟩
 ·injection h with h; injection h with h1 h; subst h; subst h1
  exact ⟨h0,hm⟩
 ·split at h
  ·split at h
   ·injection h with h; injection h with h1 h; subst h; subst h1
    exact ⟨h0,hm⟩
   ·cases h
  ·cases h
 ·cases h
theorem fit_step {r r':Rn} (F:Fit r) (h:stepF r=some r') : Fit r':=by
 have K:=step_kept h
 have K1:=K.mem
 have K2:=K.base
 have K3:=K.most
 have F1:=F.len
 have F2:=F.told
 have key:r'.pc < B64∧∀ x∈r'.mem,0≤x∧x < 256:=by
  unfold stepF at h
  split at h
  ·cases h
  ·split at h
   ·cases h
   ·rename_i i on hf
    split at h
    ·cases h
    ·rename_i to r1 hd
     injection h with h
     subst h
     have k:=doF_more (r:={ r with on:=on,stop:=false }) hd (fetch_on hf).2 F.bytes
     exact k
 exact ⟨⟨K.pc F.pc.1,key.1⟩,by rw [K2]; exact F.base,by omega,key.2,K.regs F.regs,by omega⟩
end Go.Proofs.YtoehlmiadiiimaaGreatDoor
