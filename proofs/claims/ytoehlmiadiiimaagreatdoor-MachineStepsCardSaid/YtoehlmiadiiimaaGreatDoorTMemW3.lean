import Derived.Test.YtoehlmiadiiimaaGreatDoorTMemS
import Derived.Test.YtoehlmiadiiimaaGreatDoorTMemI2
import Derived.Test.YtoehlmiadiiimaaGreatDoorTMemF0
import Derived.WalkMore
import Derived.Deep.LoopGhost
namespace Go.Proofs.YtoehlmiadiiimaaGreatDoor
open Go.ChangeShapes Go.WideShapes Go.RowKit Go.Proofs.YtoehlmiadiiimaaGreatDoor.Ex
def nameE (i:Nat) : List AV×AV:=([.int .u8 (Int.ofNat (i+1))],.tup [var0.getD i .nilif,.int .i64 0])
def formE (i:Nat) : List AV×AV:=([.int .u8 (Int.ofNat (i+1))],.tup [.int .u8 (Int.ofNat (formB (i+1))),.int .i64 0])
theorem nameT:TabG Tryz.prog vars 3 30 ((List.range 94).map nameE):=tabG_of mixed (fun φ=>noOrc_OK Tryz.prog 3 φ) (by kernel_rfl)
theorem formT:TabG Tryz.prog vars 3 31 ((List.range 94).map formE):=tabG_of mixed (fun φ=>noOrc_OK Tryz.prog 3 φ) (by kernel_rfl)
theorem name_val (op:Nat) (h1:1≤op) (h2:op≤94) : (var0.getD (op - 1) .nilif).toVal (fun _=>0) (fun _ _=>0)=.string (nameB op):=by
 obtain rfl | rfl | rfl | rfl | rfl | rfl | rfl | rfl | rfl | rfl | rfl | rfl | rfl | rfl | rfl | rfl | rfl | rfl | rfl | rfl | rfl | rfl | rfl | rfl | rfl | rfl | rfl | rfl | rfl | rfl | rfl | rfl | rfl | rfl | rfl | rfl | rfl | rfl | rfl | rfl | rfl | rfl | rfl | rfl | rfl | rfl | rfl | rfl | rfl | rfl | rfl | rfl | rfl | rfl | rfl | rfl | rfl | rfl | rfl | rfl | rfl | rfl | rfl | rfl | rfl | rfl | rfl | rfl | rfl | rfl | rfl | rfl | rfl | rfl | rfl | rfl | rfl | rfl | rfl | rfl | rfl | rfl | rfl | rfl | rfl | rfl | rfl | rfl | rfl | rfl | rfl | rfl | rfl | rfl:op=1∨op=2∨op=3∨op=4∨op=5∨op=6∨op=7∨op=8∨op=9∨op=10∨op=11∨op=12∨op=13∨op=14∨op=15∨op=16∨op=17∨op=18∨op=19∨op=20∨op=21∨op=22∨op=23∨op=24∨op=25∨op=26∨op=27∨op=28∨op=29∨op=30∨op=31∨op=32∨op=33∨op=34∨op=35∨op=36∨op=37∨op=38∨op=39∨op=40∨op=41∨op=42∨op=43∨op=44∨op=45∨op=46∨op=47∨op=48∨op=49∨op=50∨op=51∨op=52∨op=53∨op=54∨op=55∨op=56∨op=57∨op=58∨op=59∨op=60∨op=61∨op=62∨op=63∨op=64∨op=65∨op=66∨op=67∨op=68∨op=69∨op=70∨op=71∨op=72∨op=73∨op=74∨op=75∨op=76∨op=77∨op=78∨op=79∨op=80∨op=81∨op=82∨op=83∨op=84∨op=85∨op=86∨op=87∨op=88∨op=89∨op=90∨op=91∨op=92∨op=93∨op=94:=by omega
 all_goals rfl
theorem name_c (op:Nat) (h1:1≤op) (h2:op≤94) (w:World) (hL:LG w) : Calls Tryz.prog 30 #[.int .u8 op] w fun e w'=>e=.returned (.tuple #[.string (nameB op),.int .i64 0])∧Below w.heap.size w w':=by
 have k:=(nameT (nameE (op - 1)) (List.mem_map.2 ⟨op - 1,List.mem_range.2 (by omega),rfl⟩)).2 (fun _=>0) (fun _ _=>0) w hL
 have e1:(AV.toVals (fun _=>0) (fun _ _=>0) (nameE (op - 1)).1).toArray=#[.int .u8 op]:=by
  show #[Value.int .u8 (Int.ofNat (op - 1+1))]=_
  rw [Nat.sub_add_cancel h1]; rfl
 have e2:(nameE (op - 1)).2.toVal (fun _=>0) (fun _ _=>0)=.tuple #[.string (nameB op),.int .i64 0]:=by
  rw [← name_val op h1 h2]; rfl
 rw [e1,e2] at k
 exact k
theorem form_c (op:Nat) (h1:1≤op) (h2:op≤94) (w:World) (hL:LG w) : Calls Tryz.prog 31 #[.int .u8 op] w fun e w'=>e=.returned (.tuple #[.int .u8 (formB op),.int .i64 0])∧Below w.heap.size w w':=by
 have k:=(formT (formE (op - 1)) (List.mem_map.2 ⟨op - 1,List.mem_range.2 (by omega),rfl⟩)).2 (fun _=>0) (fun _ _=>0) w hL
 have e1:(AV.toVals (fun _=>0) (fun _ _=>0) (formE (op - 1)).1).toArray=#[.int .u8 op]:=by
  show #[Value.int .u8 (Int.ofNat (op - 1+1))]=_
  rw [Nat.sub_add_cancel h1]; rfl
 have e2:(formE (op - 1)).2.toVal (fun _=>0) (fun _ _=>0)=.tuple #[.int .u8 (formB op),.int .i64 0]:=by
  show Value.tuple #[.int .u8 (Int.ofNat (formB (op - 1+1))),.int .i64 0]=_
  rw [Nat.sub_add_cancel h1]; rfl
 rw [e1,e2] at k
 exact k
end Go.Proofs.YtoehlmiadiiimaaGreatDoor
namespace Go.Proofs.YtoehlmiadiiimaaGreatDoor
open Go.ChangeShapes Go.WideShapes Go.RowKit Go.Proofs.YtoehlmiadiiimaaGreatDoor.Ex
def placesF:Nat→List Nat
 | 85=>[12,13,14,15,16,17,18,19,20,21,22,23,24,25,26,27,28,29,30,31]
 | 74=>[21,22,23,24,25,26,27,28,29,30,20,12,13,14,15,16,17,18,19,31]
 | 66=>[8,9,10,11,25,26,27,28,29,30,7,31]
 | 76=>[20,21,22,23,24,25,26,27,28,29,30,31]
 | 83=>[7,8,9,10,11,25,26,27,28,29,30,31]
 | 73=>[20,21,22,23,24,25,26,27,28,29,30,31]
 | 54=>[20,21,22,23,24,25]
 | 53=>[20,21,22,23,24]
 | 82=>[]
 | 70=>[20,21,22,23,24,25,26,27]
 | 78=>[]
 | 67=>[20,21,22,23,24,25,26,27,28,29,30,31]
 | 90=>[20,21,22,23,24,25,26,27,28,29,30,31]
 | 108=>[25,26]
 | 65=>[25,26]
 | _=>[]
def regsF:Nat→Bool×Bool×Bool
 | 85=>(true,false,false)
 | 74=>(true,false,false)
 | 66=>(false,true,true)
 | 83=>(false,true,true)
 | 82=>(true,true,true)
 | 65=>(true,true,true)
 | 73=>(true,true,false)
 | 76=>(true,true,false)
 | 54=>(true,true,false)
 | 53=>(true,true,false)
 | 67=>(true,true,false)
 | 90=>(true,true,false)
 | 108=>(true,true,false)
 | 70=>(false,false,false)
 | 78=>(false,false,false)
 | _=>(false,false,false)
def kindF:Nat→Nat
 | 74=>2
 | 66=>2
 | 73=>1
 | 76=>1
 | 83=>1
 | _=>0
def maskF:Nat→Nat
 | 85=>127
 | 74=>127
 | 66=>28799
 | 76=>28799
 | 83=>28799
 | 73=>28799
 | 54=>4227887231
 | 53=>4261441663
 | 82=>4261441663
 | 70=>4027580415
 | 78=>4294967295
 | 67=>28799
 | 90=>28799
 | 108=>4193284223
 | 65=>4160778367
 | _=>0
def formsAll:List Nat:=[85,74,66,76,83,73,54,53,82,70,78,67,90,108,65]
def gW:List Nat→Nat→SE→SE
 | [],_,acc=>acc
 | p :: ps,i,acc=>gW ps (i+1) (.bin .or .u32 acc (.bin .shl .u32 (.bin .and .u32 (.bin .shr .u32 (.var 0) (.lit (Int.ofNat p))) (.lit 1)) (.lit (Int.ofNat i))))
def regE (has:Bool) (p:Nat) : AV:=match has with
 | true=>.sint .i64 (.wrap .i64 (.bin .and .u32 (.bin .shr .u32 (.var 0) (.lit (Int.ofNat p))) (.lit 31)))
 | false=>.int .i64 0
def signE (v:SE) (n:Nat) : SE:=.wrap .i64 (.bin .shr .i32 (.wrap .i32 (.bin .shl .u32 v (.lit (Int.ofNat (32 - n))))) (.lit (Int.ofNat (32 - n))))
def immE (form:Nat) : AV :=
 let l:=placesF form
 let v:=gW l 0 (.lit 0)
 match kindF form with
 | 1=>.sint .i64 (signE v l.length)
 | 2=>.sint .i64 (.bin .mul .i64 (.lit 2) (signE v l.length))
 | _=>match l with
  | []=>.int .i64 0
  | _=>.sint .i64 (.wrap .i64 v)
def leafE (form:Nat) (imm:AV) : AV:=.agg [.sint .u8 (.var 1),regE (regsF form).1 7,regE (regsF form).2.1 15,regE (regsF form).2.2 20,imm]
def fieldsTr (form:Nat) : Tr:=match kindF form with
 | 0=>.leaf (leafE form (immE form))
 | _=>.eq (.bin .andNot .u32 (gW (placesF form) 0 (.lit 0)) (.lit (Int.ofNat (2 ^ (placesF form).length - 1)))) (.lit 0) (.leaf (leafE form (immE form))) (.leaf (leafE form (.int .i64 0)))
noncomputable def fieldsIn (form:Nat) : Bool:=(fieldsTr form).ok (Go.Proofs.YtoehlmiadiiimaaGreatDoor.Ex.runT Tryz.prog (fun _=>noOrc) 10000 0 107 [.sint .u8 (.var 1),.int .u8 (Int.ofNat form),.sint .u32 (.var 0)]) ⟨[],[],[]⟩
theorem fields_told:(formsAll.all fun f=>fieldsIn f)=true:=by kernel_rfl
end Go.Proofs.YtoehlmiadiiimaaGreatDoor
namespace Go.Proofs.YtoehlmiadiiimaaGreatDoor
open Go.ChangeShapes Go.WideShapes Go.RowKit Go.Proofs.YtoehlmiadiiimaaGreatDoor.Ex
def ηW (op w:Nat) : Nat→Int:=fun i=>match i with | 0=>(w:Int) | _=>(op:Int)
def φW:Nat→List Int→Int:=fun _ _=>0
def regW (has:Bool) (p w:Nat) : Nat:=match has with | true=>w / 2 ^ p % 32 | false=>0
theorem regW_lt (has:Bool) (p w:Nat) : regW has p w < 32:=by cases has <;> simp [regW]; omega
def immW (op w:Nat) (form:Nat) : Int :=
 match (fieldsTr form).at (ηW op w) φW with
 | some (.agg [_,_,_,_,.int _ n])=>n
 | some (.agg [_,_,_,_,.sint _ e])=>e.ev (ηW op w) φW
 | _=>0
def fieldsI (op form w:Nat) : Ins:=⟨op,regW (regsF form).1 7 w,regW (regsF form).2.1 15 w,regW (regsF form).2.2 20 w,immW op w form⟩
theorem shr_u32 (w p:Nat) (hp:p≤32) : ibin .shr .u32 (w:Int) (Int.ofNat p)=((w / 2 ^ p:Nat) : Int):=by
 have e:ibin .shr .u32 (w:Int) (Int.ofNat p)=(w:Int).fdiv (2 ^ (min p 32)):=rfl
 rw [e,Nat.min_eq_left hp,Int.fdiv_eq_ediv_of_nonneg _ (Int.le_of_lt (Int.pow_pos (by omega)))]
 simp
theorem reg_val (has:Bool) (p op w:Nat) (hp:p≤32) (hw:w < 4294967296) : (regE has p).toVal (ηW op w) φW=.int .i64 (regW has p w:Nat):=by
 cases has with
 | false=>rfl
 | true =>
  show Value.int .i64 (IntKind.i64.wrap (ibin .and .u32 (ibin .shr .u32 (w:Int) (Int.ofNat p)) 31))=_
  rw [shr_u32 w p hp]
  have h1:w / 2 ^ p≤w:=Nat.div_le_self _ _
  have h2:ibin .and .u32 ((w / 2 ^ p:Nat) : Int) 31=((w / 2 ^ p % 32:Nat) : Int) :=
   (and_nat .u32 (w / 2 ^ p) 31 (by show _≤4294967295; omega) (by decide)).trans (by rw [show Nat.land (w / 2 ^ p) 31=w / 2 ^ p % 32 from Nat.and_two_pow_sub_one_eq_mod _ 5])
  rw [h2]
  show Value.int .i64 (IntKind.i64.wrap ((w / 2 ^ p % 32:Nat) : Int))=.int .i64 ((w / 2 ^ p % 32:Nat) : Int)
  generalize hq:w / 2 ^ p % 32=q
  have hq32:q < 32:=by omega
  have e:IntKind.i64.wrap ((q:Nat) : Int)=(q:Int):=by rw [IntKind.wrap_i64]; omega
  rw [e]
theorem leaf_val (op form w:Nat) (imm:AV) (n:Int) (h:imm.toVal (ηW op w) φW=.int .i64 n) (hw:w < 4294967296) :
  (leafE form imm).toVal (ηW op w) φW=.agg #[.int .u8 op,.int .i64 (regW (regsF form).1 7 w:Nat),.int .i64 (regW (regsF form).2.1 15 w:Nat),.int .i64 (regW (regsF form).2.2 20 w:Nat),.int .i64 n]:=by
 unfold leafE
 simp only [AV.toVal,AV.toVals,reg_val _ _ op w (by omega:(7:Nat)≤32) hw,reg_val _ _ op w (by omega:(15:Nat)≤32) hw,reg_val _ _ op w (by omega:(20:Nat)≤32) hw,h]
 rfl
theorem imm_kind (form:Nat) (op w:Nat) : ∃ n,(immE form).toVal (ηW op w) φW=.int .i64 n:=by
 unfold immE
 simp only
 split
 ·exact ⟨_,rfl⟩
 ·exact ⟨_,rfl⟩
 ·split
  ·exact ⟨_,rfl⟩
  ·exact ⟨_,rfl⟩
theorem fields_at (op form w:Nat) (hw:w < 4294967296) : ∃ v,(fieldsTr form).at (ηW op w) φW=some v∧v.toVal (ηW op w) φW=(fieldsI op form w).v:=by
 obtain ⟨n,hn⟩:=imm_kind form op w
 have key:∀ imm m,(fieldsTr form).at (ηW op w) φW=some (leafE form imm)→imm.toVal (ηW op w) φW=.int .i64 m→∃ v,(fieldsTr form).at (ηW op w) φW=some v∧v.toVal (ηW op w) φW=(fieldsI op form w).v:=by
  intro imm m h1 h2
  refine ⟨_,h1,(leaf_val op form w imm m h2 hw).trans ?_⟩
  have hm:immW op w form=m:=by
   unfold immW
   rw [h1]
   unfold leafE
   cases imm with
   | int k x=>simp only [AV.toVal,Value.int.injEq] at h2; obtain ⟨_,rfl⟩:=h2; rfl
   | sint k e=>simp only [AV.toVal,Value.int.injEq] at h2; obtain ⟨_,rfl⟩:=h2; rfl
   | _=>simp [AV.toVal] at h2
  show _=Value.agg #[_,_,_,_,.int .i64 (immW op w form)]
  rw [hm]
  rfl
 unfold fieldsTr at key ⊢
 split at key
 ·exact key _ n rfl hn
 ·cases hc:((SE.bin BinOp.andNot IntKind.u32 (gW (placesF form) 0 (.lit 0)) (.lit (Int.ofNat (2 ^ (placesF form).length - 1)))).ev (ηW op w) φW == (SE.lit 0).ev (ηW op w) φW) with
  | true=>exact key _ n (by simp only [Tr.at,hc]) hn
  | false=>exact key (.int .i64 0) 0 (by simp only [Tr.at,hc]) rfl
theorem leaf_plain (form:Nat) (imm:AV) (h:imm.plain=true) : (leafE form imm).plain=true:=by
 have hr:∀ b p,(regE b p).plain=true:=fun b p=>by cases b <;> rfl
 unfold leafE
 simp [AV.plain,AV.plains,hr,h]
theorem imm_plain (form:Nat) : (immE form).plain=true:=by
 unfold immE
 simp only
 split
 ·rfl
 ·rfl
 ·split <;> rfl
theorem fields_plain (op form w:Nat) {v:AV} (h:(fieldsTr form).at (ηW op w) φW=some v) : v.plain=true:=by
 unfold fieldsTr at h
 split at h
 ·simp only [Tr.at,Option.some.injEq] at h; subst h; exact leaf_plain _ _ (imm_plain form)
 ·simp only [Tr.at] at h
  split at h
  ·simp only [Option.some.injEq] at h; subst h; exact leaf_plain _ _ (imm_plain form)
  ·simp only [Option.some.injEq] at h; subst h; exact leaf_plain _ _ rfl
theorem fields_c (op form w:Nat) (hf:form∈formsAll) (hw:w < 4294967296) (W:World) :
  Calls Tryz.prog 107 #[.int .u8 op,.int .u8 form,.int .u32 w] W fun e w'=>e=.returned (fieldsI op form w).v∧Below W.heap.size W w':=by
 obtain ⟨v,h1,h2⟩:=fields_at op form w hw
 exact ret_of mixed (noOrc_OK Tryz.prog 0 φW) (List.all_eq_true.1 fields_told form hf) (Fa.On.nil _ _) h1 (fields_plain op form w h1) rfl rfl h2 W
end Go.Proofs.YtoehlmiadiiimaaGreatDoor
namespace Go.Proofs.YtoehlmiadiiimaaGreatDoor
open Go.ChangeShapes Go.WideShapes Go.RowKit Go.Proofs.YtoehlmiadiiimaaGreatDoor.Ex
def baseB:Nat→Nat
 | 1=>55
 | 2=>23
 | 3=>111
 | 4=>103
 | 5=>99
 | 6=>4195
 | 7=>16483
 | 8=>20579
 | 9=>24675
 | 10=>28771
 | 11=>3
 | 12=>4099
 | 13=>8195
 | 14=>12291
 | 15=>16387
 | 16=>20483
 | 17=>24579
 | 18=>35
 | 19=>4131
 | 20=>8227
 | 21=>12323
 | 22=>19
 | 23=>8211
 | 24=>12307
 | 25=>16403
 | 26=>24595
 | 27=>28691
 | 28=>4115
 | 29=>20499
 | 30=>1073762323
 | 31=>51
 | 32=>1073741875
 | 33=>4147
 | 34=>8243
 | 35=>12339
 | 36=>16435
 | 37=>20531
 | 38=>1073762355
 | 39=>24627
 | 40=>28723
 | 41=>27
 | 42=>4123
 | 43=>20507
 | 44=>1073762331
 | 45=>59
 | 46=>1073741883
 | 47=>4155
 | 48=>20539
 | 49=>1073762363
 | 50=>33554483
 | 51=>33558579
 | 52=>33562675
 | 53=>33566771
 | 54=>33570867
 | 55=>33574963
 | 56=>33579059
 | 57=>33583155
 | 58=>33554491
 | 59=>33570875
 | 60=>33574971
 | 61=>33579067
 | 62=>33583163
 | 63=>15
 | 64=>4111
 | 65=>115
 | 66=>1048691
 | 67=>4211
 | 68=>8307
 | 69=>12403
 | 70=>20595
 | 71=>24691
 | 72=>28787
 | 73=>268443695
 | 74=>402661423
 | 75=>134225967
 | 76=>8239
 | 77=>536879151
 | 78=>1610620975
 | 79=>1073750063
 | 80=>2147491887
 | 81=>2684362799
 | 82=>3221233711
 | 83=>3758104623
 | 84=>268447791
 | 85=>402665519
 | 86=>134230063
 | 87=>12335
 | 88=>536883247
 | 89=>1610625071
 | 90=>1073754159
 | 91=>2147495983
 | 92=>2684366895
 | 93=>3221237807
 | 94=>3758108719
 | _=>0
def baseE (i:Nat) : List AV×AV:=([.int .u8 (Int.ofNat (i+1))],.tup [.int .u32 (Int.ofNat (baseB (i+1))),.int .i64 0])
def fixedE (f:Nat) : List AV×AV:=([.int .u8 (Int.ofNat f)],.tup [.int .u32 (Int.ofNat (maskF f)),.int .i64 0])
theorem baseT:TabG Tryz.prog vars 3 105 ((List.range 94).map baseE):=tabG_of mixed (fun φ=>noOrc_OK Tryz.prog 3 φ) (by kernel_rfl)
theorem fixedT:TabG Tryz.prog vars 3 106 (formsAll.map fixedE):=tabG_of mixed (fun φ=>noOrc_OK Tryz.prog 3 φ) (by kernel_rfl)
theorem base_c (op:Nat) (h1:1≤op) (h2:op≤94) (w:World) (hL:LG w) : Calls Tryz.prog 105 #[.int .u8 op] w fun e w'=>e=.returned (.tuple #[.int .u32 (baseB op),.int .i64 0])∧Below w.heap.size w w':=by
 have k:=(baseT (baseE (op - 1)) (List.mem_map.2 ⟨op - 1,List.mem_range.2 (by omega),rfl⟩)).2 (fun _=>0) (fun _ _=>0) w hL
 have e1:(AV.toVals (fun _=>0) (fun _ _=>0) (baseE (op - 1)).1).toArray=#[.int .u8 op]:=by
  show #[Value.int .u8 (Int.ofNat (op - 1+1))]=_
  rw [Nat.sub_add_cancel h1]; rfl
 have e2:(baseE (op - 1)).2.toVal (fun _=>0) (fun _ _=>0)=.tuple #[.int .u32 (baseB op),.int .i64 0]:=by
  show Value.tuple #[.int .u32 (Int.ofNat (baseB (op - 1+1))),.int .i64 0]=_
  rw [Nat.sub_add_cancel h1]; rfl
 rw [e1,e2] at k
 exact k
theorem fixed_c (f:Nat) (hf:f∈formsAll) (w:World) (hL:LG w) : Calls Tryz.prog 106 #[.int .u8 f] w fun e w'=>e=.returned (.tuple #[.int .u32 (maskF f),.int .i64 0])∧Below w.heap.size w w' :=
 (fixedT (fixedE f) (List.mem_map.2 ⟨f,hf,rfl⟩)).2 (fun _=>0) (fun _ _=>0) w hL
theorem formB_mem (op:Nat) (h1:1≤op) (h2:op≤94) : formB op∈formsAll:=by
 have h:((List.range 94).all fun i=>formsAll.contains (formB (i+1)))=true:=by decide
 have:=List.all_eq_true.1 h (op - 1) (List.mem_range.2 (by omega))
 rw [Nat.sub_add_cancel h1] at this
 simpa using this
theorem laidG_below {w w':World} (h:LG w) (hb:Below 3 w w') : LG w':=by
 obtain ⟨ts,ρ,hg,hi⟩:=h
 refine ⟨ts,ρ,hg,fun D E=>?_⟩
 have hI:=hi D E
 have cb:∀ b r,ρ b=some r→r.cb < 3:=fun b r hr=>by
  by_cases hb':b < 3
  ·obtain ⟨r',h1,h2,_⟩:=hg b hb'
   rw [hr] at h1
   injection h1 with h1
   subst h1
   omega
  ·have:=@Go.Proofs.YtoehlmiadiiimaaGreatDoor.Ex.Inv.fresh D E _ _ _ _ hI b (by show 3≤b; omega)
   rw [hr] at this
   cases this
 refine @Go.Proofs.YtoehlmiadiiimaaGreatDoor.Ex.Inv.mk D E _ _ _ _ (fun b o r h1 h2=>?_) (@Go.Proofs.YtoehlmiadiiimaaGreatDoor.Ex.Inv.inj D E _ _ _ _ hI) (@Go.Proofs.YtoehlmiadiiimaaGreatDoor.Ex.Inv.fresh D E _ _ _ _ hI) (fun b r h2=>Nat.lt_of_lt_of_le (@Go.Proofs.YtoehlmiadiiimaaGreatDoor.Ex.Inv.lt D E _ _ _ _ hI b r h2) hb.size)
 obtain ⟨C,hC,hO⟩:=@Go.Proofs.YtoehlmiadiiimaaGreatDoor.Ex.Inv.obj D E _ _ _ _ hI b o r h1 h2
 exact ⟨C,(hb.block r.cb (cb b r h2)).trans hC,hO⟩
def matchO (op w:Nat) : Bool:=bits .and .u32 (w:Int) (maskF (formB op) : Int) == (baseB op:Int)
def decFrom (w:Nat) : Nat→Nat→Ins×Int
 | 0,_=>(⟨0,0,0,0,0⟩,40)
 | f+1,k=>match matchO (k+1) w with
  | true=>(fieldsI (k+1) (formB (k+1)) w,0)
  | false=>decFrom w f (k+1)
def decR (w:Nat) : Ins×Int:=decFrom w 94 0
theorem many_any (w:World) : Calls Tryz.prog 104 #[] w fun e w'=>e=.returned (.int .i64 94)∧w=w':=by
 go_enter Tryz.func104,Tryz.ntmps104
 go_wp2
 go_ret
 exact ⟨rfl,rfl⟩
set_option maxRecDepth 100000 in
set_option maxHeartbeats 2000000 in
theorem dec_c (w:Nat) (hw:w < 4294967296) (W:World) (hL:LG W) (h13:3≤W.heap.size) : Calls Tryz.prog 66 #[.int .u32 w] W fun e W'=>e=.returned (.tuple #[(decR w).1.v,.int .i64 (decR w).2])∧Below W.heap.size W W':=by
 have HL:=Lib.hid hL
 have S:∀ {X:World} (b j:Nat) (u:Value),Below W.heap.size W X→W.heap.size≤b→Below W.heap.size W (X.setCell ⟨b,j,none⟩ u):=fun b j u h hb=>h.setCell (p:=⟨b,j,none⟩) hb u
 clear hL
 go_enter Tryz.func66,Tryz.ntmps66
 go_wp2
 go_step3
 go_wp2
 go_step3
 go_wp2_with (go_at_call 104; refine (many_any _).mono ?_; rintro e w' ⟨rfl,rfl⟩)
 go_loopw [14] (fun i wr=>∃ k:Nat,k≤94∧i=.int .i64 k∧Below W.heap.size W wr∧Blk wr W.heap.size 57 #[.int .u8 0,.int .i64 0,.int .i64 0,.int .i64 0,.int .i64 0]∧Blk wr (W.heap.size+1) 57 #[.int .u8 0,.int .i64 0,.int .i64 0,.int .i64 0,.int .i64 0]∧Hid (decR w=decFrom w (94 - k) k)) (fun i _=>94 - (intOf i).toNat)
 case atStart =>
  refine ⟨0,Nat.zero_le _,rfl,((Below.refl _ _).alloc (Nat.le_refl _) _).alloc (by simp) _,(Blk.new W 57 _).alloc _,?_,Lib.hid rfl⟩
  have:=Blk.new (W.alloc (.cells #[.int .u8 0,.int .i64 0,.int .i64 0,.int .i64 0,.int .i64 0] 57)) 57 #[.int .u8 0,.int .i64 0,.int .i64 0,.int .i64 0,.int .i64 0]
  simpa using this
 case round =>
  obtain ⟨k,hk,rfl,hbw,B2,B4,HD⟩:=hrel
  by_cases hlt:k < 94
  ·have hform:∀ W',Below 3 wr W'→Calls Tryz.prog 31 #[.int .u8 ((k:Int)+1)] W' fun e w'=>e=.returned (.tuple #[.int .u8 (formB (k+1)),.int .i64 0])∧Below W'.heap.size W' w':=fun W' h=>form_c (k+1) (by omega) (by omega) W' (laidG_below (laidG_below HL.out (hbw.mono h13)) h)
   have hbase:∀ W',Below 3 wr W'→Calls Tryz.prog 105 #[.int .u8 ((k:Int)+1)] W' fun e w'=>e=.returned (.tuple #[.int .u32 (baseB (k+1)),.int .i64 0])∧Below W'.heap.size W' w':=fun W' h=>base_c (k+1) (by omega) (by omega) W' (laidG_below (laidG_below HL.out (hbw.mono h13)) h)
   have hmem:=formB_mem (k+1) (by omega) (by omega)
   have hfix:∀ W',Below 3 wr W'→Calls Tryz.prog 106 #[.int .u8 (formB (k+1))] W' fun e w'=>e=.returned (.tuple #[.int .u32 (maskF (formB (k+1))),.int .i64 0])∧Below W'.heap.size W' w':=fun W' h=>fixed_c _ hmem W' (laidG_below (laidG_below HL.out (hbw.mono h13)) h)
   have hfie:∀ W',Calls Tryz.prog 107 #[.int .u8 ((k:Int)+1),.int .u8 (formB (k+1)),.int .u32 w] W' fun e w'=>e=.returned (fieldsI (k+1) (formB (k+1)) w).v∧Below W'.heap.size W' w':=fun W'=>fields_c (k+1) _ w hmem hw W'
   have HF:=Lib.hid hform
   have HB:=Lib.hid hbase
   have HX:=Lib.hid hfix
   have HI:=Lib.hid hfie
   have hsz:=hbw.size
   have hop:(((k:Int)+1) == 0)=false:=by simp; omega
   clear hform hbase hfix hfie hmem
   have h13':3≤wr.heap.size:=by omega
   cases hm:matchO (k+1) w with
   | true =>
    have HD2:Hid (decR w=(fieldsI (k+1) (formB (k+1)) w,0)):=Lib.hid (by rw [HD.out,show 94 - k=(94 - (k+1))+1 by omega,decFrom,hm])
    unfold matchO at hm
    generalize maskF (formB (k+1))=mk at hm HX
    generalize baseB (k+1)=bb at hm HB
    generalize formB (k+1)=ff at *
    go_wp2_with fail
    refine (HF.out _ (Below.refl _ _)).mono ?_
    rintro e w1 ⟨rfl,hb1⟩
    go_wp2_with fail
    refine (HB.out _ (hb1.mono h13')).mono ?_
    rintro e w2 ⟨rfl,hb2⟩
    have hb12:=hb1.trans (hb2.mono hb1.size)
    go_wp2_with fail
    refine (HX.out _ (hb12.mono h13')).mono ?_
    rintro e w3 ⟨rfl,hb3⟩
    have hb13:=hb12.trans (hb3.mono hb12.size)
    go_wp2_with fail
    refine (HI.out _).mono ?_
    rintro e w4 ⟨rfl,hb4⟩
    have hb14:=hb13.trans (hb4.mono hb13.size)
    have D2:=B2.below hb14 B2.lt
    have D4:=B4.below hb14 B4.lt
    have c2:∀ i,w4.cell? ⟨W.heap.size,i,none⟩=(#[.int .u8 0,.int .i64 0,.int .i64 0,.int .i64 0,.int .i64 0] : Array Value)[i]?:=D2.cell
    have c4:∀ i,w4.cell? ⟨W.heap.size+1,i,none⟩=(#[.int .u8 0,.int .i64 0,.int .i64 0,.int .i64 0,.int .i64 0] : Array Value)[i]?:=D4.cell
    have f2:∀ i,w4.frozen? ⟨W.heap.size,i,none⟩=false:=D2.frozen
    have f4:∀ i,w4.frozen? ⟨W.heap.size+1,i,none⟩=false:=D4.frozen
    have hfo:(fieldsI (k+1) ff w).op=k+1:=rfl
    generalize fieldsI (k+1) ff w=fi at hfo HD2 ⊢
    have hop':((fi.op:Int) == 0)=false:=by rw [hfo]; simp; omega
    have HB4:=Lib.hid (hbw.trans (hb14.mono hsz))
    clear hb1 hb2 hb3 hb4 hb12 hb13 hb14 B2 B4 D2 D4 hbw hfo
    go_wp2
    try rw [Exit.noGoto_ret]
    refine bodyPost_ret (v:=.tuple #[fi.v,.int .i64 0]) (by simp [results,Tryz.results66,go_sem,c2]) rfl ?_
    refine ⟨by rw [HD2.out],?_⟩
    exact S _ _ _ (S _ _ _ (S _ _ _ (S _ _ _ (S _ _ _ (S _ _ _ (S _ _ _ (S _ _ _ (S _ _ _ (S _ _ _ (HB4.out) (Nat.le_succ _)) (Nat.le_succ _)) (Nat.le_succ _)) (Nat.le_succ _)) (Nat.le_succ _)) (Nat.le_refl _)) (Nat.le_refl _)) (Nat.le_refl _)) (Nat.le_refl _)) (Nat.le_refl _)
   | false =>
    have HD2:Hid (decR w=decFrom w (94 - (k+1)) (k+1)):=Lib.hid (by rw [HD.out,show 94 - k=(94 - (k+1))+1 by omega,decFrom,hm])
    unfold matchO at hm
    generalize maskF (formB (k+1))=mk at hm HX
    generalize baseB (k+1)=bb at hm HB
    generalize formB (k+1)=ff at *
    go_wp2_with fail
    refine (HF.out _ (Below.refl _ _)).mono ?_
    rintro e w1 ⟨rfl,hb1⟩
    go_wp2_with fail
    refine (HB.out _ (hb1.mono h13')).mono ?_
    rintro e w2 ⟨rfl,hb2⟩
    have hb12:=hb1.trans (hb2.mono hb1.size)
    go_wp2_with fail
    refine (HX.out _ (hb12.mono h13')).mono ?_
    rintro e w3 ⟨rfl,hb3⟩
    have hb13:=hb12.trans (hb3.mono hb12.size)
    clear hb1 hb2 hb3 hb12
    go_wp2
    go_roundw
    case rel=>exact ⟨k+1,by omega,by go_num,hbw.trans (hb13.mono hsz),B2.below hb13 B2.lt,B4.below hb13 B4.lt,HD2⟩
    case measure=>simp [intOf]; omega
  ·obtain rfl:k=94:=by omega
   have hd0:decR w=(⟨0,0,0,0,0⟩,40):=HD.out.trans (by rw [Nat.sub_self,decFrom])
   have HDD:=Lib.hid hd0
   clear hd0
   have c2:∀ i,wr.cell? ⟨W.heap.size,i,none⟩=(#[.int .u8 0,.int .i64 0,.int .i64 0,.int .i64 0,.int .i64 0] : Array Value)[i]?:=B2.cell
   have c4:∀ i,wr.cell? ⟨W.heap.size+1,i,none⟩=(#[.int .u8 0,.int .i64 0,.int .i64 0,.int .i64 0,.int .i64 0] : Array Value)[i]?:=B4.cell
   have f2:∀ i,wr.frozen? ⟨W.heap.size,i,none⟩=false:=B2.frozen
   have HB4:=Lib.hid hbw
   clear B2 B4 hbw
   go_wp2
   try rw [Exit.noGoto_ret]
   refine bodyPost_ret (v:=.tuple #[.agg #[.int .u8 0,.int .i64 0,.int .i64 0,.int .i64 0,.int .i64 0],.int .i64 40]) (by simp [results,Tryz.results66,go_sem,c2]) rfl ?_
   refine ⟨by rw [HDD.out]; rfl,?_⟩
   exact S _ _ _ (S _ _ _ (S _ _ _ (S _ _ _ (S _ _ _ (HB4.out) (Nat.le_refl _)) (Nat.le_refl _)) (Nat.le_refl _)) (Nat.le_refl _)) (Nat.le_refl _)
end Go.Proofs.YtoehlmiadiiimaaGreatDoor
