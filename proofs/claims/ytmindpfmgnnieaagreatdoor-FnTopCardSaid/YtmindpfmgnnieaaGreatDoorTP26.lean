/- Lemmas on the way to the law FnTop. No condition. -/
import Derived.Test.YtmindpfmgnnieaaGreatDoorTP22
import Derived.Test.YtmindpfmgnnieaaGreatDoorTP21
namespace Go.Proofs.YtmindpfmgnnieaaGreatDoor
set_option maxHeartbeats 4000000
set_option linter.unusedSimpArgs false
open Lib (hid)
open Go.ChangeShapes Go.WideShapes Go.ChangeAt Go.RowKit
set_option linter.unusedVariables false
set_option maxRecDepth 100000
def chL:List Int:=[32,38,65,66,67,68,69,70,71,72,73,45,74,75,76,77,78,79,80,81,82,47,83,84,85,86,87,88,89,90,48,49,50,51,52,53,54,55,56,57]
def chA (k:Nat):Int:=chL.getD k 0
def rkN (m:Int):Option Nat:=chL.findIdx? (fun c=>codeI c == m)
def rkI (m:Int):Int:=match rkN m with
 | some k=>k
 | none=>-1
def chrI (m:Int):Int:=chA (rkI m).toNat
def noCh (m:Int):Bool:=decide (rkI m<0)
theorem chA_some {k:Nat} (h:k<40):chL[k]?=some (chA k):=by
 have hl:chL.length=40:=rfl;unfold chA;rw [List.getD_eq_getElem?_getD,zF (by omega)];rfl
theorem rk_found {m:Int} {k:Nat} (hk:k<40) (h:codeI (chA k)=m) (hno:∀ j,j<k->codeI (chA j) ≠ m):rkI m=k:=by
 have hl:chL.length=40:=rfl;have h1:rkN m=some k:=by
  unfold rkN;rw [List.findIdx?_eq_some_iff_getElem];refine ⟨by omega,?_,fun j hj=>?_⟩
  . have e:=chA_some hk
    rw [zF (by omega)] at e;rw [zD e,h];simp
  . have e:=chA_some (k:=j) (by omega)
    rw [zF (by omega)] at e;rw [zD e];simpa using hno j hj
 unfold rkI;rw [h1]
theorem rk_none {m:Int} (hno:∀ j,j<40->codeI (chA j) ≠ m):rkI m=-1:=by
 have hl:chL.length=40:=rfl;have h1:rkN m=none:=by
  unfold rkN;rw [List.findIdx?_eq_none_iff];intro x hx;obtain ⟨j,hj,rfl⟩:=List.mem_iff_getElem.1 hx;have e:=chA_some (k:=j) (by omega);rw [zF hj] at e;rw [zD e];simpa using hno j (by omega)
 unfold rkI;rw [h1]
theorem rk_lt (m:Int):-1<=rkI m/\rkI m<40:=by
 have hl:chL.length=40:=rfl;unfold rkI;cases h:rkN m with
 | none=>simp
 | some k =>
  have h1:=(List.findIdx?_eq_some_iff_getElem.1 h).1;simp only;omega
theorem rk_neg {m:Int} (h:¬ rkI m<0):∃ k:Nat,k<40/\rkI m=k/\chrI m=chA k:=by
 obtain ⟨k,hk⟩:=zG (by omega:0<=rkI m);have:=rk_lt m;exact ⟨k,by omega,hk,by unfold chrI;rw [hk];rfl⟩
theorem chA_vals:∀ k:Fin 40,chA k.val=32\/chA k.val=38\/chA k.val=65\/chA k.val=66\/chA k.val=67\/chA k.val=68\/chA k.val=69\/chA k.val=70\/chA k.val=71\/chA k.val=72\/chA k.val=73\/chA k.val=45\/chA k.val=74\/chA k.val=75\/chA k.val=76\/chA k.val=77\/chA k.val=78\/chA k.val=79\/chA k.val=80\/chA k.val=81\/chA k.val=82\/chA k.val=47\/chA k.val=83\/chA k.val=84\/chA k.val=85\/chA k.val=86\/chA k.val=87\/chA k.val=88\/chA k.val=89\/chA k.val=90\/chA k.val=48\/chA k.val=49\/chA k.val=50\/chA k.val=51\/chA k.val=52\/chA k.val=53\/chA k.val=54\/chA k.val=55\/chA k.val=56\/chA k.val=57:=by decide +kernel
theorem chA_bd:∀ k:Fin 40,0<=chA k.val/\chA k.val<=255/\0<=codeI (chA k.val):=by decide +kernel
theorem charsB_at:∀ k:Fin 40,((charsB.data[k.val]'(by have:=k.isLt;show k.val<40;omega)).toNat:Int)=chA k.val:=by decide +kernel
theorem chars_run {q:Nat} (hq:q<40) (w:World):(Instr.index 9 (.string ({ data:=#[32,38,65,66,67,68,69,70,71,72,73,45,74,75,76,77,78,79,80,81,82,47,83,84,85,86,87,88,89,90,48,49,50,51,52,53,54,55,56,57] }:ByteArray)) (.int .i64 (q:Int))).run Tryz.prog w=.ok (.int .u8 (chA q)) w:=by
 have hs:charsB.size=40:=by decide +kernel
 rw [run_index_string w 9 charsB .i64 (q:Int) Tryz.underlying9,dif_pos ⟨by omega,by rw [hs];omega⟩];have h:=charsB_at ⟨q,hq⟩;have e:((charsB[(q:Int).toNat]'(by rw [hs];omega)).toNat:Int)=chA q:=by rw [<- h];rfl
 rw [e]
theorem bitOf_c (n:Int) (w:World) (h:n=12\/n=11\/0<=n/\n<=9):Calls Tryz.prog 155 #[.int .i64 n] w fun e w'=>e=.returned (.int .i64 (if n=12 then 1 else if n=11 then 2 else 4 * 2 ^ n.toNat))/\w=w':=by
 have hh:n=12\/n=11\/n=0\/n=1\/n=2\/n=3\/n=4\/n=5\/n=6\/n=7\/n=8\/n=9:=by omega
 clear h;rcases hh with rfl | rfl | rfl | rfl | rfl | rfl | rfl | rfl | rfl | rfl | rfl | rfl;all_goals
  go_enter Tryz.func155,Tryz.ntmps155;go_wp2_with (go_at_call 82;refine (yBD _ _ _ _ (by omega) (by omega)).mono ?_;rintro e w' ⟨rfl,rfl⟩);go_ret;exact ⟨yAJ (by decide),rfl⟩
theorem CodeOf_c (c:Int) (w:World) (h:c=32\/c=38\/c=65\/c=66\/c=67\/c=68\/c=69\/c=70\/c=71\/c=72\/c=73\/c=45\/c=74\/c=75\/c=76\/c=77\/c=78\/c=79\/c=80\/c=81\/c=82\/c=47\/c=83\/c=84\/c=85\/c=86\/c=87\/c=88\/c=89\/c=90\/c=48\/c=49\/c=50\/c=51\/c=52\/c=53\/c=54\/c=55\/c=56\/c=57):Calls Tryz.prog 204 #[.int .u8 c] w fun e w'=>e=.returned (.tuple #[.int .i64 (codeI c),.bool true])/\w=w':=by
 rcases h with rfl | rfl | rfl | rfl | rfl | rfl | rfl | rfl | rfl | rfl | rfl | rfl | rfl | rfl | rfl | rfl | rfl | rfl | rfl | rfl | rfl | rfl | rfl | rfl | rfl | rfl | rfl | rfl | rfl | rfl | rfl | rfl | rfl | rfl | rfl | rfl | rfl | rfl | rfl | rfl;all_goals
  go_enter Tryz.func204,Tryz.ntmps204;go_wp2_with (first | (go_at_call 213;first | (refine (isDigit_yes _ _ (by omega)).mono ?_;rintro e w' ⟨rfl,rfl⟩) | (refine (isDigit_no _ _ (by omega)).mono ?_;rintro e w' ⟨rfl,rfl⟩)) | (go_at_call 155;refine (bitOf_c _ _ (by omega)).mono ?_;rintro e w' ⟨rfl,rfl⟩));go_ret2;exact ⟨rfl,rfl⟩
theorem codeOf_c (k:Nat) (w:World) (h:k<40):Calls Tryz.prog 188 #[.int .u8 (chA k)] w fun e w'=>e=.returned (.int .i64 (codeI (chA k)))/\w=w':=by
 have hv:=chA_vals ⟨k,h⟩;have Hv:=hid hv;clear hv;go_enter Tryz.func188,Tryz.ntmps188;go_wp2_with fail;with_reducible refine (CodeOf_c (chA k) _ Hv.out).mono ?_
 rintro e w' ⟨rfl,rfl⟩;go_wp2;go_ret;exact ⟨rfl,rfl⟩
theorem rankOf_c (m:Int) (w:World):Calls Tryz.prog 169 #[.int .i64 m] w fun e w'=>e=.returned (.int .i64 (rkI m))/\w=w':=by
 go_enter Tryz.func169,Tryz.ntmps169;go_wp2;go_loop [3] (fun i=>∃ k:Nat,k<=40/\i=.int .i64 k/\Hid (∀ j,j<k->codeI (chA j) ≠ m)) (fun i=>40 - (intOf i).toNat)
 case atStart=>exact ⟨0,by decide,rfl,fun j hj=>absurd hj (Nat.not_lt_zero _)⟩
 case round =>
  obtain ⟨k,hk,rfl,hp⟩:=hrel;by_cases hkn:k<40
  . have hki:(k:Int)<40:=by omega
    have hix:=fun w=>chars_run hkn w;have hcd:=fun w=>codeOf_c k w hkn;have Hcd:=hid hcd;clear hcd;obtain ⟨z,hz⟩:∃ z,z=codeI (chA k):=⟨_,rfl⟩;rw [<- hz] at Hcd;have Hz:=hid hz;clear hz;cases hq:(z == m) with
    | true =>
     have Hq:=hid (beq_iff_eq.1 hq);go_wp2_with fail;with_reducible refine (Hcd.out _).mono ?_
     rintro e w' ⟨rfl,rfl⟩;clear hix;go_wp2;go_ret;exact ⟨yAJ (rk_found hkn (by rw [<- Hz.out];exact Hq.out) hp.out).symm,rfl⟩
    | false =>
     have Hq:Hid (z ≠ m):=hid (by simpa using hq);go_wp2_with fail;with_reducible refine (Hcd.out _).mono ?_
     rintro e w' ⟨rfl,rfl⟩;clear hix;go_wp2;go_round
     case rel=>exact ⟨k+1,by omega,by go_num,fun j hj=>by rcases Nat.lt_succ_iff_lt_or_eq.1 hj with hj | rfl;exact hp.out j hj;rw [<- Hz.out];exact Hq.out⟩
     case measure=>simp [intOf];omega
  . obtain rfl:k=40:=by omega
    go_wp2;go_ret;exact ⟨yAJ (rk_none hp.out).symm,rfl⟩
def okTx (h:List Int):Bool:=!h.any noCh
def txI (h:List Int):List Int:=h.map chrI
def toB (l:List Int):ByteArray:=⟨(l.map fun c=>c.toNat.toUInt8).toArray⟩
theorem bytesI_toB {l:List Int} (h:∀ c∈l,0<=c/\c<=255):bytesI (toB l)=l:=by
 unfold bytesI toB;simp only [List.map_map];conv=>rhs;rw [<- List.map_id l]
 refine List.map_congr_left fun c hc=>?_;have:=h c hc;simp only [Function.comp,id];have h1:c.toNat<256:=by omega
 have h2:(c.toNat.toUInt8).toNat=c.toNat:=by simp;omega
 rw [h2];omega
theorem toB_bytesI (s:ByteArray):toB (bytesI s)=s:=by
 unfold toB bytesI;rw [List.map_map];cases s with
 | mk d =>
  congr 1;apply Array.toList_inj.1;simp only;conv=>rhs;rw [<- List.map_id d.toList]
  refine List.map_congr_left fun c hc=>?_;simp
theorem toB_size (l:List Int):(toB l).size=l.length:=by unfold toB ByteArray.size;simp
theorem txI_bd {h:List Int} (ho:okTx h=true):∀ c∈txI h,0<=c/\c<=255:=by
 intro c hc;obtain ⟨m,hm,rfl⟩:=List.mem_map.1 hc;unfold okTx at ho;have h1:h.any noCh=false:=by simpa using ho
 have h2:=List.any_eq_false.1 h1 m hm;unfold noCh at h2;obtain ⟨k,hk,_,he⟩:=rk_neg (m:=m) (by simpa using h2);have:=chA_bd ⟨k,hk⟩;rw [he];exact ⟨this.1,this.2.1⟩
def digN (m:Int):Option Nat:=(List.range 10).find? (fun d=>decide ((4 * 2 ^ d:Int)=m))
def digI (m:Int):Int:=match digN m with
 | some d=>d
 | none=>-1
theorem dig_found {m:Int} {d:Nat} (hd:d<10) (h:(4 * 2 ^ d:Int)=m):digI m=d:=by
 have hh:d=0\/d=1\/d=2\/d=3\/d=4\/d=5\/d=6\/d=7\/d=8\/d=9:=by omega
 subst h;rcases hh with rfl | rfl | rfl | rfl | rfl | rfl | rfl | rfl | rfl | rfl <;> decide +kernel
theorem dig_none {m:Int} (h:∀ d:Nat,d<10->(4 * 2 ^ d:Int) ≠ m):digI m=-1:=by
 have:digN m=none:=by
  unfold digN;rw [List.find?_eq_none];intro d hd;have:=h d (List.mem_range.1 hd);simpa using this
 unfold digI;rw [this]
theorem dig_bd (m:Int):-1<=digI m/\digI m<=9:=by
 unfold digI;cases h:digN m with
 | none=>simp
 | some d =>
  have:=List.mem_of_find?_eq_some h;have:=List.mem_range.1 this;simp only;omega
theorem dig_zero:digI 0=-1:=by decide +kernel
def sgnB (m:Int):Bool:=bits BinOp.and IntKind.i64 m 2 != 0
theorem sgn_fin:∀ m:Fin 4096,(sgnB (m.val:Int)=true->bits BinOp.and IntKind.i64 (m.val:Int) 2=2/\bits BinOp.andNot IntKind.i64 (m.val:Int) 2=(m.val:Int) - 2/\2<=m.val)/\(sgnB (m.val:Int)=false->bits BinOp.and IntKind.i64 (m.val:Int) 2=0/\bits BinOp.andNot IntKind.i64 (m.val:Int) 2=(m.val:Int)):=by decide +kernel
def strip (m:Int):Int:=if sgnB m=true then m - 2 else m
theorem sgn_of {m:Int} (h:0<=m/\m<=4095):bits BinOp.andNot IntKind.i64 m 2=strip m/\0<=strip m/\strip m<=4095:=by
 obtain ⟨n,rfl⟩:=zG h.1;have hf:=sgn_fin ⟨n,by omega⟩;unfold strip;cases hs:sgnB (n:Int) with
 | true=>have:=hf.1 hs;rw [if_pos rfl];exact ⟨this.2.1,by have:=this.2.2;simp only at this;omega⟩
 | false=>have:=hf.2 hs;rw [if_neg (by decide)];exact ⟨this.2,by omega⟩
def numS:Option (Int × Bool)->Int->Option (Int × Bool)
 | none,_=>none
 | some (n,b),m=>if m=0/\b=false then some (n,b) else if digI m<0 then none else some (10 * n+digI m,true)
def numG (h:List Int):Option (Int × Bool):=h.foldl numS (some (0,false))
theorem numG_snoc {h:List Int} {k:Nat} {m:Int} (hm:h[k]?=some m):numG (h.take (k+1))=numS (numG (h.take k)) m:=by
 unfold numG;rw [yAD hm,List.foldl_append];rfl
def numR (h:List Int):Int × Bool :=
 match h.getLast? with
 | none=>(0,true)
 | some l=>match numG h.dropLast with
  | none=>(0,false)
  | some (n,b) =>
   if sgnB l=true then (if digI (l - 2)<0 then (0,false) else (-(10 * n+digI (l - 2)),decide (10 * n+digI (l - 2) ≠ 0)))
   else if l=0/\b=false then (n,true) else if digI l<0 then (0,false) else (10 * n+digI l,true)
theorem numG_false:∀ {h:List Int} {n:Int},numG h=some (n,false)->n=0/\∀ m∈h,m=0:=by
 intro h;have key:∀ (l:List Int) (s:Option (Int × Bool)) (n:Int),l.foldl numS s=some (n,false)->(s=some (n,false)/\∀ m∈l,m=0):=by
  intro l;induction l with
  | nil=>intro s n e;exact ⟨e,fun m hm=>by cases hm⟩
  | cons x l ih =>
   intro s n e;obtain ⟨h1,h2⟩:=ih (numS s x) n e;cases s with
   | none=>cases h1
   | some p =>
    obtain ⟨a,b⟩:=p;change (if x=0/\b=false then some (a,b) else if digI x<0 then none else some (10 * a+digI x,true))=_ at h1;by_cases hx:x=0/\b=false
    . rw [if_pos hx] at h1
      exact ⟨h1,fun m hm=>by rcases List.mem_cons.1 hm with rfl | hm;exact hx.1;exact h2 m hm⟩
    . rw [if_neg hx] at h1
      split at h1
      . cases h1
      . injection h1 with h1;injection h1 with _ h3;cases h3
 intro n e;obtain ⟨h1,h2⟩:=key h _ n e;injection h1 with h1;injection h1 with h3 _;exact ⟨h3.symm,h2⟩
theorem numG_zero:∀ {h:List Int},(∀ m∈h,m=0)->numG h=some (0,false):=by
 intro h;have key:∀ (l:List Int),(∀ m∈l,m=0)->l.foldl numS (some (0,false))=some (0,false):=by
  intro l;induction l with
  | nil=>intro _;rfl
  | cons x l ih =>
   intro hz;have hx:=hz x (List.mem_cons_self ..);subst hx;exact ih fun m hm=>hz m (List.mem_cons_of_mem _ hm)
 exact key h
end Go.Proofs.YtmindpfmgnnieaaGreatDoor
