/- Lemmas on the way to the law FnTop. No condition. -/
import Derived.Test.YtmindpfmgnnieaaGreatDoorTP26
import Derived.Test.YtmindpfmgnnieaaGreatDoorTP16
import Derived.Test.YtmindpfmgnnieaaGreatDoorTP13
import Derived.Test.YtmindpfmgnnieaaGreatDoorTP4
namespace Go.Proofs.YtmindpfmgnnieaaGreatDoor
set_option maxHeartbeats 2000000
set_option linter.unusedSimpArgs false
open Lib (hid)
open Go.ChangeShapes Go.WideShapes Go.ChangeAt Go.RowKit
set_option linter.unusedVariables false
set_option maxRecDepth 100000
def partC (c:List Int) (a b:Int):List Int:=(c.take b.toNat).drop a.toNat
theorem partC_mem {c:List Int} {a b:Int} {m:Int} (h:m∈partC c a b):m∈c:=List.mem_of_mem_take (List.mem_of_mem_drop h)
theorem card_masks {c:List Int} (h:cardB c=true):∀ m∈c,0<=m/\m<=4095:=by
 intro m hm;unfold cardB at h;rw [Bool.and_eq_true] at h;have h1:c.any badHole=false:=by simpa using h.2
 have h2:=List.any_eq_false.1 h1 m hm;unfold badHole at h2;simpa using h2
theorem card_len {c:List Int} (h:cardB c=true):1<=c.length/\c.length<=20:=by
 unfold cardB at h;rw [Bool.and_eq_true,decide_eq_true_eq] at h;exact h.1
theorem Rds.part {w:World} {B b off n cap:Nat} {c:List Int} {x y:Int} (h:RdI B w (.slice (some ⟨b,off,none⟩) n cap) c) (hx:0<=x) (hxy:x<y) (hy:y<=n) :
 RdI B w (.slice (some ⟨b,off+x.toNat,none⟩) (y.toNat - x.toNat) (cap - x.toNat)) (partC c x y):=by
 have hc:=Rds.cap h;have hcap:=hc.2.2 (by omega);have h1:=Rds.sub (lo:=x.toNat) (hi:=y.toNat) (cap':=cap - x.toNat) h (by omega) (by omega) ⟨by omega,by omega⟩;rw [show x.toNat * eI.sz=x.toNat from Nat.mul_one _] at h1;exact h1
theorem clo_noCh (x:Int) (w:World) (_h:okInt64 x):Calls Tryz.prog 168 #[.int .i64 x] w fun e w'=>e=.returned (.bool (noCh x))/\w=w':=by
 go_enter Tryz.func168,Tryz.ntmps168;go_wp2_with fail;refine (rankOf_c x _).mono ?_;rintro e w' ⟨rfl,rfl⟩;go_wp2;go_ret;exact ⟨yAC (by unfold noCh;simp),rfl⟩
theorem indexFunc_noCh {xs:List Int} {v:Value} {w:World} {A:Nat} (ha:RdI A w v xs) :
 Calls Tryz.prog 143 #[v,.func (.func 168) #[] #[]] w fun e w'=>(∃ r:Int,e=.returned (.int .i64 r)/\-1<=r/\(0<=r ↔ xs.any noCh=true))/\w=w':=by
 have hle:=ha.le;obtain ⟨ao,cap,rfl,ho⟩:=ha.open;obtain ⟨l,hl⟩:∃ l,l=xs.length:=⟨_,rfl⟩;rw [<- hl];have Hl:=hid hl;have Ho:=hid ho;have hl':l<=9223372036854775807:=by omega
 clear ho hl hle ha;go_enter Tryz.func143,Tryz.ntmps143;go_wp2;go_loop [8] (fun i=>∃ k:Nat,k<=l/\i=.int .i64 k/\Hid ((xs.take k).any noCh=false)) (fun i=>l - (intOf i).toNat)
 case atStart=>exact ⟨0,zK _,rfl,rfl⟩
 case round =>
  obtain ⟨k,hk,rfl,hp⟩:=hrel;by_cases hkn:k<l
  . obtain ⟨b,off,rfl,hlt,hc⟩:=Ho.out (by have:=Hl.out;omega)
    obtain ⟨x,hx,hcx,bx⟩:=hc k (by have:=Hl.out;omega);have Hx:=hid hx;have Hb:=hid bx;clear hx hc bx;cases hq:noCh x with
    | true =>
     have Hq:=hid hq;clear hq;go_wp2_with (go_at_call 168;refine (clo_noCh x _ Hb.out).mono ?_;rw [Hq.out];rintro e w' ⟨rfl,rfl⟩);go_ret;refine ⟨⟨_,rfl,by omega,?_⟩,rfl⟩;have:xs.any noCh=true:=List.any_eq_true.2 ⟨x,zC Hx.out,Hq.out⟩;simp [this]
    | false =>
     have Hq:=hid hq;clear hq;go_wp2_with (go_at_call 168;refine (clo_noCh x _ Hb.out).mono ?_;rw [Hq.out];rintro e w' ⟨rfl,rfl⟩);go_round
     case rel=>exact ⟨k+1,by omega,by go_num,by show _=false;rw [yAD Hx.out,List.any_append,hp.out];simp [Hq.out]⟩
     case measure=>simp [intOf];omega
  . go_wp2
    go_ret;refine ⟨⟨_,rfl,by omega,?_⟩,rfl⟩;have hq:=hp.out;rw [zH (by have:=Hl.out;omega)] at hq;exact any_end hq
theorem any_noCh {xs:List Int} {v:Value} {w:World} {A:Nat} (ha:RdI A w v xs) :
 Calls Tryz.prog 101 #[v,.func (.func 168) #[] #[]] w fun e w'=>e=.returned (.bool (xs.any noCh))/\w=w':=by
 have Ha:=hid ha;obtain ⟨ao,cap,rfl⟩:=ha.shape;clear ha;go_enter Tryz.func101,Tryz.ntmps101;go_wp2_with fail;refine (indexFunc_noCh Ha.out).mono ?_;rintro e w' ⟨⟨r,rfl,hr,hi⟩,rfl⟩;have Hi:=hid hi;clear hi;go_wp2;go_ret;refine ⟨yAC ?_,rfl⟩;rw [Bool.eq_iff_iff,decide_eq_true_iff];exact Hi.out
theorem hasCharacters_c {h:List Int} {v:Value} {w:World} {A:Nat} (ha:RdI A w v h) :
 Calls Tryz.prog 152 #[v] w fun e w'=>e=.returned (.bool (okTx h))/\w=w':=by
 have Ha:=hid ha;obtain ⟨ao,cap,rfl⟩:=ha.shape;clear ha;go_enter Tryz.func152,Tryz.ntmps152;go_wp2_with fail;refine (any_noCh Ha.out).mono ?_;rintro e w' ⟨rfl,rfl⟩;go_wp2;go_ret;exact ⟨yAC (by unfold okTx;simp),rfl⟩
theorem textOf_c {h:List Int} {v:Value} {w:World} {A:Nat} (ho:okTx h=true) (hl:h.length<=1000) (ha:RdI A w v h) :
 Calls Tryz.prog 194 #[v] w fun e w'=>e=.returned (.string (toB (txI h)))/\Below w.heap.size w w':=by
 obtain ⟨i0,hi,hz0,hz1,hz2⟩:=info_parts Tryz.infoU8t;have HR0:Hid (Own eB 5 w.heap.size (w.alloc (.cells #[] 5)) (.slice (some ⟨w.heap.size,0,none⟩) 0 0) ([]:List Int)):=hid (Own.lit (E:=eB) (xs:=[]) (cs:=#[]) (zA _) rfl rfl (by decide) (fun x hx=>by cases hx));have HB0:Hid (Below w.heap.size w (w.alloc (.cells #[] 5))):=hid ((zB _ _).alloc (zA _) _);obtain ⟨ao,cap,rfl,hop⟩:=RdI.open ha;obtain ⟨n,hn⟩:∃ n,n=h.length:=⟨_,rfl⟩;rw [<- hn] at hl hop |-;have Hn:=hid hn;have Ho:=hid hop;have Hok:=hid ho;have hbt:=bytesI_toB (txI_bd ho);have Hbt:=hid hbt;clear hop hn ha ho hbt;go_enter Tryz.func194,Tryz.ntmps194;go_wp2;go_loopw [3,9] (fun ov i wr=>∃ k:Nat,k<=n/\i=.int .i64 k/\Own eB 5 w.heap.size wr ov ((txI h).take k)/\Below w.heap.size w wr) (fun _ i _=>n - (intOf i).toNat)
 case atStart=>exact ⟨0,zK _,rfl,HR0.out,HB0.out⟩
 case round =>
  obtain ⟨k,hk,rfl,hR,hb⟩:=hrel;clear HR0 HB0;by_cases hkn:k<n
  . obtain ⟨b,off,rfl,hlt,hc⟩:=Ho.out (by omega)
    obtain ⟨m,hm,hcm,bm⟩:=hc k hkn;have d1:=(hb.cell (p:=⟨b,off+k,none⟩) hlt.2).trans hcm;have hnc:¬ rkI m<0:=by
     have h1:=Hok.out;unfold okTx at h1;have h2:h.any noCh=false:=by simpa using h1
     have h3:=List.any_eq_false.1 h2 m (zC hm);unfold noCh at h3;simpa using h3
    obtain ⟨q,hq,hrk,hch⟩:=rk_neg hnc;have htx:(txI h)[k]?=some (chA q):=by unfold txI;rw [List.getElem?_map,hm,<- hch];rfl
    have hsn:=yAD htx;have hlk:((txI h).take k).length<=k:=List.length_take_le _ _;have Hdg:Hid (eB.ok (chA q)):=hid (by have:=chA_bd ⟨q,hq⟩;show 0<=chA q/\chA q<=255;exact ⟨this.1,this.2.1⟩);have HR:=hid hR;have HB:=hid hb;have Hsn:=hid hsn;have Hrk:=hid hrk;have hqi:(q:Int)<40:=by omega
    clear hR hb hc hm hcm hnc hrk hch htx hsn;go_wp2_with fail;with_reducible refine (rankOf_c m _).mono ?_
    rw [Hrk.out];rintro e w2 ⟨rfl,rfl⟩;have hix:=fun w=>chars_run hq w;go_wp2_with (first | (at_builtin;refine yAB (E:=eB) rfl _ _ 22 rfl Tryz.underlying22 hi hz0 hz1 hz2 rfl (by decide) rfl rfl (HR.out.alloc _) (yAH (E:=eB) (x:=chA q) Hdg.out rfl) ?b1 ?b2 ?b3 ?_))
    case b1=>unfold maxLen;(try simp) <;> omega
    case b2=>(try simp) <;> omega
    case b3=>have:=HB.out.size;(try simp) <;> omega
    intro s2 w2 hR2 hg;have hb2:Below w.heap.size w w2:=hg.alloc.below HB.out HB.out.size (fun j hj=>(HR.out.lt j hj).1);have HR2:=hid hR2;have HB2:=hid hb2;clear hR2 hg hb2 HR HB d1 hix;go_wp2;go_roundw
    case rel=>exact ⟨k+1,by omega,by go_num,by rw [Hsn.out];exact HR2.out,HB2.out⟩
    case measure=>simp [intOf];omega
  . obtain rfl:k=n:=by omega
    rw [zH (by unfold txI;rw [List.length_map];have:=Hn.out;omega),<- Hbt.out] at hR;have hcv:=conv_own hR;obtain ⟨ro,rc,hrv⟩:=hR.shape;have HB:=hid hb;subst hrv;clear hR hb;go_wp2;go_ret;exact ⟨rfl,HB.out⟩
open Go.Sort
theorem l03Order_c (w:World):Calls Tryz.prog 106 #[] w fun e w'=>e=.returned (.string charsB)/\w=w':=by
 go_enter Tryz.func106,Tryz.ntmps106;go_wp2;go_ret;exact ⟨rfl,rfl⟩
theorem l03Char_c (m:Int) (w:World):Calls Tryz.prog 150 #[.int .i64 m] w fun e w'=>e=.returned (.tuple #[.int .u8 (if rkI m<0 then 0 else chrI m),.bool (!noCh m)])/\w=w':=by
 obtain ⟨S,hS⟩:∃ S,S=charsB:=⟨_,rfl⟩;have hsz:S.size=40:=by rw [hS];decide +kernel
 have hix0:∀ (k:Nat),k<40->∀ w,(Instr.index 9 (.string S) (.int .i64 (k:Int))).run Tryz.prog w=.ok (.int .u8 (chA k)) w:=by intro k hk w;rw [hS];exact chars_run hk w
 have Hix:=hid hix0;have ho:=l03Order_c w;rw [<- hS] at ho;have Ho:=hid ho;obtain ⟨r,hr⟩:∃ r,r=(if rkI m<0 then 0 else chrI m):=⟨_,rfl⟩;obtain ⟨t,ht⟩:∃ t,t=!noCh m:=⟨_,rfl⟩;rw [<- hr,<- ht];have Hr:=hid hr;have Ht:=hid ht;clear ho hS hix0 hr ht;go_enter Tryz.func150,Tryz.ntmps150;go_wp2_with fail;with_reducible refine Ho.out.mono ?_
 rintro e w' ⟨rfl,rfl⟩;go_wp2;go_loop [5] (fun i=>∃ k:Nat,k<=40/\i=.int .i64 k/\Hid (∀ j,j<k->codeI (chA j) ≠ m)) (fun i=>40 - (intOf i).toNat)
 case atStart=>exact ⟨0,by decide,rfl,fun j hj=>absurd hj (Nat.not_lt_zero _)⟩
 case round =>
  obtain ⟨k,hk,rfl,hp⟩:=hrel;by_cases hkn:k<40
  . have hix:=Hix.out k hkn
    have hcb:=chA_bd ⟨k,hkn⟩;have Hcb:=hid hcb;obtain ⟨c,hc⟩:∃ c,c=chA k:=⟨_,rfl⟩;rw [<- hc] at hix;have Hc:=hid hc;have hc0:0<=c/\c<=255:=by rw [hc];exact ⟨hcb.1,hcb.2.1⟩
    have Hc0:=hid hc0;have hki:(k:Int)<40:=by omega
    clear hcb hc hc0;cases hq:(codeI c == m) with
    | true =>
     have Hq:=hid (beq_iff_eq.1 hq);go_wp2_with fail;with_reducible refine (l03Code_c c _ Hc0.out).mono ?_
     rintro e w' ⟨rfl,rfl⟩;go_wp2;go_ret2;have hr:=rk_found hkn (by rw [<- Hc.out];exact Hq.out) hp.out;have hn:noCh m=false:=by unfold noCh;rw [hr];exact decide_eq_false (by omega)
     have hch:chrI m=c:=by unfold chrI;rw [hr,zR,Hc.out]
     have e1:r=c:=by rw [Hr.out,if_neg (by rw [hr];omega),hch]
     have e2:t=true:=by rw [Ht.out,hn];rfl
     rw [e1,e2];exact ⟨rfl,rfl⟩
    | false =>
     have Hq:Hid (codeI c ≠ m):=hid (by simpa using hq);go_wp2_with fail;with_reducible refine (l03Code_c c _ Hc0.out).mono ?_
     rintro e w' ⟨rfl,rfl⟩;clear hix;go_wp2;go_round
     case rel=>exact ⟨k+1,by omega,by go_num,fun j hj=>by rcases Nat.lt_succ_iff_lt_or_eq.1 hj with hj | rfl;exact hp.out j hj;rw [<- Hc.out];exact Hq.out⟩
     case measure=>simp [intOf];omega
  . obtain rfl:k=40:=by omega
    go_wp2;go_ret2;have hr:=rk_none hp.out;have hn:noCh m=true:=by unfold noCh;rw [hr];rfl
    have e1:r=0:=by rw [Hr.out,hr];rfl
    have e2:t=false:=by rw [Ht.out,hn];rfl
    rw [e1,e2];exact ⟨rfl,rfl⟩
def txV (h:List Int):ByteArray:=if okTx h=true then toB (txI h) else ⟨#[]⟩
theorem l03Text_c {h:List Int} {v:Value} {w:World} {A:Nat} (hl:h.length<=1000) (ha:RdI A w v h) :
 Calls Tryz.prog 108 #[v] w fun e w'=>e=.returned (.tuple #[.string (txV h),.bool (okTx h)])/\Below w.heap.size w w':=by
 obtain ⟨i0,hi,hz0,hz1,hz2⟩:=info_parts Tryz.infoU8t;have HR0:Hid (Own eB 5 w.heap.size (w.alloc (.cells #[] 5)) (.slice (some ⟨w.heap.size,0,none⟩) 0 0) ([]:List Int)):=hid (Own.lit (E:=eB) (xs:=[]) (cs:=#[]) (zA _) rfl rfl (by decide) (fun x hx=>by cases hx));have HB0:Hid (Below w.heap.size w (w.alloc (.cells #[] 5))):=hid ((zB _ _).alloc (zA _) _);obtain ⟨ao,cap,rfl,hop⟩:=RdI.open ha;obtain ⟨n,hn⟩:∃ n,n=h.length:=⟨_,rfl⟩;rw [<- hn] at hl hop |-;have Hn:=hid hn;have Ho:=hid hop;clear hop hn ha;go_enter Tryz.func108,Tryz.ntmps108;go_wp2;go_loopw [4,5] (fun ov i wr=>∃ k:Nat,k<=n/\i=.int .i64 k/\Hid (okTx (h.take k)=true)/\Own eB 5 w.heap.size wr ov (txI (h.take k))/\Below w.heap.size w wr) (fun _ i _=>n - (intOf i).toNat)
 case atStart=>exact ⟨0,zK _,rfl,rfl,HR0.out,HB0.out⟩
 case round =>
  obtain ⟨k,hk,rfl,hok,hR,hb⟩:=hrel;clear HR0 HB0;by_cases hkn:k<n
  . obtain ⟨b,off,rfl,hlt,hc⟩:=Ho.out (by omega)
    obtain ⟨m,hm,hcm,bm⟩:=hc k hkn;have d1:=(hb.cell (p:=⟨b,off+k,none⟩) hlt.2).trans hcm;obtain ⟨ro,rc,hro⟩:=hR.shape;subst hro;by_cases hnc:rkI m<0
    . have hnm:noCh m=true:=decide_eq_true hnc
      have E:Hid (okTx h=false):=hid (by
       unfold okTx;have:h.any noCh=true:=List.any_eq_true.2 ⟨m,zC hm,hnm⟩;rw [this];rfl)
      have Hnm:=hid hnm;have HB:=hid hb;have Hneg:=hid hnc;clear hR hb hc hm hcm hnm hnc;go_wp2_with fail;with_reducible refine (l03Char_c m _).mono ?_
      rw [Hnm.out,if_pos (by have:=Hneg.out;omega)];rintro e w2 ⟨rfl,rfl⟩;clear d1;go_wp2;go_ret2;unfold txV;rw [E.out];exact ⟨rfl,HB.out⟩
    . obtain ⟨q,hq,hrk,hch⟩:=rk_neg hnc
      have hnm:noCh m=false:=decide_eq_false hnc;have htx:txI (h.take (k+1))=txI (h.take k)++[chrI m]:=by unfold txI;rw [yAD hm,List.map_append];rfl
      have hok2:okTx (h.take (k+1))=true:=by
       have h1:=hok.out;unfold okTx at h1 |-;rw [yAD hm,List.any_append];have h2:(h.take k).any noCh=false:=by simpa using h1
       rw [h2];simp [hnm]
      have hlk:(txI (h.take k)).length<=k:=by unfold txI;rw [List.length_map];exact List.length_take_le _ _
      have Hdg:Hid (eB.ok (chrI m)):=hid (by rw [hch];have:=chA_bd ⟨q,hq⟩;show 0<=chA q/\chA q<=255;exact ⟨this.1,this.2.1⟩);have HR:=hid hR;have HB:=hid hb;have Htx:=hid htx;have Hok2:=hid hok2;have Hnm:=hid hnm;have Hnc:=hid hnc;clear hR hb hc hm hcm hnc hrk hch htx hok2 hnm;go_wp2_with fail;with_reducible refine (l03Char_c m _).mono ?_
      rw [Hnm.out,if_neg (by have:=Hnc.out;omega)];rintro e w2 ⟨rfl,rfl⟩;clear d1;go_wp2_with (first | (at_builtin;refine yAB (E:=eB) rfl _ _ 22 rfl Tryz.underlying22 hi hz0 hz1 hz2 rfl (by decide) rfl rfl (HR.out.alloc _) (yAH (E:=eB) (x:=chrI m) Hdg.out rfl) ?b1 ?b2 ?b3 ?_))
      case b1=>unfold maxLen;(try simp) <;> omega
      case b2=>(try simp) <;> omega
      case b3=>have:=HB.out.size;(try simp) <;> omega
      intro s2 w2 hR2 hg;have hb2:Below w.heap.size w w2:=hg.alloc.below HB.out HB.out.size (fun j hj=>(HR.out.lt j hj).1);have HR2:=hid hR2;have HB2:=hid hb2;clear hR2 hg hb2 HR HB;go_wp2;go_roundw
      case rel=>exact ⟨k+1,by omega,by go_num,Hok2,by rw [Htx.out];exact HR2.out,HB2.out⟩
      case measure=>simp [intOf];omega
  . obtain rfl:k=n:=by omega
    rw [zH (by have:=Hn.out;omega)] at hok hR;have hbt:=bytesI_toB (txI_bd hok.out);rw [<- hbt] at hR;have hcv:=conv_own hR;obtain ⟨ro,rc,hrv⟩:=hR.shape;have HB:=hid hb;have E:Hid (txV h=toB (txI h)):=hid (if_pos hok.out);subst hrv;clear hR hb hbt;go_wp2;go_ret2;rw [E.out,hok.out];exact ⟨rfl,HB.out⟩
theorem l02Part_c {b off cb co n cap:Nat} {w:World} (x y:Int) (hx:0<=x) (hxy:x<y) (hy:y<=n) (hnc:n<=cap) (hcap:cap<=9223372036854775807) (hcell:w.cell? ⟨b,off,none⟩=some (.slice (some ⟨cb,co,none⟩) n cap)) (hb:b<w.heap.size) :
 Calls Tryz.prog 109 #[.pointer (some ⟨b,off,none⟩),.agg #[.int .i64 x,.int .i64 y]] w fun e w'=>e=.returned (.slice (some ⟨cb,co+x.toNat,none⟩) (y.toNat - x.toNat) (cap - x.toNat))/\Below w.heap.size w w':=by
 obtain ⟨lo,rfl⟩:=zG hx;obtain ⟨hi,rfl⟩:=zG (show 0<=y by omega);simp only [zR];obtain ⟨W,hW⟩:∃ W,W=w.alloc (.cells #[.int .i64 (lo:Int),.int .i64 (hi:Int)] 27):=⟨_,rfl⟩;have hb0:Below w.heap.size w W:=by rw [hW];exact (zB _ _).alloc (zA _) _
 have hF:Box W w.heap.size [.int .i64 (lo:Int),.int .i64 (hi:Int)]:=by rw [hW];exact Box.new w [.int .i64 (lo:Int),.int .i64 (hi:Int)] 27
 have HW:=hid hW;have Hb0:=hid hb0;have f0:=cell_regrown ((hb0.cell (p:=⟨b,off,none⟩) hb).trans hcell);have f1:=cell_regrown (hF.cell 0 _ rfl);have f2:=cell_regrown (hF.cell 1 _ rfl);have h1:lo<hi:=by omega
 have h2:hi<=n:=by omega
 have h3:hi<=cap:=by omega
 have h4:¬ cap=lo:=by omega
 have h5:lo<=hi:=by omega
 clear hW hb0 hF hcell hx hxy hy;go_enter Tryz.func109,Tryz.ntmps109;go_upto_region 1 with fail;rw [<- HW.out];refine wp_region_quiet_below (by kernel_rfl) (by kernel_rfl) ?_;repeat ((with_reducible refine wpQuiet_step (fun K hK=>?_));go_simp;first | ((with_reducible refine hK _ ?_);clear hK K) | (apply Exists.intro;refine ⟨fun _=>?_,hK _ ?_⟩;((fail));clear hK K))
 refine wpQuiet_nil ?_;intro _ hw';obtain ⟨⟨dq,osq⟩,hw''⟩:=hw';subst hw'';have hbq:=below_regrown W dq osq;generalize grow (redrawn W dq) osq=wq at hbq |-;have hb:=Hb0.out.trans (hbq.mono Hb0.out.size);clear hbq f0 f1 f2;go_wp2;go_ret;exact ⟨rfl,hb⟩
def cmpN:List Int->List Int->Int
 | [],_=>0
 | _ :: _,[]=>0
 | x :: xs,y :: ys=>if x<y then -1 else if y<x then 1 else cmpN xs ys
def lexL:List Int->List Int->Prop
 | _,[]=>False
 | [],_ :: _=>True
 | x :: xs,y :: ys=>x<y\/(x=y/\lexL xs ys)
theorem lexL_trans:∀ {a b c:List Int},lexL a b->lexL b c->lexL a c
 | _,[],_,h,_=>by unfold lexL at h;exact h.elim
 | _,_ :: _,[],_,h=>by unfold lexL at h;exact h.elim
 | [],_ :: _,_ :: _,_,_=>by unfold lexL;trivial
 | x :: xs,y :: ys,z :: zs,h1,h2=>by
  unfold lexL at h1 h2 |-;rcases h1 with h1 | ⟨e1,h1⟩ <;> rcases h2 with h2 | ⟨e2,h2⟩
  . exact .inl (by omega)
  . exact .inl (by omega)
  . exact .inl (by omega)
  . exact .inr ⟨by omega,lexL_trans h1 h2⟩
theorem cmpN_neg:∀ {a b:List Int},a.length=b.length->cmpN a b<0->lexL a b
 | [],[],_,h=>by unfold cmpN at h;omega
 | x :: xs,y :: ys,hl,h=>by
  unfold cmpN at h;unfold lexL;by_cases h1:x<y
  . exact .inl h1
  . rw [if_neg h1] at h
    by_cases h2:y<x
    . rw [if_pos h2] at h;omega
    . rw [if_neg h2] at h
      exact .inr ⟨by omega,cmpN_neg (by simpa using hl) h⟩
theorem cmpN_pos:∀ {a b:List Int},a.length=b.length->¬ cmpN a b<0->a=b\/lexL b a
 | [],[],_,_=>.inl rfl
 | x :: xs,y :: ys,hl,h=>by
  unfold cmpN at h;unfold lexL;by_cases h1:x<y
  . rw [if_pos h1] at h;omega
  . rw [if_neg h1] at h
    by_cases h2:y<x
    . exact .inr (.inl h2)
    . rw [if_neg h2] at h
      have e:x=y:=by omega
      rcases cmpN_pos (by simpa using hl) h with h3 | h3
      . exact .inl (by rw [e,h3])
      . exact .inr (.inr ⟨e.symm,h3⟩)
theorem cmpN_zero:∀ {a b:List Int},a.length=b.length->(cmpN a b=0 ↔ a=b)
 | [],[],_=>by unfold cmpN;simp
 | x :: xs,y :: ys,hl=>by
  unfold cmpN;by_cases h1:x<y
  . rw [if_pos h1];constructor
    . intro h;omega
    . intro h;injection h with h2 h3;omega
  . rw [if_neg h1]
    by_cases h2:y<x
    . rw [if_pos h2];constructor
      . intro h;omega
      . intro h;injection h with h3 h4;omega
    . rw [if_neg h2,cmpN_zero (by simpa using hl)]
      constructor
      . intro h;rw [h,show x=y by omega]
      . intro h;injection h
def rks (h:List Int):List Int:=h.map rkI
theorem cmpN_bd:∀ (a b:List Int),-1<=cmpN a b/\cmpN a b<=1
 | [],_=>by unfold cmpN;omega
 | _ :: _,[]=>by unfold cmpN;omega
 | x :: xs,y :: ys=>by
  unfold cmpN;have:=cmpN_bd xs ys;split
  . omega
  . split <;> omega
theorem cmp_step {h k:List Int} {i:Nat} {x y:Int} (hx:h[i]?=some x) (hy:k[i]?=some y):cmpN (rks (h.drop i)) (rks (k.drop i))=if rkI x<rkI y then -1 else if rkI y<rkI x then 1 else cmpN (rks (h.drop (i+1))) (rks (k.drop (i+1))):=by
 obtain ⟨h1,e1⟩:=zS.1 hx;obtain ⟨h2,e2⟩:=zS.1 hy;rw [List.drop_eq_getElem_cons h1,List.drop_eq_getElem_cons h2,e1,e2];show cmpN (rkI x :: rks _) (rkI y :: rks _)=_
 rw [cmpN]
theorem compareHoles_c {h k:List Int} {u v:Value} {w:World} {A B:Nat} (ha:RdI A w u h) (hb:RdI B w v k) (hl:h.length=k.length) :
 Calls Tryz.prog 154 #[u,v] w fun e w'=>e=.returned (.int .i64 (cmpN (rks h) (rks k)))/\∃ m,w'=w.drewN m:=by
 have hle:=ha.le;obtain ⟨ao,cap,rfl,hoa⟩:=RdI.open ha;obtain ⟨bo,bcap,rfl,hob⟩:=RdI.open hb;obtain ⟨n,hn⟩:∃ n,n=h.length:=⟨_,rfl⟩;rw [<- hl];rw [<- hn] at hle |-;obtain ⟨R,hR⟩:∃ R,cmpN (rks h) (rks k)=R:=⟨_,rfl⟩;rw [hR];have HR:=hid hR;have Hn:=hid hn;have Hl:=hid hl;have Ha:=hid hoa;have Hb:=hid hob;clear ha hb hoa hob hn hl hR;go_enter Tryz.func154,Tryz.ntmps154;go_wp2;go_loopw [10] (fun iv wr=>∃ i:Nat,i<=n/\iv=.int .i64 i/\Hid (R=cmpN (rks (h.drop i)) (rks (k.drop i)))/\∃ m,wr=w.drewN m) (fun i _=>n - (intOf i).toNat)
 case atStart=>exact ⟨0,zK _,rfl,hid HR.out.symm,0,rfl⟩
 case round =>
  obtain ⟨i,hi,rfl,hp,m,rfl⟩:=hrel;by_cases hin:i<n
  . obtain ⟨b,off,rfl,hlt,hc⟩:=Ha.out (by have:=Hn.out;omega)
    obtain ⟨x,hx,hcx,bx⟩:=hc i (by have:=Hn.out;omega);obtain ⟨b2,off2,rfl,hlt2,hc2⟩:=Hb.out (by have:=Hn.out;have:=Hl.out;omega);obtain ⟨y,hy,hcy,by2⟩:=hc2 i (by have:=Hn.out;have:=Hl.out;omega);have hst:=cmp_step hx hy;have Hst:=hid (hp.out.trans hst);have hrx:=rk_lt x;have hry:=rk_lt y;obtain ⟨rx,hrxe⟩:∃ r,rkI x=r:=⟨_,rfl⟩;obtain ⟨ry,hrye⟩:∃ r,rkI y=r:=⟨_,rfl⟩;have Hc1:=hid (fun W=>rankOf_c x W);have Hc2:=hid (fun W=>rankOf_c y W);rw [hrxe] at Hc1 Hst hrx;rw [hrye] at Hc2 Hst hry;have hini:(i:Int)<(n:Int):=by omega
    clear hx hy hst hc hc2 hp hrxe hrye;by_cases h1:rx<ry
    . have HE:Hid (R=-1):=hid (by have:=Hst.out;rw [if_pos h1] at this;exact this)
      go_wp2;go_quiet ((go_at_call 169;first | with_reducible exact quiet_at (Hc1.out _) | with_reducible exact yBA (Hc1.out _) | with_reducible exact quiet_at (Hc2.out _) | with_reducible exact yBA (Hc2.out _)));go_wp2;go_ret;exact ⟨yAJ HE.out.symm,_,rfl⟩
    . by_cases h2:ry<rx
      . have HE:Hid (R=1):=hid (by have:=Hst.out;rw [if_neg h1,if_pos h2] at this;exact this)
        go_wp2;go_quiet ((go_at_call 169;first | with_reducible exact quiet_at (Hc1.out _) | with_reducible exact yBA (Hc1.out _) | with_reducible exact quiet_at (Hc2.out _) | with_reducible exact yBA (Hc2.out _)));go_wp2;go_ret;exact ⟨yAJ HE.out.symm,_,rfl⟩
      . have HE:Hid (R=cmpN (rks (h.drop (i+1))) (rks (k.drop (i+1)))):=hid (by have:=Hst.out;rw [if_neg h1,if_neg h2] at this;exact this)
        go_wp2;go_quiet ((go_at_call 169;first | with_reducible exact quiet_at (Hc1.out _) | with_reducible exact yBA (Hc1.out _) | with_reducible exact quiet_at (Hc2.out _) | with_reducible exact yBA (Hc2.out _)));go_wp2;go_roundw
        case rel=>exact ⟨i+1,by omega,by go_num,HE,_,rfl⟩
        case measure=>simp [intOf];omega
  . go_wp2
    go_ret;obtain rfl:i=n:=by omega
    have e:=hp.out;rw [List.drop_of_length_le (by have:=Hn.out;omega)] at e;exact ⟨yAJ (by rw [e];rfl),_,rfl⟩
theorem box3F (w:World) (a b c:List Value) (t1 t2 t3:TypeId):Box (((w.alloc (.cells a.toArray t1)).alloc (.cells b.toArray t2)).alloc (.cells c.toArray t3)) w.heap.size a/\Box (((w.alloc (.cells a.toArray t1)).alloc (.cells b.toArray t2)).alloc (.cells c.toArray t3)) (w.heap.size+1) b /\
 Box (((w.alloc (.cells a.toArray t1)).alloc (.cells b.toArray t2)).alloc (.cells c.toArray t3)) (w.heap.size+1+1) c/\Below w.heap.size w (((w.alloc (.cells a.toArray t1)).alloc (.cells b.toArray t2)).alloc (.cells c.toArray t3)):=by
 have h1:=((Box.new w a t1).alloc (.cells b.toArray t2)).alloc (.cells c.toArray t3);have h2:=(Box.new (w.alloc (.cells a.toArray t1)) b t2).alloc (.cells c.toArray t3);have h3:=Box.new ((w.alloc (.cells a.toArray t1)).alloc (.cells b.toArray t2)) c t3;have z1:(w.alloc (.cells a.toArray t1)).heap.size=w.heap.size+1:=by simp
 have z2:((w.alloc (.cells a.toArray t1)).alloc (.cells b.toArray t2)).heap.size=w.heap.size+1+1:=by simp
 rw [z1] at h2;rw [z2] at h3;exact ⟨h1,h2,h3,((((zB w.heap.size w).alloc (zA _) _).alloc (by simp) _).alloc (by simp;omega) _)⟩
theorem yAN {c:List Int} {x y:Int} (hx:0<=x) (hxy:x<y) (hy:y<=c.length):(partC c x y).length=y.toNat - x.toNat:=by
 unfold partC;rw [zQ,zI];omega
theorem yBP {c e:List Int} {b off n cap b2 off2 n2 cap2:Nat} {w:World} {A B:Nat} (x y:Int) (hx:0<=x) (hxy:x<y) (hy:y<=n) (hy2:y<=n2) (ha:RdI A w (.slice (some ⟨b,off,none⟩) n cap) c) (hb:RdI B w (.slice (some ⟨b2,off2,none⟩) n2 cap2) e) :
 Calls Tryz.prog 116 #[.agg #[.slice (some ⟨b,off,none⟩) n cap],.agg #[.slice (some ⟨b2,off2,none⟩) n2 cap2],.agg #[.int .i64 x,.int .i64 y]] w fun e' w'=>e'=.returned (.int .i64 (cmpN (rks (partC c x y)) (rks (partC e x y))))/\Below w.heap.size w w':=by
 obtain ⟨lo,rfl⟩:=zG hx;obtain ⟨hi,rfl⟩:=zG (show 0<=y by omega);obtain ⟨W,hW⟩:∃ W,W=((w.alloc (.cells #[.slice (some ⟨b,off,none⟩) n cap] 69)).alloc (.cells #[.slice (some ⟨b2,off2,none⟩) n2 cap2] 69)).alloc (.cells #[.int .i64 lo,.int .i64 hi] 27):=⟨_,rfl⟩;have h3:=box3F w [.slice (some ⟨b,off,none⟩) n cap] [.slice (some ⟨b2,off2,none⟩) n2 cap2] [.int .i64 lo,.int .i64 hi] 69 69 27;rw [<- hW] at h3;obtain ⟨hP,hQ,hR,hb0⟩:=h3;have ca:=Rds.cap ha;have cb:=Rds.cap hb;have ca2:=ca.2.2 (by omega);have cb2:=cb.2.2 (by omega);have ha1:=Rds.onn ha hb0;have hb1:=Rds.onn hb hb0;have f1:=cell_regrown (hP.cell 0 _ rfl);have f2:=cell_regrown (hQ.cell 0 _ rfl);have f3:=cell_regrown (hR.cell 0 _ rfl);have f4:=cell_regrown (hR.cell 1 _ rfl);have hcon:=fun d os=>compareHoles_c (w:=grow (redrawn W d) os) (Rds.part (Rds.regrown ha1 (zA _) d os) hx hxy hy) (Rds.part (Rds.regrown hb1 (zA _) d os) hx hxy hy2) (by rw [yAN hx hxy (by omega),yAN hx hxy (by omega)]);simp only [zR] at hcon;obtain ⟨R,hRR⟩:∃ R,cmpN (rks (partC c (lo:Int) (hi:Int))) (rks (partC e (lo:Int) (hi:Int)))=R:=⟨_,rfl⟩;rw [hRR] at hcon |-;have Hcon:=hid hcon;have Hb0:=hid hb0;have HW:=hid hW;have q1:lo<hi:=by omega
 have q2:hi<=n:=by omega
 have q3:hi<=n2:=by omega
 have q4:hi<=cap:=by omega
 have q5:hi<=cap2:=by omega
 have q6:¬ cap=lo:=by omega
 have q7:¬ cap2=lo:=by omega
 have q8:lo<=hi:=by omega
 clear hP hQ hR hb0 hW ha hb ha1 hb1 hcon hRR ca cb;go_enter Tryz.func116,Tryz.ntmps116;go_upto_region 1 with fail;rw [<- HW.out];refine wp_region_quiet_below (by kernel_rfl) (by kernel_rfl) ?_;repeat ((with_reducible refine wpQuiet_step (fun K hK=>?_));go_simp;first | ((with_reducible refine hK _ ?_);clear hK K) | (apply Exists.intro;refine ⟨fun _=>?_,hK _ ?_⟩;((first | (go_at_call 154;with_reducible exact qb_N (Hcon.out _ _))));clear hK K))
 refine wpQuiet_nil ?_;intro _ hw';obtain ⟨⟨dq,osq⟩,hw''⟩:=hw';subst hw'';have hbq:=below_regrown W dq osq;generalize grow (redrawn W dq) osq=wq at hbq |-;have Hb1:=hid (Hb0.out.trans (hbq.mono Hb0.out.size));clear hbq f1 f2 f3 f4;go_wp2;go_ret;exact ⟨rfl,Hb1.out⟩
theorem hasField_c {c:List Int} {b off n cap:Nat} {w:World} {A:Nat} (x y:Int) (hx:0<=x) (hxy:x<y) (hy:y<=n) (ha:RdI A w (.slice (some ⟨b,off,none⟩) n cap) c) :
 Calls Tryz.prog 113 #[.agg #[.slice (some ⟨b,off,none⟩) n cap],.agg #[.int .i64 x,.int .i64 y]] w fun e w'=>e=.returned (.bool (okTx (partC c x y)))/\Below w.heap.size w w':=by
 have hc:=Rds.cap ha;have hcap:=hc.2.2 (by omega);obtain ⟨lo,rfl⟩:=zG hx;obtain ⟨hi,rfl⟩:=zG (show 0<=y by omega);have hb0:Below w.heap.size w ((w.alloc (.cells #[.slice (some ⟨b,off,none⟩) n cap] 69)).alloc (.cells #[.int .i64 (lo:Int),.int .i64 (hi:Int)] 27)):=((zB _ _).alloc (zA _) _).alloc (by simp) _;have ha1:=Rds.part (Rds.onn ha hb0) hx hxy (by omega);simp only [zR] at ha1;have Ha:=hid ha1;have Hb0:=hid hb0;have h1:lo<hi:=by omega
 have h2:hi<=n:=by omega
 have h3:hi<=cap:=by omega
 have h4:¬ cap=lo:=by omega
 have h5:lo<=hi:=by omega
 clear hc ha hb0 ha1;go_enter Tryz.func113,Tryz.ntmps113;go_wp2_with fail;with_reducible refine (hasCharacters_c Ha.out).mono ?_
 rintro e w1 ⟨rfl,rfl⟩;go_wp2;go_ret;exact ⟨rfl,Hb0.out⟩
theorem numG_bd:∀ (h:List Int) (n:Int) (b:Bool),numG h=some (n,b)->0<=n/\n<10 ^ h.length:=by
 intro h;have key:∀ (l:List Int) (n0:Int) (b0:Bool) (e:Nat),0<=n0->n0<10 ^ e->∀ n b,l.foldl numS (some (n0,b0))=some (n,b)->0<=n/\n<10 ^ (e+l.length):=by
  intro l;induction l with
  | nil=>intro n0 b0 e h0 h1 n b hh;injection hh with hh;injection hh with h2 h3;subst h2;exact ⟨h0,by simpa using h1⟩
  | cons x l ih =>
   intro n0 b0 e h0 h1 n b hh;change l.foldl numS (if x=0/\b0=false then some (n0,b0) else if digI x<0 then none else some (10 * n0+digI x,true))=_ at hh;have hp:(10:Int) ^ (e+1)=10 * 10 ^ e:=by rw [Int.pow_succ];omega
   have hle:(e+(x :: l).length)=(e+1+l.length):=by simp;omega
   rw [hle];by_cases hx:x=0/\b0=false
   . rw [if_pos hx] at hh
     exact ih n0 b0 (e+1) h0 (by omega) n b hh
   . rw [if_neg hx] at hh
     by_cases hd:digI x<0
     . rw [if_pos hd] at hh
       exfalso;have:∀ l:List Int,l.foldl numS none=none:=by intro l;induction l with | nil=>rfl | cons a l ih=>exact ih
       rw [this] at hh;cases hh
     . rw [if_neg hd] at hh
       have:=dig_bd x;exact ih _ true (e+1) (by omega) (by omega) n b hh
 intro n b hh;have:=key h 0 false 0 (by decide) (by decide) n b hh;simpa using this
theorem numR_bd (h:List Int) (hl:h.length<=12):-1000000000000<=(numR h).1/\(numR h).1<=1000000000000:=by
 unfold numR;cases hg:h.getLast? with
 | none=>simp
 | some l =>
  cases hn:numG h.dropLast with
  | none=>simp
  | some p =>
   obtain ⟨n,b⟩:=p;have h1:=numG_bd _ n b hn;have hlen:h.dropLast.length<=11:=by rw [List.length_dropLast];omega
   have h2:(10:Int) ^ h.dropLast.length<=10 ^ 11:=by
    have hp:(10:Nat) ^ h.dropLast.length<=10 ^ 11:=Nat.pow_le_pow_right (by decide) hlen;exact_mod_cast hp
   have h3:(10:Int) ^ 11=100000000000:=by decide
   have d1:=dig_bd (l - 2);have d2:=dig_bd l;simp only;split
   . split <;> simp only <;> omega
   . split
     . simp only;omega
     . split <;> simp only <;> omega
theorem Own.cellAtQ {e:TypeId} {base g n cap j:Nat} {w:World} {xs:List Int} {x:Int} (h:Own eI e base w (.slice (some ⟨g,0,none⟩) n cap) xs) (hn:n=xs.length) (hx:xs[j]?=some x):w.cell? ⟨g,j,none⟩=some (.int .i64 x):=by
 subst hn;have hj:=yBG hx;have:=h.ints.cellAt j (by omega);rw [this];simp [hx]
theorem numG_fail {h:List Int} {k:Nat} (hk:numG (h.take k)=none):numG h=none:=by
 have hd:h=h.take k++h.drop k:=(zP k h).symm;unfold numG at hk |-;rw [hd,List.foldl_append,hk];generalize h.drop k=l;induction l with
 | nil=>rfl
 | cons a l ih=>exact ih
theorem numR_zero {h:List Int} (hz:∀ m∈h,m=0):numR h=(0,true):=by
 unfold numR;cases hg:h.getLast? with
 | none=>rfl
 | some l =>
  have hl:l=0:=hz l (List.mem_of_getLast? hg);subst hl;rw [numG_zero (fun m hm=>hz m (List.dropLast_subset h hm))];have e:sgnB 0=false:=by decide +kernel
  simp [e]
theorem numR_of {a:List Int} {l:Int} (hl:0<=l/\l<=4095) (hnz:¬ ∀ m∈a++[l],m=0) :
 numR (a++[l])=match numG (a++[strip l]) with
  | none=>(0,false)
  | some (n,b)=>if b=false\/strip l=0\/(sgnB l=true/\n=0) then (0,false) else ((if sgnB l=true then -n else n),true):=by
 have hs:numG (a++[strip l])=numS (numG a) (strip l):=by unfold numG;rw [List.foldl_append];rfl
 rw [hs];unfold numR;rw [List.getLast?_append,List.getLast?_singleton];simp only [Option.some_or,List.dropLast_concat];cases hg:numG a with
 | none=>rfl
 | some p =>
  obtain ⟨n,b⟩:=p;simp only [numS];have hd0:=dig_zero;cases hsg:sgnB l with
  | true =>
   have e:strip l=l - 2:=by unfold strip;rw [if_pos hsg]
   rw [e];simp only [if_true,true_and];by_cases z:l - 2=0/\b=false
   . rw [if_pos z]
     rw [z.1,hd0];simp [z.2]
   . rw [if_neg z]
     by_cases hd:digI (l - 2)<0
     . rw [if_pos hd,if_pos hd]
     . rw [if_neg hd,if_neg hd]
       have h0:¬ l - 2=0:=fun h=>by rw [h,hd0] at hd;exact hd (by decide)
       simp only;by_cases hq:10 * n+digI (l - 2)=0
       . rw [if_pos (.inr (.inr hq)),hq];rfl
       . rw [if_neg (fun h=>by rcases h with h | h | h;cases h;exact h0 h;exact hq h)]
         rw [decide_eq_true hq]
  | false =>
   have e:strip l=l:=by unfold strip;rw [if_neg (by rw [hsg];decide)]
   rw [e];by_cases z:l=0/\b=false
   . exfalso
     obtain ⟨z1,z2⟩:=z;subst z2;have hz:=(numG_false hg).2;refine hnz fun m hm=>?_;rcases List.mem_append.1 hm with hm | hm
     . exact hz m hm
     . rw [List.mem_singleton.1 hm,z1]
   . rw [if_neg z,if_neg z]
     simp only [Bool.false_eq_true,if_false,false_and,or_false];by_cases hd:digI l<0
     . rw [if_pos hd,if_pos hd]
     . rw [if_neg hd,if_neg hd]
       have h0:¬ l=0:=fun h=>by rw [h,hd0] at hd;exact hd (by decide)
       simp [h0]
theorem bitOf_d (k:Nat) (w:World) (h:k<10):Calls Tryz.prog 155 #[.int .i64 (k:Int)] w fun e w'=>e=.returned (.int .i64 (4 * 2 ^ k))/\w=w':=by
 have h1:=bitOf_c (k:Int) w (.inr (.inr ⟨by omega,by omega⟩));rw [if_neg (by omega),if_neg (by omega),zR] at h1;exact h1
theorem digitOf_c (m:Int) (w:World):Calls Tryz.prog 207 #[.int .i64 m] w fun e w'=>e=.returned (.int .i64 (digI m))/\w=w':=by
 go_enter Tryz.func207,Tryz.ntmps207;go_wp2;go_loop [4] (fun i=>∃ k:Nat,k<=10/\i=.int .i64 k/\Hid (∀ d,d<k->(4 * 2 ^ d:Int) ≠ m)) (fun i=>10 - (intOf i).toNat)
 case atStart=>exact ⟨0,by decide,rfl,fun j hj=>absurd hj (Nat.not_lt_zero _)⟩
 case round =>
  obtain ⟨k,hk,rfl,hp⟩:=hrel;by_cases hkn:k<10
  . have hki:(k:Int)<10:=by omega
    have hcd:=fun w=>bitOf_d k w hkn;obtain ⟨z,hz⟩:∃ z:Int,z=4 * 2 ^ k:=⟨_,rfl⟩;rw [<- hz] at hcd;have Hcd:=hid hcd;have Hz:=hid hz;clear hz hcd;cases hq:(z == m) with
    | true =>
     have Hq:=hid (beq_iff_eq.1 hq);go_wp2_with fail;with_reducible refine (Hcd.out _).mono ?_
     rintro e w' ⟨rfl,rfl⟩;go_wp2;go_ret;exact ⟨yAJ (dig_found hkn (by rw [<- Hz.out];exact Hq.out)).symm,rfl⟩
    | false =>
     have Hq:Hid (z ≠ m):=hid (by simpa using hq);go_wp2_with fail;with_reducible refine (Hcd.out _).mono ?_
     rintro e w' ⟨rfl,rfl⟩;go_wp2;go_round
     case rel=>exact ⟨k+1,by omega,by go_num,fun j hj=>by rcases Nat.lt_succ_iff_lt_or_eq.1 hj with hj | rfl;exact hp.out j hj;rw [<- Hz.out];exact Hq.out⟩
     case measure=>simp [intOf];omega
  . obtain rfl:k=10:=by omega
    go_wp2;go_ret;exact ⟨yAJ (dig_none hp.out).symm,rfl⟩
def nz (x:Int):Bool:=x != 0
theorem clo_nz (x:Int) (w:World) (_h:okInt64 x):Calls Tryz.prog 206 #[.int .i64 x] w fun e w'=>e=.returned (.bool (nz x))/\w=w':=by
 go_enter Tryz.func206,Tryz.ntmps206;go_wp2;go_ret;exact ⟨rfl,rfl⟩
theorem indexFunc_nz {xs:List Int} {v:Value} {w:World} {A:Nat} (ha:RdI A w v xs) :
 Calls Tryz.prog 143 #[v,.func (.func 206) #[] #[]] w fun e w'=>(∃ r:Int,e=.returned (.int .i64 r)/\-1<=r/\(0<=r ↔ xs.any nz=true))/\w=w':=by
 have hle:=ha.le;obtain ⟨ao,cap,rfl,ho⟩:=ha.open;obtain ⟨l,hl⟩:∃ l,l=xs.length:=⟨_,rfl⟩;rw [<- hl];have Hl:=hid hl;have Ho:=hid ho;have hl':l<=9223372036854775807:=by omega
 clear ho hl hle ha;go_enter Tryz.func143,Tryz.ntmps143;go_wp2;go_loop [8] (fun i=>∃ k:Nat,k<=l/\i=.int .i64 k/\Hid ((xs.take k).any nz=false)) (fun i=>l - (intOf i).toNat)
 case atStart=>exact ⟨0,zK _,rfl,rfl⟩
 case round =>
  obtain ⟨k,hk,rfl,hp⟩:=hrel;by_cases hkn:k<l
  . obtain ⟨b,off,rfl,hlt,hc⟩:=Ho.out (by have:=Hl.out;omega)
    obtain ⟨x,hx,hcx,bx⟩:=hc k (by have:=Hl.out;omega);have Hx:=hid hx;have Hb:=hid bx;clear hx hc bx;cases hq:nz x with
    | true =>
     have Hq:=hid hq;clear hq;go_wp2_with (go_at_call 206;refine (clo_nz x _ Hb.out).mono ?_;rw [Hq.out];rintro e w' ⟨rfl,rfl⟩);go_ret;refine ⟨⟨_,rfl,by omega,?_⟩,rfl⟩;have:xs.any nz=true:=List.any_eq_true.2 ⟨x,zC Hx.out,Hq.out⟩;simp [this]
    | false =>
     have Hq:=hid hq;clear hq;go_wp2_with (go_at_call 206;refine (clo_nz x _ Hb.out).mono ?_;rw [Hq.out];rintro e w' ⟨rfl,rfl⟩);go_round
     case rel=>exact ⟨k+1,by omega,by go_num,by show _=false;rw [yAD Hx.out,List.any_append,hp.out];simp [Hq.out]⟩
     case measure=>simp [intOf];omega
  . go_wp2
    go_ret;refine ⟨⟨_,rfl,by omega,?_⟩,rfl⟩;have hq:=hp.out;rw [zH (by have:=Hl.out;omega)] at hq;exact any_end hq
theorem any_nz {xs:List Int} {v:Value} {w:World} {A:Nat} (ha:RdI A w v xs) :
 Calls Tryz.prog 101 #[v,.func (.func 206) #[] #[]] w fun e w'=>e=.returned (.bool (xs.any nz))/\w=w':=by
 have Ha:=hid ha;obtain ⟨ao,cap,rfl⟩:=ha.shape;clear ha;go_enter Tryz.func101,Tryz.ntmps101;go_wp2_with fail;refine (indexFunc_nz Ha.out).mono ?_;rintro e w' ⟨⟨r,rfl,hr,hi⟩,rfl⟩;have Hi:=hid hi;clear hi;go_wp2;go_ret;refine ⟨yAC ?_,rfl⟩;rw [Bool.eq_iff_iff,decide_eq_true_iff];exact Hi.out
theorem bitOf_11 (w:World):Calls Tryz.prog 155 #[.int .i64 11] w fun e w'=>e=.returned (.int .i64 2)/\w=w':=bitOf_c 11 w (.inr (.inl rfl))
theorem numberIn_c {c:List Int} {b off n cap:Nat} {w:World} {A:Nat} (x y:Int) (hx:0<=x) (hxy:x<y) (hy:y<=n) (h12:y - x<=12) (hm:∀ m∈c,0<=m/\m<=4095) (ha:RdI A w (.slice (some ⟨b,off,none⟩) n cap) c) :
 Calls Tryz.prog 191 #[.agg #[.slice (some ⟨b,off,none⟩) n cap],.agg #[.int .i64 x,.int .i64 y]] w fun e w'=>e=.returned (.tuple #[.int .i64 (numR (partC c x y)).1,.bool (numR (partC c x y)).2])/\Below w.heap.size w w':=by
 have hc:=Rds.cap ha;have hcap:=hc.2.2 (by omega);have hb0:Below w.heap.size w ((w.alloc (.cells #[.slice (some ⟨b,off,none⟩) n cap] 69)).alloc (.cells #[.int .i64 x,.int .i64 y] 27)):=((zB _ _).alloc (zA _) _).alloc (by simp) _;have ha1:=Rds.part (Rds.onn ha hb0) hx hxy (by omega);have hmp:∀ m∈partC c x y,0<=m/\m<=4095:=fun m h=>hm m (partC_mem h);have hlen:(partC c x y).length=y.toNat - x.toNat:=by unfold partC;rw [zQ,zI];omega
 obtain ⟨h,hh⟩:∃ h,h=partC c x y:=⟨_,rfl⟩;rw [<- hh] at ha1 hmp hlen |-;obtain ⟨lo,rfl⟩:=zG hx;obtain ⟨hi,rfl⟩:=zG (show 0<=y by omega);simp only [zR] at ha1 hlen;obtain ⟨p,hp⟩:∃ p,p=hi - lo:=⟨_,rfl⟩;rw [<- hp] at hlen ha1;have Ha:=hid ha1;have Hb0:=hid hb0;have Hmp:=hid hmp;have Hlen:=hid hlen;have Hp:=hid hp;have h1:lo<hi:=by omega
 have h2:hi<=n:=by omega
 have h3:hi<=cap:=by omega
 have h4:¬ cap=lo:=by omega
 have h5:lo<=hi:=by omega
 have hp0:0<p:=by omega
 have hp12:p<=12:=by omega
 clear hc ha hb0 ha1 hmp hlen hp hm hh h12 hx hxy hy;go_enter Tryz.func191,Tryz.ntmps191;go_wp2_with fail;rw [<- Hp.out];with_reducible refine (copyInts_c Ha.out (by have:=Hlen.out;omega)).mono ?_
 rintro e w1 ⟨u,rfl,hu,hb⟩;have hb1:=Hb0.out.trans (hb.mono Hb0.out.size);have huw:=hu.mono Hb0.out.size;obtain ⟨g,uc,rfl,hug,huw1⟩:=huw.addr (by have:=Hlen.out;omega);rw [Hlen.out] at huw |-;have Hu:=hid huw;have Hb1:=hid hb1;clear hb hu huw hb1 h1 h2 h3 h4 h5;go_wp2_with fail;with_reducible refine (any_nz Hu.out.rds).mono ?_
 cases hany:h.any nz with
 | false =>
  have E:Hid (numR h=(0,true)):=hid (numR_zero fun m hm=>by have:=List.any_eq_false.1 hany m hm;unfold nz at this;simpa using this);clear hany;rintro e w2 ⟨rfl,rfl⟩;go_wp2;go_ret2;rw [E.out];exact ⟨rfl,Hb1.out⟩
 | true =>
  obtain ⟨a,l,hal⟩:∃ a l,h=a++[l]:=⟨h.dropLast,h.getLast (fun e=>by rw [e] at hany;cases hany),(List.dropLast_concat_getLast _).symm⟩;have hlb:=Hmp.out l (by rw [hal];simp);have hap:a.length+1=p:=by have:=Hlen.out;rw [hal] at this;simpa using this
  have hnz:¬ ∀ m∈a++[l],m=0:=by
   intro hz;obtain ⟨m,hm,hq⟩:=List.any_eq_true.1 hany;rw [hal] at hm;rw [hz m hm] at hq;cases hq
  have hR:=numR_of hlb hnz;rw [<- hal] at hR;have hst:=sgn_of hlb;have hlat:h[p - 1]?=some l:=by rw [hal,<- hap];simp
  have hca:=Own.cellAtQ Hu.out Hlen.out.symm hlat;have hcf:=(Own.cellE (E:=eI) Hu.out Hlen.out.symm (k:=p - 1) (j:=0) (by omega) (by decide)).2;rw [show (p - 1) * eI.sz+0=p - 1 by show (p - 1) * 1+0=p - 1;omega] at hcf;have Hca:=hid hca;have Hlat:=hid hlat;have HR:=hid hR;have Hst:=hid hst;have Hal:=hid hal;have Hap:=hid hap;have hpi:(p:Int) - 1=((p - 1:Nat):Int):=by omega
  have Hpi:=hid hpi;have hx2:∃ q:Bool,sgnB l=q/\bits BinOp.and IntKind.i64 l 2=(if q=true then 2 else 0):=by
   obtain ⟨m,rfl⟩:=zG hlb.1;have hf:=sgn_fin ⟨m,by omega⟩;cases hq:sgnB (m:Int) with
   | true=>exact ⟨true,rfl,(hf.1 hq).1⟩
   | false=>exact ⟨false,rfl,(hf.2 hq).1⟩
  obtain ⟨sg,hsg,hand⟩:=hx2;have Hsg:=hid hsg;have hlst:=hst.1;clear hany hlb hnz hR hal hlat hca hap hst hsg hcf;rintro e w2 ⟨rfl,rfl⟩;go_upto_region 5 with fail;have hpp:p - 1<p:=by omega
  have hca:=cell_regrown Hca.out;cases sg with
  | true =>
   simp only [if_true] at hand;refine wp_region_quiet_below (by kernel_rfl) (by kernel_rfl) ?_;repeat ((with_reducible refine wpQuiet_step (fun K hK=>?_));go_simp;first | ((with_reducible refine hK _ ?_);clear hK K) | (apply Exists.intro;refine ⟨fun _=>?_,hK _ ?_⟩;((first | (go_at_call 155;exact qb_same (bitOf_11 _))));clear hK K))
   refine wpQuiet_nil ?_;intro _ hw';obtain ⟨⟨dq,osq⟩,hw''⟩:=hw';subst hw'';have hbq:=below_regrown w1 dq osq;generalize grow (redrawn w1 dq) osq=wq at hbq |-;have Hu2:=hid (show Own eI 2 w.heap.size wq (.slice (some ⟨g,0,none⟩) p uc) h from Hu.out.below hbq (zA _));have Hb2:=hid (Hb1.out.trans (hbq.mono Hb1.out.size));clear hbq hca Hu Hb1 Hca;go_upto_region 6 with fail;have hca:=Own.cellAtQ Hu2.out Hlen.out.symm (Hlat.out);have hcf2:=(Own.cellE (E:=eI) Hu2.out Hlen.out.symm (k:=p - 1) (j:=0) (by omega) (by decide)).2;rw [show (p - 1) * eI.sz+0=p - 1 by show (p - 1) * 1+0=p - 1;omega] at hcf2;go_cut [] (fun wx=>Own eI 2 w.heap.size wx (.slice (some ⟨g,0,none⟩) p uc) (a++[strip l])/\Below w.heap.size w wx)
   case first =>
    have hsto:=(Own.storeI Hu2.out Hlen.out.symm (k:=p - 1) (by omega) (x:=strip l) (by have:=Hst.out;show -9223372036854775808<=strip l/\strip l<=9223372036854775807;omega)).2.2.1;have hset:h.set (p - 1) (strip l)=a++[strip l]:=by
     rw [Hal.out,List.set_append_right _ _ (by have:=Hap.out;omega),show p - 1 - a.length=0 by have:=Hap.out;omega];rfl
    rw [hset] at hsto;have Hsto:=hid hsto;clear hsto hset;go_region_with (go_at_call 155;refine (bitOf_11 _).mono ?_;rintro e w' ⟨rfl,rfl⟩)
    all_goals
     go_wp2_with fail;go_meet;exact ⟨Hsto.out,(Hb2.out.setCell (p:=⟨g,p - 1,none⟩) (by show w.heap.size<=g;omega) _).drew1⟩
   case rest =>
   obtain ⟨hu3,hb3⟩:=hcut;obtain ⟨L,hL⟩:∃ L,L=a++[strip l]:=⟨_,rfl⟩;rw [<- hL] at hu3;have HR2:=HR.out;rw [<- hL] at HR2;have HRL:=hid HR2;have hLl:p=L.length:=by rw [hL];have:=Hap.out;simp;omega
   have hlL:L[p - 1]?=some (strip l):=by rw [hL,<- Hap.out];simp
   have HLl:=hid hLl;have HlL:=hid hlL;have Hu3:=hid hu3;have Hb3:=hid hb3;clear hca hcf2 Hu2 Hb2 HR HR2 hL hLl hlL hu3 hb3 hand;go_wp2;go_loopw [9,10,44] (fun nv bv i wr=>∃ (k:Nat) (z:Int) (q:Bool),k<=p/\i=.int .i64 k/\nv=.int .i64 z/\bv=.bool q/\Hid (numG (L.take k)=some (z,q))/\Below wc.heap.size wc wr) (fun _ _ i _=>p - (intOf i).toNat)
   case atStart=>exact ⟨0,0,false,zK _,rfl,rfl,rfl,rfl,zB _ _⟩
   case round =>
    obtain ⟨k,z,q,hk,rfl,rfl,rfl,hst,hbb⟩:=hrel;have hzb:=numG_bd _ z q hst.out;have hzl:(10:Int) ^ (L.take k).length<=10 ^ 12:=by
     have hp9:(10:Nat) ^ (L.take k).length<=10 ^ 12:=Nat.pow_le_pow_right (by decide) (by rw [zI];omega);exact_mod_cast hp9
    have hz12:z<=1000000000000:=by
     have h3:(10:Int) ^ 12=1000000000000:=by decide
     omega
    have hz0:0<=z:=hzb.1;clear hzb hzl;have Hu4:=hid (show Own eI 2 w.heap.size wr (.slice (some ⟨g,0,none⟩) p uc) L from Hu3.out.below hbb (zA _));by_cases hkp:k<p
    . obtain ⟨m,hm⟩:∃ m,L[k]?=some m:=⟨L[k]'(by have:=HLl.out;omega),by simp⟩
      have d1:=Own.cellAtQ Hu4.out HLl.out hm;have hsn:=numG_snoc hm;rw [hst.out] at hsn;have Hsn:=hid hsn;have hdb:=dig_bd m;obtain ⟨hdb1,hdb2⟩:=hdb;clear hm hsn;by_cases hm0:m=0
      . have q1:(m == 0)=true:=by simpa using hm0
        have Hm0:=hid hm0;cases q with
        | false =>
         have E:=hid (show numG (L.take (k+1))=some (z,false) by rw [Hsn.out];show (if m=0/\false=false then _ else _)=_;rw [if_pos ⟨hm0,rfl⟩]);clear hm0;go_wp2_with fail;with_reducible refine (digitOf_c m _).mono ?_
         rintro e w' ⟨rfl,rfl⟩;clear d1;go_wp2;go_roundw
         case rel=>exact ⟨k+1,z,false,by omega,by go_num,rfl,rfl,E.out,hbb⟩
         case measure=>simp [intOf];omega
        | true =>
         have E:Hid (numG L=none):=hid (numG_fail (k:=k+1) (by rw [Hsn.out];show (if m=0/\true=false then _ else _)=_;rw [if_neg (fun h=>by cases h.2),if_pos (by rw [hm0,dig_zero];decide)]));have hd:digI m<0:=by rw [hm0,dig_zero];decide
         clear hm0;go_wp2_with fail;with_reducible refine (digitOf_c m _).mono ?_
         rintro e w' ⟨rfl,rfl⟩;clear d1;go_wp2;go_ret2;have hR9:=HRL.out;rw [E.out] at hR9;rw [hR9];exact ⟨rfl,Hb3.out.trans (hbb.mono Hb3.out.size)⟩
      . have q1:(m == 0)=false:=by simpa using hm0
        have Hm0:=hid hm0;by_cases hd:digI m<0
        . have E:Hid (numG L=none):=hid (numG_fail (k:=k+1) (by rw [Hsn.out];show (if m=0/\q=false then _ else _)=_;rw [if_neg (fun h=>hm0 h.1),if_pos hd]))
          clear hm0;go_wp2_with fail;with_reducible refine (digitOf_c m _).mono ?_
          rintro e w' ⟨rfl,rfl⟩;clear d1;go_wp2;go_ret2;have hR9:=HRL.out;rw [E.out] at hR9;rw [hR9];exact ⟨rfl,Hb3.out.trans (hbb.mono Hb3.out.size)⟩
        . have E:=hid (show numG (L.take (k+1))=some (10 * z+digI m,true) by rw [Hsn.out];show (if m=0/\q=false then _ else _)=_;rw [if_neg (fun h=>hm0 h.1),if_neg hd])
          clear hm0;go_wp2_with fail;with_reducible refine (digitOf_c m _).mono ?_
          rintro e w' ⟨rfl,rfl⟩;clear d1;go_wp2;go_roundw
          case rel=>exact ⟨k+1,10 * z+digI m,true,by omega,by go_num,rfl,rfl,E.out,hbb⟩
          case measure=>simp [intOf];omega
    . obtain rfl:k=p:=by omega
      have hg:=hst.out;rw [zH (by have:=HLl.out;omega)] at hg;have hR9:=HRL.out;rw [hg] at hR9;simp only at hR9;have HR9:=hid hR9;have hca:=Own.cellAtQ Hu4.out HLl.out HlL.out;have Hbf:=hid (Hb3.out.trans (hbb.mono Hb3.out.size));clear hg hR9 hst;cases q with
      | false =>
       go_wp2;go_ret2;rw [HR9.out,if_pos (.inl (by trivial))];exact ⟨rfl,Hbf.out⟩
      | true =>
       by_cases s0:strip l=0
       . have q0:(strip l == 0)=true:=by simpa using s0
         have S0:=hid s0;clear s0;go_wp2;go_ret2;rw [HR9.out,if_pos (.inr (.inl S0.out))];exact ⟨rfl,Hbf.out⟩
       . have q0:(strip l == 0)=false:=by simpa using s0
         have S0:=hid s0;clear s0;by_cases z0:z=0
         . have q9:(z == 0)=true:=by simpa using z0
           have Z0:=hid z0;clear z0;go_wp2;go_ret2;rw [HR9.out,if_pos (.inr (.inr ⟨Hsg.out,Z0.out⟩))];exact ⟨rfl,Hbf.out⟩
         . have q9:(z == 0)=false:=by simpa using z0
           have Z0:=hid z0;clear z0;go_wp2;go_ret2;rw [HR9.out,if_neg (fun h=>by rcases h with h | h | h;cases h;exact S0.out h;exact Z0.out h.2),if_pos Hsg.out];exact ⟨rfl,Hbf.out⟩
  | false =>
   simp only [if_false,Bool.false_eq_true] at hand;refine wp_region_quiet_below (by kernel_rfl) (by kernel_rfl) ?_;repeat ((with_reducible refine wpQuiet_step (fun K hK=>?_));go_simp;first | ((with_reducible refine hK _ ?_);clear hK K) | (apply Exists.intro;refine ⟨fun _=>?_,hK _ ?_⟩;((first | (go_at_call 155;exact qb_same (bitOf_11 _))));clear hK K))
   refine wpQuiet_nil ?_;intro _ hw';obtain ⟨⟨dq,osq⟩,hw''⟩:=hw';subst hw'';have hbq:=below_regrown w1 dq osq;generalize grow (redrawn w1 dq) osq=wq at hbq |-;have Hu2:=hid (show Own eI 2 w.heap.size wq (.slice (some ⟨g,0,none⟩) p uc) h from Hu.out.below hbq (zA _));have Hb2:=hid (Hb1.out.trans (hbq.mono Hb1.out.size));clear hbq hca Hu Hb1 Hca;go_upto_region 6 with fail;have hca:=Own.cellAtQ Hu2.out Hlen.out.symm (Hlat.out);have hcf2:=(Own.cellE (E:=eI) Hu2.out Hlen.out.symm (k:=p - 1) (j:=0) (by omega) (by decide)).2;rw [show (p - 1) * eI.sz+0=p - 1 by show (p - 1) * 1+0=p - 1;omega] at hcf2;go_cut [] (fun wx=>Own eI 2 w.heap.size wx (.slice (some ⟨g,0,none⟩) p uc) (a++[strip l])/\Below w.heap.size w wx)
   case first =>
    have hsto:=(Own.storeI Hu2.out Hlen.out.symm (k:=p - 1) (by omega) (x:=strip l) (by have:=Hst.out;show -9223372036854775808<=strip l/\strip l<=9223372036854775807;omega)).2.2.1;have hset:h.set (p - 1) (strip l)=a++[strip l]:=by
     rw [Hal.out,List.set_append_right _ _ (by have:=Hap.out;omega),show p - 1 - a.length=0 by have:=Hap.out;omega];rfl
    rw [hset] at hsto;have Hsto:=hid hsto;clear hsto hset;go_region_with (go_at_call 155;refine (bitOf_11 _).mono ?_;rintro e w' ⟨rfl,rfl⟩)
    all_goals
     go_wp2_with fail;go_meet;exact ⟨Hsto.out,(Hb2.out.setCell (p:=⟨g,p - 1,none⟩) (by show w.heap.size<=g;omega) _).drew1⟩
   case rest =>
   obtain ⟨hu3,hb3⟩:=hcut;obtain ⟨L,hL⟩:∃ L,L=a++[strip l]:=⟨_,rfl⟩;rw [<- hL] at hu3;have HR2:=HR.out;rw [<- hL] at HR2;have HRL:=hid HR2;have hLl:p=L.length:=by rw [hL];have:=Hap.out;simp;omega
   have hlL:L[p - 1]?=some (strip l):=by rw [hL,<- Hap.out];simp
   have HLl:=hid hLl;have HlL:=hid hlL;have Hu3:=hid hu3;have Hb3:=hid hb3;clear hca hcf2 Hu2 Hb2 HR HR2 hL hLl hlL hu3 hb3 hand;go_wp2;go_loopw [9,10,44] (fun nv bv i wr=>∃ (k:Nat) (z:Int) (q:Bool),k<=p/\i=.int .i64 k/\nv=.int .i64 z/\bv=.bool q/\Hid (numG (L.take k)=some (z,q))/\Below wc.heap.size wc wr) (fun _ _ i _=>p - (intOf i).toNat)
   case atStart=>exact ⟨0,0,false,zK _,rfl,rfl,rfl,rfl,zB _ _⟩
   case round =>
    obtain ⟨k,z,q,hk,rfl,rfl,rfl,hst,hbb⟩:=hrel;have hzb:=numG_bd _ z q hst.out;have hzl:(10:Int) ^ (L.take k).length<=10 ^ 12:=by
     have hp9:(10:Nat) ^ (L.take k).length<=10 ^ 12:=Nat.pow_le_pow_right (by decide) (by rw [zI];omega);exact_mod_cast hp9
    have hz12:z<=1000000000000:=by
     have h3:(10:Int) ^ 12=1000000000000:=by decide
     omega
    have hz0:0<=z:=hzb.1;clear hzb hzl;have Hu4:=hid (show Own eI 2 w.heap.size wr (.slice (some ⟨g,0,none⟩) p uc) L from Hu3.out.below hbb (zA _));by_cases hkp:k<p
    . obtain ⟨m,hm⟩:∃ m,L[k]?=some m:=⟨L[k]'(by have:=HLl.out;omega),by simp⟩
      have d1:=Own.cellAtQ Hu4.out HLl.out hm;have hsn:=numG_snoc hm;rw [hst.out] at hsn;have Hsn:=hid hsn;have hdb:=dig_bd m;obtain ⟨hdb1,hdb2⟩:=hdb;clear hm hsn;by_cases hm0:m=0
      . have q1:(m == 0)=true:=by simpa using hm0
        have Hm0:=hid hm0;cases q with
        | false =>
         have E:=hid (show numG (L.take (k+1))=some (z,false) by rw [Hsn.out];show (if m=0/\false=false then _ else _)=_;rw [if_pos ⟨hm0,rfl⟩]);clear hm0;go_wp2_with fail;with_reducible refine (digitOf_c m _).mono ?_
         rintro e w' ⟨rfl,rfl⟩;clear d1;go_wp2;go_roundw
         case rel=>exact ⟨k+1,z,false,by omega,by go_num,rfl,rfl,E.out,hbb⟩
         case measure=>simp [intOf];omega
        | true =>
         have E:Hid (numG L=none):=hid (numG_fail (k:=k+1) (by rw [Hsn.out];show (if m=0/\true=false then _ else _)=_;rw [if_neg (fun h=>by cases h.2),if_pos (by rw [hm0,dig_zero];decide)]));have hd:digI m<0:=by rw [hm0,dig_zero];decide
         clear hm0;go_wp2_with fail;with_reducible refine (digitOf_c m _).mono ?_
         rintro e w' ⟨rfl,rfl⟩;clear d1;go_wp2;go_ret2;have hR9:=HRL.out;rw [E.out] at hR9;rw [hR9];exact ⟨rfl,Hb3.out.trans (hbb.mono Hb3.out.size)⟩
      . have q1:(m == 0)=false:=by simpa using hm0
        have Hm0:=hid hm0;by_cases hd:digI m<0
        . have E:Hid (numG L=none):=hid (numG_fail (k:=k+1) (by rw [Hsn.out];show (if m=0/\q=false then _ else _)=_;rw [if_neg (fun h=>hm0 h.1),if_pos hd]))
          clear hm0;go_wp2_with fail;with_reducible refine (digitOf_c m _).mono ?_
          rintro e w' ⟨rfl,rfl⟩;clear d1;go_wp2;go_ret2;have hR9:=HRL.out;rw [E.out] at hR9;rw [hR9];exact ⟨rfl,Hb3.out.trans (hbb.mono Hb3.out.size)⟩
        . have E:=hid (show numG (L.take (k+1))=some (10 * z+digI m,true) by rw [Hsn.out];show (if m=0/\q=false then _ else _)=_;rw [if_neg (fun h=>hm0 h.1),if_neg hd])
          clear hm0;go_wp2_with fail;with_reducible refine (digitOf_c m _).mono ?_
          rintro e w' ⟨rfl,rfl⟩;clear d1;go_wp2;go_roundw
          case rel=>exact ⟨k+1,10 * z+digI m,true,by omega,by go_num,rfl,rfl,E.out,hbb⟩
          case measure=>simp [intOf];omega
    . obtain rfl:k=p:=by omega
      have hg:=hst.out;rw [zH (by have:=HLl.out;omega)] at hg;have hR9:=HRL.out;rw [hg] at hR9;simp only at hR9;have HR9:=hid hR9;have hca:=Own.cellAtQ Hu4.out HLl.out HlL.out;have Hbf:=hid (Hb3.out.trans (hbb.mono Hb3.out.size));clear hg hR9 hst;cases q with
      | false =>
       go_wp2;go_ret2;rw [HR9.out,if_pos (.inl (by trivial))];exact ⟨rfl,Hbf.out⟩
      | true =>
       by_cases s0:strip l=0
       . have q0:(strip l == 0)=true:=by simpa using s0
         have S0:=hid s0;clear s0;go_wp2;go_ret2;rw [HR9.out,if_pos (.inr (.inl S0.out))];exact ⟨rfl,Hbf.out⟩
       . have q0:(strip l == 0)=false:=by simpa using s0
         have S0:=hid s0;clear s0;go_wp2;go_ret2;rw [HR9.out,if_neg (fun h=>by rcases h with h | h | h;cases h;exact S0.out h;have h7:=h.1;rw [Hsg.out] at h7;cases h7),if_neg (by rw [Hsg.out];decide)];exact ⟨rfl,Hbf.out⟩
theorem l02Bit_d (k:Nat) (w:World) (h:k<10):Calls Tryz.prog 148 #[.int .i64 (k:Int)] w fun e w'=>e=.returned (.int .i64 (4 * 2 ^ k))/\w=w':=by
 have h1:=l02Bit_c (k:Int) w ⟨by omega,by omega⟩;rw [zR] at h1;exact h1
theorem yBC (m:Int) (w:World):Calls Tryz.prog 174 #[.int .i64 m] w fun e w'=>e=.returned (.int .i64 (digI m))/\w=w':=by
 go_enter Tryz.func174,Tryz.ntmps174;go_wp2;go_loop [3] (fun i=>∃ k:Nat,k<=10/\i=.int .i64 k/\Hid (∀ d,d<k->(4 * 2 ^ d:Int) ≠ m)) (fun i=>10 - (intOf i).toNat)
 case atStart=>exact ⟨0,by decide,rfl,fun j hj=>absurd hj (Nat.not_lt_zero _)⟩
 case round =>
  obtain ⟨k,hk,rfl,hp⟩:=hrel;by_cases hkn:k<10
  . have hki:(k:Int)<=9:=by omega
    have hcd:=fun w=>l02Bit_d k w hkn;obtain ⟨z,hz⟩:∃ z:Int,z=4 * 2 ^ k:=⟨_,rfl⟩;rw [<- hz] at hcd;have Hcd:=hid hcd;have Hz:=hid hz;clear hz hcd;cases hq:(m == z) with
    | true =>
     have Hq:=hid (beq_iff_eq.1 hq);go_wp2_with fail;with_reducible refine (Hcd.out _).mono ?_
     rintro e w' ⟨rfl,rfl⟩;go_wp2;go_ret;exact ⟨yAJ (dig_found hkn (by rw [<- Hz.out];exact Hq.out.symm)).symm,rfl⟩
    | false =>
     have Hq:Hid (m ≠ z):=hid (by simpa using hq);go_wp2_with fail;with_reducible refine (Hcd.out _).mono ?_
     rintro e w' ⟨rfl,rfl⟩;go_wp2;go_round
     case rel=>exact ⟨k+1,by omega,by go_num,fun j hj=>by rcases Nat.lt_succ_iff_lt_or_eq.1 hj with hj | rfl;exact hp.out j hj;rw [<- Hz.out];exact fun h=>Hq.out h.symm⟩
     case measure=>simp [intOf];omega
  . obtain rfl:k=10:=by omega
    go_wp2;go_ret;exact ⟨yAJ (dig_none hp.out).symm,rfl⟩
theorem numR_snoc {a:List Int} {l:Int}:numR (a++[l])=match numG a with
 | none=>(0,false)
 | some (n,b) =>
  if sgnB l=true then (if digI (l - 2)<0 then (0,false) else (-(10 * n+digI (l - 2)),decide (10 * n+digI (l - 2) ≠ 0)))
  else if l=0/\b=false then (n,true) else if digI l<0 then (0,false) else (10 * n+digI l,true):=by
 unfold numR;rw [List.getLast?_append,List.getLast?_singleton];simp only [Option.some_or,List.dropLast_concat];cases numG a <;> rfl
theorem l03Number_c {h:List Int} {v:Value} {w:World} {A:Nat} (h0:0<h.length) (h12:h.length<=12) (hm:∀ m∈h,0<=m/\m<=4095) (ha:RdI A w v h) :
 Calls Tryz.prog 160 #[v] w fun e w'=>e=.returned (.tuple #[.int .i64 (numR h).1,.bool (numR h).2])/\w=w':=by
 obtain ⟨ao,cap,rfl,hop⟩:=RdI.open ha;obtain ⟨p,hp⟩:∃ p,p=h.length:=⟨_,rfl⟩;obtain ⟨a,l,hal⟩:∃ a l,h=a++[l]:=⟨h.dropLast,h.getLast (fun e=>by rw [e] at h0;cases h0),(List.dropLast_concat_getLast _).symm⟩;have hap:a.length+1=p:=by rw [hp,hal];simp
 have hR:=numR_snoc (a:=a) (l:=l);rw [<- hal] at hR;have hat:∀ k,k<p - 1->h.take (k+1)=a.take (k+1):=by
  intro k hk;rw [hal,List.take_append_of_le_length (by omega)]
 have hta:h.take (p - 1)=a:=by rw [hal,List.take_append_of_le_length (by omega),zH (by omega)]
 have hlat:h[p - 1]?=some l:=by rw [hal,<- hap];simp
 rw [<- hp] at hop h0 h12 |-;have Hp:=hid hp;have Ho:=hid hop;have Hm:=hid hm;have HR:=hid hR;have Hat:=hid hat;have Hta:=hid hta;have Hlat:=hid hlat;have Hap:=hid hap;clear hp hop hm hR hat hta hlat hap hal ha;go_enter Tryz.func160,Tryz.ntmps160;go_wp2;go_loop [4,5,6,7] (fun nv bv sv i=>∃ (k:Nat) (z:Int) (q s:Bool),k<=p/\i=.int .i64 k/\nv=.int .i64 z/\bv=.bool q/\sv=.bool s/\Hid (0<=z/\z<=1000000000000) /\
  Hid ((k<p/\s=false/\numG (h.take k)=some (z,q))\/(k=p/\numR h=(if s=true then (-z,decide (z ≠ 0)) else (z,true))))) (fun _ _ _ i=>p - (intOf i).toNat)
 case atStart=>exact ⟨0,0,false,false,zK _,rfl,rfl,rfl,rfl,hid ⟨by decide,by decide⟩,hid (.inl ⟨h0,rfl,rfl⟩)⟩
 case round =>
  obtain ⟨k,z,q,s,hk,rfl,rfl,rfl,rfl,hz,hst⟩:=hrel;by_cases hkp:k<p
  . obtain ⟨_,rfl,hg⟩:k<p/\s=false/\numG (h.take k)=some (z,q):=hst.out.resolve_right (fun e=>by omega)
    obtain ⟨b,off,rfl,hlt,hc⟩:=Ho.out (by omega);obtain ⟨m,hmk,hcm,bm⟩:=hc k hkp;have hmb:=Hm.out m (zC hmk);have hzb:=numG_bd _ z q hg;have hlk:(h.take k).length=k:=by rw [zI];have:=Hp.out;omega
    have hzl:(10:Int) ^ (h.take k).length<=10 ^ 11:=by
     have hp9:(10:Nat) ^ (h.take k).length<=10 ^ 11:=Nat.pow_le_pow_right (by decide) (by omega);exact_mod_cast hp9
    have hz11:z<100000000000:=by
     have h3:(10:Int) ^ 11=100000000000:=by decide
     omega
    have hz0:0<=z:=hzb.1;have hsn:=numG_snoc hmk;rw [hg] at hsn;have Hsn:=hid hsn;have Hg:=hid hg;have hm1:0<=m:=hmb.1;have hm2:m<=4095:=hmb.2;have hb1:=dig_bd m;obtain ⟨hd1,hd2⟩:=hb1;clear hst hc bm hzb hzl hsn hg hlk hz;by_cases hlast:k=p - 1
    . have hml:m=l:=by rw [hlast] at hmk;have:=Hlat.out;rw [hmk] at this;exact zD this
      have Hml:=hid hml;have hgt:numG a=some (z,q):=by rw [<- Hta.out,<- hlast];exact Hg.out
      have HR2:=HR.out;rw [hgt] at HR2;simp only at HR2;rw [<- hml] at HR2;have HR3:=hid HR2;have q0:((k:Int) == (p:Int) - 1)=true:=by rw [beq_iff_eq];omega
      have Hl:=hid hlast;clear hlast hml hgt HR2 hmk;have hx2:∃ g:Bool,sgnB m=g/\bits BinOp.and IntKind.i64 m 2=(if g=true then 2 else 0)/\(g=true->2<=m):=by
       obtain ⟨j,rfl⟩:=zG hm1;have hf:=sgn_fin ⟨j,by omega⟩;cases hg:sgnB (j:Int) with
       | true=>exact ⟨true,rfl,(hf.1 hg).1,fun _=>by have:=(hf.1 hg).2.2;simp only at this;omega⟩
       | false=>exact ⟨false,rfl,(hf.2 hg).1,fun h=>by cases h⟩
      obtain ⟨g,hsg,hand,hge⟩:=hx2;have Hsg:=hid hsg;clear hsg;cases g with
      | true =>
       simp only [if_true] at hand;have hm3:2<=m:=hge rfl;have hb2:=dig_bd (m - 2);obtain ⟨hd3,hd4⟩:=hb2;clear hge;rw [Hsg.out] at HR3;by_cases e2:m=2
       . subst e2
         have E:Hid (numR h=(0,false)):=hid (by rw [HR3.out,if_pos rfl,if_pos (by decide +kernel)]);clear hm1 hm2 hm3 hd1 hd2 hd3 hd4;cases q;all_goals
          go_wp2_with fail;with_reducible refine (yBC 0 _).mono ?_
          rw [dig_zero];rintro e w' ⟨rfl,rfl⟩;go_wp2;go_ret2;rw [E.out];exact ⟨rfl,rfl⟩
       have q2:(m - 2 == 0)=false:=by rw [beq_eq_false_iff_ne];omega
       clear e2;by_cases hd:digI (m - 2)<0
       . have E:Hid (numR h=(0,false)):=hid (by rw [HR3.out,if_pos rfl,if_pos hd])
         go_wp2_with fail;with_reducible refine (yBC (m - 2) _).mono ?_
         rintro e w' ⟨rfl,rfl⟩;go_wp2;go_ret2;rw [E.out];exact ⟨rfl,rfl⟩
       . have E:Hid (numR h=(-(10 * z+digI (m - 2)),decide (10 * z+digI (m - 2) ≠ 0))):=hid (by rw [HR3.out,if_pos rfl,if_neg hd])
         go_wp2_with fail;with_reducible refine (yBC (m - 2) _).mono ?_
         rintro e w' ⟨rfl,rfl⟩;go_wp2;go_round
         case rel=>exact ⟨k+1,10 * z+digI (m - 2),true,true,by omega,by go_num,rfl,rfl,rfl,hid ⟨by omega,by omega⟩,hid (.inr ⟨by have:=Hl.out;omega,by rw [E.out,if_pos rfl]⟩)⟩
         case measure=>simp [intOf];omega
      | false =>
       simp only [Bool.false_eq_true,if_false] at hand;clear hge;rw [Hsg.out] at HR3;by_cases hz9:m=0/\q=false
       . obtain ⟨h1,h2⟩:=hz9
         subst h2;have E:Hid (numR h=(z,true)):=hid (by rw [HR3.out,if_neg (by decide),if_pos ⟨h1,rfl⟩]);have q1:(m == 0)=true:=by simpa using h1
         clear h1;go_wp2;go_round
         case rel=>exact ⟨k+1,z,false,false,by omega,by go_num,rfl,rfl,rfl,hid ⟨by omega,by omega⟩,hid (.inr ⟨by have:=Hl.out;omega,by rw [E.out,if_neg (by decide)]⟩)⟩
         case measure=>simp [intOf];omega
       . have qq:(q=true/\m=0)\/(m == 0)=false:=by
          by_cases h0:m=0
          . exact .inl ⟨by cases q with | true=>rfl | false=>exact absurd ⟨h0,rfl⟩ hz9,h0⟩
          . exact .inr (by simpa using h0)
         by_cases hd:digI m<0
         . have E:Hid (numR h=(0,false)):=hid (by rw [HR3.out,if_neg (by decide),if_neg hz9,if_pos hd])
           clear hz9;rcases qq with ⟨rfl,rfl⟩ | qq
           . go_wp2_with fail
             with_reducible refine (yBC 0 _).mono ?_
             rw [dig_zero];rintro e w' ⟨rfl,rfl⟩;go_wp2;go_ret2;rw [E.out];exact ⟨rfl,rfl⟩
           . go_wp2_with fail
             with_reducible refine (yBC m _).mono ?_
             rintro e w' ⟨rfl,rfl⟩;go_wp2;go_ret2;rw [E.out];exact ⟨rfl,rfl⟩
         . have E:Hid (numR h=(10 * z+digI m,true)):=hid (by rw [HR3.out,if_neg (by decide),if_neg hz9,if_neg hd])
           clear hz9;rcases qq with ⟨rfl,rfl⟩ | qq
           . exact absurd (by rw [dig_zero];decide) hd
           . go_wp2_with fail
             with_reducible refine (yBC m _).mono ?_
             rintro e w' ⟨rfl,rfl⟩;go_wp2;go_round
             case rel=>exact ⟨k+1,10 * z+digI m,true,false,by omega,by go_num,rfl,rfl,rfl,hid ⟨by omega,by omega⟩,hid (.inr ⟨by have:=Hl.out;omega,by rw [E.out,if_neg (by decide)]⟩)⟩
             case measure=>simp [intOf];omega
    . have q0:((k:Int) == (p:Int) - 1)=false:=by rw [beq_eq_false_iff_ne];omega
      have Hl:=hid hlast;have hkl:k<p - 1:=by omega
      have Hkl:=hid hkl;clear hlast hmk hkl;by_cases hz9:m=0/\q=false
      . obtain ⟨h1,h2⟩:=hz9
        subst h2;have E:Hid (numG (h.take (k+1))=some (z,false)):=hid (by rw [Hsn.out];show (if m=0/\false=false then some (z,false) else _)=_;rw [if_pos ⟨h1,rfl⟩]);have q1:(m == 0)=true:=by simpa using h1
        clear h1;go_wp2;go_round
        case rel=>exact ⟨k+1,z,false,false,by omega,by go_num,rfl,rfl,rfl,hid ⟨by omega,by omega⟩,hid (.inl ⟨by have:=Hkl.out;omega,rfl,E.out⟩)⟩
        case measure=>simp [intOf];omega
      . have qq:(q=true/\m=0)\/(m == 0)=false:=by
         by_cases h0:m=0
         . exact .inl ⟨by cases q with | true=>rfl | false=>exact absurd ⟨h0,rfl⟩ hz9,h0⟩
         . exact .inr (by simpa using h0)
        by_cases hd:digI m<0
        . have E:Hid (numR h=(0,false)):=hid (by
           have h1:numG (h.take (k+1))=none:=by rw [Hsn.out];show (if m=0/\q=false then _ else if digI m<0 then none else _)=_;rw [if_neg hz9,if_pos hd]
           rw [Hat.out k Hkl.out] at h1;rw [HR.out,numG_fail h1])
          clear hz9;rcases qq with ⟨rfl,rfl⟩ | qq
          . go_wp2_with fail
            with_reducible refine (yBC 0 _).mono ?_
            rw [dig_zero];rintro e w' ⟨rfl,rfl⟩;go_wp2;go_ret2;rw [E.out];exact ⟨rfl,rfl⟩
          . go_wp2_with fail
            with_reducible refine (yBC m _).mono ?_
            rintro e w' ⟨rfl,rfl⟩;go_wp2;go_ret2;rw [E.out];exact ⟨rfl,rfl⟩
        . have E:Hid (numG (h.take (k+1))=some (10 * z+digI m,true)):=hid (by rw [Hsn.out];show (if m=0/\q=false then _ else if digI m<0 then none else _)=_;rw [if_neg hz9,if_neg hd])
          clear hz9;rcases qq with ⟨rfl,rfl⟩ | qq
          . exact absurd (by rw [dig_zero];decide) hd
          . go_wp2_with fail
            with_reducible refine (yBC m _).mono ?_
            rintro e w' ⟨rfl,rfl⟩;go_wp2;go_round
            case rel=>exact ⟨k+1,10 * z+digI m,true,false,by omega,by go_num,rfl,rfl,rfl,hid ⟨by omega,by omega⟩,hid (.inl ⟨by have:=Hkl.out;omega,rfl,E.out⟩)⟩
            case measure=>simp [intOf];omega
  . obtain ⟨rfl,hr⟩:k=p/\numR h=(if s=true then (-z,decide (z ≠ 0)) else (z,true)):=hst.out.resolve_left (fun e=>by omega)
    have hzz:=hz.out;obtain ⟨hz0,hz1⟩:=hzz;have Hr:=hid hr;clear hst hr hz;cases s with
    | true =>
     go_wp2;go_ret2;rw [Hr.out];exact ⟨by by_cases hz:z=0 <;> simp [hz],rfl⟩
    | false =>
     go_wp2;go_ret2;rw [Hr.out];exact ⟨rfl,rfl⟩
end Go.Proofs.YtmindpfmgnnieaaGreatDoor
