/- Lemmas on the way to the law FnTop. No condition. -/
import Derived.Test.YtmindpfmgnnieaaGreatDoorTP13
import Derived.Test.YtmindpfmgnnieaaGreatDoorTP11
namespace Go.Proofs.YtmindpfmgnnieaaGreatDoor
set_option maxHeartbeats 4000000
set_option linter.unusedSimpArgs false
open Lib (hid)
open Go.ChangeShapes Go.WideShapes Go.ChangeAt Go.RowKit
set_option linter.unusedVariables false
set_option maxRecDepth 100000
abbrev charsB:ByteArray:=⟨#[32,38,65,66,67,68,69,70,71,72,73,45,74,75,76,77,78,79,80,81,82,47,83,84,85,86,87,88,89,90,48,49,50,51,52,53,54,55,56,57]⟩
def codeI (c:Int):Int :=
 if c=32 then 0 else if c=38 then 1 else if c=45 then 2 else if c=47 then 12 else if 48<=c/\c<=57 then 4 * 2 ^ (c - 48).toNat
 else if 65<=c/\c<=73 then 1+4 * 2 ^ (c - 64).toNat else if 74<=c/\c<=82 then 2+4 * 2 ^ (c - 73).toNat else if 83<=c/\c<=90 then 4+4 * 2 ^ (c - 81).toNat else -1
def chI (c:Int):Bool:=decide (0<=codeI c)
def chS (s:ByteArray):Bool:=(bytesI s).all chI
theorem chS_no {s:ByteArray} {k:Nat} (hk:k<s.size) (h:chI (s[k].toNat:Int)=false):chS s=false:=by
 unfold chS;rw [List.all_eq_false];exact ⟨_,zC (bytesI_at s k hk),by rw [h];decide⟩
theorem codeI_no {c:Int} (h1:¬ c=32) (h2:¬ c=38) (h3:¬ c=45) (h4:¬ c=47) (h5:¬ (48<=c/\c<=57)) (h6:¬ (65<=c/\c<=73)) (h7:¬ (74<=c/\c<=82)) (h8:¬ (83<=c/\c<=90)):codeI c=-1:=by
 unfold codeI;rw [if_neg h1,if_neg h2,if_neg h3,if_neg h4,if_neg h5,if_neg h6,if_neg h7,if_neg h8]
theorem ch_all:∀ n:Fin 256,decide (0<=Lib.indexByte charsB.data.toList (n.val.toUInt8))=chI (n.val:Int):=by decide +kernel
theorem isCharacter_c (b:UInt8) (w:World):Calls Tryz.prog 126 #[.int .u8 (b.toNat:Int)] w fun e w'=>e=.returned (.bool (chI (b.toNat:Int)))/\w=w':=by
 have h:=ch_all ⟨b.toNat,b.toNat_lt⟩;have hb:((b.toNat:Int).toNat).toUInt8=b:=by simp
 have hb2:(b.toNat).toUInt8=b:=by simp
 simp only [hb2] at h;have H:=hid h;clear h;go_enter Tryz.func126,Tryz.ntmps126;go_wp2_with fail;with_reducible refine (Tryz.strings_IndexByte charsB (b.toNat:Int) _).mono ?_
 rintro e w' ⟨rfl,rfl⟩;rw [hb];clear hb hb2;go_wp2;go_ret;exact ⟨yAC H.out,rfl⟩
theorem areCharacters_c (s:ByteArray) (w:World) (hs:s.size<=9223372036854775807):Calls Tryz.prog 87 #[.string s] w fun e w'=>e=.returned (.bool (chS s))/\w=w':=by
 go_enter Tryz.func87,Tryz.ntmps87;go_wp2;go_loop [3] (fun i=>∃ k:Nat,k<=s.size/\i=.int .i64 k/\Hid (((bytesI s).take k).all chI=true)) (fun i=>s.size - (intOf i).toNat)
 case atStart=>exact ⟨0,zK _,rfl,rfl⟩
 case round =>
  obtain ⟨k,hk,rfl,hp⟩:=hrel;by_cases hkn:k<s.size
  . have Hc:=hid (bytesI_at s k hkn)
    cases c1:chI (s[k].toNat:Int) with
    | true =>
     have C1:=hid c1;clear c1;go_wp2_with (go_at_call 126;refine (isCharacter_c s[k] _).mono ?_;rw [C1.out];rintro e w' ⟨rfl,rfl⟩);go_round
     case rel=>exact ⟨k+1,by omega,by go_num,by show _=true;rw [yAD Hc.out,List.all_append,hp.out];simp [C1.out]⟩
     case measure=>simp [intOf];omega
    | false =>
     have C1:=hid c1;clear c1;go_wp2_with (go_at_call 126;refine (isCharacter_c s[k] _).mono ?_;rw [C1.out];rintro e w' ⟨rfl,rfl⟩);go_ret;exact ⟨yAC (chS_no hkn C1.out).symm,rfl⟩
  . go_wp2
    go_ret;have:=hp.out;rw [zH (by rw [bytesI_length];omega)] at this;exact ⟨yAC this.symm,rfl⟩
theorem l02Bit_c (n:Int) (w:World) (h:0<=n/\n<=9):Calls Tryz.prog 148 #[.int .i64 n] w fun e w'=>e=.returned (.int .i64 (4 * 2 ^ n.toNat))/\w=w':=by
 have hh:n=0\/n=1\/n=2\/n=3\/n=4\/n=5\/n=6\/n=7\/n=8\/n=9:=by omega
 clear h;rcases hh with rfl | rfl | rfl | rfl | rfl | rfl | rfl | rfl | rfl | rfl;all_goals
  go_enter Tryz.func148,Tryz.ntmps148;go_wp2_with (go_at_call 142;refine (l00In_yes _ _ _ _ (by omega) (by omega)).mono ?_;rintro e w' ⟨rfl,rfl⟩);go_ret;exact ⟨yAJ (by decide),rfl⟩
theorem l03Code_c (c:Int) (w:World) (h:0<=c/\c<=255):Calls Tryz.prog 105 #[.int .u8 c] w fun e w'=>e=.returned (.int .i64 (codeI c))/\w=w':=by
 by_cases h0:c=32\/c=38\/c=45\/c=47
 . clear h
   rcases h0 with rfl | rfl | rfl | rfl;all_goals
    go_enter Tryz.func105,Tryz.ntmps105;go_wp2_with (go_at_call 148;refine (l02Bit_c _ _ (by omega)).mono ?_;rintro e w' ⟨rfl,rfl⟩);go_ret;exact ⟨yAJ (by decide),rfl⟩
 by_cases h5:48<=c/\c<=57
 . have hh:c=48\/c=49\/c=50\/c=51\/c=52\/c=53\/c=54\/c=55\/c=56\/c=57:=by omega
   clear h h0 h5;rcases hh with rfl | rfl | rfl | rfl | rfl | rfl | rfl | rfl | rfl | rfl;all_goals
    go_enter Tryz.func105,Tryz.ntmps105;go_wp2_with (first | (go_at_call 149;refine (l01Digit_yes _ _ (by omega)).mono ?_;rintro e w' ⟨rfl,rfl⟩) | (go_at_call 148;refine (l02Bit_c _ _ (by omega)).mono ?_;rintro e w' ⟨rfl,rfl⟩));go_ret;exact ⟨yAJ (by decide),rfl⟩
 by_cases h65:65<=c/\c<=73
 . have hh:c=65\/c=66\/c=67\/c=68\/c=69\/c=70\/c=71\/c=72\/c=73:=by omega
   clear h h0 h5 h65;rcases hh with rfl | rfl | rfl | rfl | rfl | rfl | rfl | rfl | rfl;all_goals
    go_enter Tryz.func105,Tryz.ntmps105;go_wp2_with (first | (go_at_call 149;refine (l01Digit_no _ _ (by omega)).mono ?_;rintro e w' ⟨rfl,rfl⟩) | (go_at_call 148;refine (l02Bit_c _ _ (by omega)).mono ?_;rintro e w' ⟨rfl,rfl⟩));go_ret;exact ⟨yAJ (by decide),rfl⟩
 by_cases h74:74<=c/\c<=82
 . have hh:c=74\/c=75\/c=76\/c=77\/c=78\/c=79\/c=80\/c=81\/c=82:=by omega
   clear h h0 h5 h74;rcases hh with rfl | rfl | rfl | rfl | rfl | rfl | rfl | rfl | rfl;all_goals
    go_enter Tryz.func105,Tryz.ntmps105;go_wp2_with (first | (go_at_call 149;refine (l01Digit_no _ _ (by omega)).mono ?_;rintro e w' ⟨rfl,rfl⟩) | (go_at_call 148;refine (l02Bit_c _ _ (by omega)).mono ?_;rintro e w' ⟨rfl,rfl⟩));go_ret;exact ⟨yAJ (by decide),rfl⟩
 by_cases h83:83<=c/\c<=90
 . have hh:c=83\/c=84\/c=85\/c=86\/c=87\/c=88\/c=89\/c=90:=by omega
   clear h h0 h5 h83;rcases hh with rfl | rfl | rfl | rfl | rfl | rfl | rfl | rfl;all_goals
    go_enter Tryz.func105,Tryz.ntmps105;go_wp2_with (first | (go_at_call 149;refine (l01Digit_no _ _ (by omega)).mono ?_;rintro e w' ⟨rfl,rfl⟩) | (go_at_call 148;refine (l02Bit_c _ _ (by omega)).mono ?_;rintro e w' ⟨rfl,rfl⟩));go_ret;exact ⟨yAJ (by decide),rfl⟩
 have H5:=hid h5;rw [codeI_no (fun e=>h0 (.inl e)) (fun e=>h0 (.inr (.inl e))) (fun e=>h0 (.inr (.inr (.inl e)))) (fun e=>h0 (.inr (.inr (.inr e)))) h5 h65 h74 h83];have e1:(c == 32)=false:=by simpa using fun e=>h0 (.inl e)
 have e2:(c == 38)=false:=by simpa using fun e=>h0 (.inr (.inl e))
 have e3:(c == 45)=false:=by simpa using fun e=>h0 (.inr (.inr (.inl e)))
 have e4:(c == 47)=false:=by simpa using fun e=>h0 (.inr (.inr (.inr e)))
 clear h0 h5;by_cases g1:c<65
 . clear h65 h74 h83
   have g2:c<74:=by omega
   have g3:c<83:=by omega
   go_enter Tryz.func105,Tryz.ntmps105;go_wp2_with (first | (go_at_call 149;refine (l01Digit_no _ _ H5.out).mono ?_;rintro e w' ⟨rfl,rfl⟩));go_ret;exact ⟨rfl,rfl⟩
 . have g2:91<=c:=by omega
   clear h65 h74 h83;go_enter Tryz.func105,Tryz.ntmps105;go_wp2_with (first | (go_at_call 149;refine (l01Digit_no _ _ H5.out).mono ?_;rintro e w' ⟨rfl,rfl⟩));go_ret;exact ⟨rfl,rfl⟩
def txC (s:ByteArray) (a b:Int):Int:=if (s.size:Int)=b - a then (if chS s=true then 0 else 7) else 2
theorem l09Text_c (s:ByteArray) (a b:Int) (w:World) (hs:s.size<=9223372036854775807) (hf:0<=a/\a<b/\b<=1000) :
 Calls Tryz.prog 173 #[.string s,.agg #[.int .i64 a,.int .i64 b]] w fun e w'=>e=.returned (.int .i64 (txC s a b))/\Below w.heap.size w w':=by
 by_cases he:(s.size:Int)=b - a
 . obtain ⟨R,hR⟩:∃ R,txC s a b=R:=⟨_,rfl⟩
   have e1:R=if chS s=true then 0 else 7:=by rw [<- hR];exact if_pos he
   have hq:((s.size:Int) != b - a)=false:=by simpa using he
   rw [hR];have E1:=hid e1;clear he e1 hR;go_enter Tryz.func173,Tryz.ntmps173;go_wp2;go_loopw [5] (fun i wr=>∃ k:Nat,k<=s.size/\i=.int .i64 k/\Hid (((bytesI s).take k).all chI=true)/\Below w.heap.size w wr) (fun i _=>s.size - (intOf i).toNat)
   case atStart=>exact ⟨0,zK _,rfl,rfl,(zB _ _).alloc (zA _) _⟩
   case round =>
    obtain ⟨k,hk,rfl,hp,hbb⟩:=hrel;by_cases hkn:k<s.size
    . have Hc:=hid (bytesI_at s k hkn)
      have hbd:0<=(s[k].toNat:Int)/\(s[k].toNat:Int)<=255:=by have:=s[k].toNat_lt;omega
      have Hbd:=hid hbd;cases c1:chI (s[k].toNat:Int) with
      | true =>
       have c2:¬ codeI (s[k].toNat:Int)<0:=by have:=of_decide_eq_true c1;omega
       have C1:=hid c1;clear c1 hbd;go_wp2_with (go_at_call 105;refine (l03Code_c _ _ Hbd.out).mono ?_;rintro e w' ⟨rfl,rfl⟩);go_roundw
       case rel=>exact ⟨k+1,by omega,by go_num,by show _=true;rw [yAD Hc.out,List.all_append,hp.out];simp [C1.out],hbb⟩
       case measure=>simp [intOf];omega
      | false =>
       have c2:codeI (s[k].toNat:Int)<0:=by have:=of_decide_eq_false c1;omega
       have C1:=hid c1;clear c1 hbd;go_wp2_with (go_at_call 105;refine (l03Code_c _ _ Hbd.out).mono ?_;rintro e w' ⟨rfl,rfl⟩);go_ret;refine ⟨yAJ ?_,hbb⟩;rw [E1.out,chS_no hkn C1.out];rfl
    . go_wp2
      go_ret;have:=hp.out;rw [zH (by rw [bytesI_length];omega)] at this;refine ⟨yAJ ?_,hbb⟩;rw [E1.out,show chS s=true from this];rfl
 . have e1:txC s a b=2:=if_neg he
   have hq:((s.size:Int) != b - a)=true:=by simpa using he
   rw [e1];clear he e1;go_enter Tryz.func173,Tryz.ntmps173;go_wp2;go_ret;exact ⟨rfl,(zB _ _).alloc (zA _) _⟩
end Go.Proofs.YtmindpfmgnnieaaGreatDoor
