/- Lemmas on the way to the law FnTop. No condition. -/
namespace Go.Proofs.YtmindpfmgnnieaaGreatDoor.Sym
set_option linter.unusedSimpArgs false
variable {α:Type}
structure Ord (lt:α->α->Prop) (S:List α):Prop where
 trans:∀ a∈S,∀ b∈S,∀ c∈S,lt a b->lt b c->lt a c
theorem pairwise_get {lt:α->α->Prop} {l:List α} (h:l.Pairwise lt) {i j:Nat} {x y:α} (hi:l[i]?=some x) (hj:l[j]?=some y) (hij:i<j):lt x y:=by
 obtain ⟨hi',rfl⟩:=List.getElem?_eq_some_iff.1 hi;obtain ⟨hj',rfl⟩:=List.getElem?_eq_some_iff.1 hj;exact (List.pairwise_iff_getElem.1 h) i j hi' hj' hij
theorem mem_at {l:List α} {x:α} (h:x∈l):∃ i:Nat,l[i]?=some x:=by
 obtain ⟨i,hi,rfl⟩:=List.mem_iff_getElem.1 h;exact ⟨i,by simp [hi]⟩
theorem head_tail {lt:α->α->Prop} {l:List α} (h:l.Pairwise lt) (s:Nat):∀ u∈l.take s,∀ v∈l.drop s,lt u v:=by
 have h2:=h;rw [<- List.take_append_drop s l] at h2;exact (List.pairwise_append.1 h2).2.2
theorem lt_all {lt:α->α->Prop} {X Y:List α} (hO:Ord lt (X++Y)) (hX:X.Pairwise lt) (hY:Y.Pairwise lt) {s t:Nat}
 (hA:s=0\/Y.length<=t\/∃ x y,X[s - 1]?=some x/\Y[t]?=some y/\lt x y):∀ u∈X.take s,∀ v∈Y.drop t,lt u v:=by
 intro u hu v hv;obtain ⟨i,hi⟩:=mem_at hu;obtain ⟨j,hj⟩:=mem_at hv;rw [List.getElem?_take] at hi;rw [List.getElem?_drop] at hj;have his:i<s:=by
  rcases Nat.lt_or_ge i s with h | h
  . exact h
  . rw [if_neg (by omega)] at hi;cases hi
 rw [if_pos his] at hi;have hjl:=(List.getElem?_eq_some_iff.1 hj).1;rcases hA with h | h | ⟨x,y,hx,hy,hxy⟩
 . omega
 . omega
 . have mu:u∈X++Y:=List.mem_append.2 (.inl (List.mem_of_getElem? hi))
   have mv:v∈X++Y:=List.mem_append.2 (.inr (List.mem_of_getElem? hj));have mx:x∈X++Y:=List.mem_append.2 (.inl (List.mem_of_getElem? hx));have my:y∈X++Y:=List.mem_append.2 (.inr (List.mem_of_getElem? hy));have h1:u=x\/lt u x:=by
    rcases Nat.lt_or_ge i (s - 1) with h | h
    . exact .inr (pairwise_get hX hi hx h)
    . have:i=s - 1:=by omega
      subst this;rw [hi] at hx;exact .inl (Option.some.inj hx)
   have h2:y=v\/lt y v:=by
    rcases Nat.eq_zero_or_pos j with h | h
    . subst h;rw [Nat.add_zero,hy] at hj;exact .inl (Option.some.inj hj)
    . exact .inr (pairwise_get hY hy hj (by omega))
   have h3:lt u y:=by
    rcases h1 with rfl | h1
    . exact hxy
    . exact hO.trans u mu x mx y my h1 hxy
   rcases h2 with rfl | h2
   . exact h3
   . exact hO.trans u mu y my v mv h3 h2
theorem Ord.swap {lt:α->α->Prop} {X Y:List α} (h:Ord lt (X++Y)):Ord lt (Y++X) :=
 ⟨fun a ha b hb c hc=>h.trans a (by simp only [List.mem_append] at *;exact ha.symm) b (by simp only [List.mem_append] at *;exact hb.symm) c (by simp only [List.mem_append] at *;exact hc.symm)⟩
theorem halves {lt:α->α->Prop} {X Y Z1 Z2:List α} (hO:Ord lt (X++Y)) (hX:X.Pairwise lt) (hY:Y.Pairwise lt) {s t:Nat}
 (hA:s=0\/Y.length<=t\/∃ x y,X[s - 1]?=some x/\Y[t]?=some y/\lt x y)
 (hB:t=0\/X.length<=s\/∃ y x,Y[t - 1]?=some y/\X[s]?=some x/\lt y x)
 (p1:Z1.Perm (X.take s++Y.take t)) (p2:Z2.Perm (X.drop s++Y.drop t)) (h1:Z1.Pairwise lt) (h2:Z2.Pairwise lt) :
 (Z1++Z2).Pairwise lt/\(Z1++Z2).Perm (X++Y):=by
 constructor
 . refine List.pairwise_append.2 ⟨h1,h2,fun u hu v hv=>?_⟩
   have hu':=p1.mem_iff.1 hu;have hv':=p2.mem_iff.1 hv;rcases List.mem_append.1 hu' with hu' | hu' <;> rcases List.mem_append.1 hv' with hv' | hv'
   . exact head_tail hX s u hu' v hv'
   . exact lt_all hO hX hY hA u hu' v hv'
   . exact lt_all hO.swap hY hX hB u hu' v hv'
   . exact head_tail hY t u hu' v hv'
 . refine (p1.append p2).trans ?_
   have e:(X.take s++Y.take t++(X.drop s++Y.drop t)).Perm (X.take s++X.drop s++(Y.take t++Y.drop t)):=by
    rw [List.append_assoc,List.append_assoc];refine List.Perm.append_left _ ?_;rw [<- List.append_assoc,<- List.append_assoc];exact List.Perm.append_right _ List.perm_append_comm
   rw [List.take_append_drop,List.take_append_drop] at e;exact e
theorem sorted_unique {lt:α->α->Prop} (hirr:∀ a b,lt a b->lt b a->False):∀ {A B:List α},A.Perm B->A.Pairwise lt->B.Pairwise lt->A=B
 | [],B,p,_,_=>by rw [List.nil_perm.1 p]
 | a :: A,[],p,_,_=>absurd p.symm (by intro h;have:=h.length_eq;simp at this)
 | a :: A,b :: B,p,hA,hB=>by
  have e:a=b:=by
   rcases List.mem_cons.1 (p.mem_iff.1 (List.mem_cons_self ..)) with h | h
   . exact h
   . rcases List.mem_cons.1 (p.mem_iff.2 (List.mem_cons_self ..)) with h' | h'
     . exact h'.symm
     . exact absurd ((List.pairwise_cons.1 hB).1 a h) (fun q=>hirr _ _ q ((List.pairwise_cons.1 hA).1 b h'))
  subst e;rw [sorted_unique hirr ((List.perm_cons a).1 p) (List.pairwise_cons.1 hA).2 (List.pairwise_cons.1 hB).2]
def swapR (xs:List α) (a b:Nat):Nat->List α
 | 0=>xs
 | n+1=>match (swapR xs a b n)[a+n]?,(swapR xs a b n)[b+n]? with
  | some x,some y=>((swapR xs a b n).set (a+n) y).set (b+n) x
  | _,_=>swapR xs a b n
theorem swapR_length (xs:List α) (a b:Nat):∀ n,(swapR xs a b n).length=xs.length:=by
 intro n;induction n with
 | zero=>rfl
 | succ n ih =>
  unfold swapR;split
  . rw [List.length_set,List.length_set,ih]
  . exact ih
theorem swapR_succ {xs:List α} {a b n:Nat} {x y:α} (hx:(swapR xs a b n)[a+n]?=some x) (hy:(swapR xs a b n)[b+n]?=some y):swapR xs a b (n+1)=((swapR xs a b n).set (a+n) y).set (b+n) x:=by
 show (match (swapR xs a b n)[a+n]?,(swapR xs a b n)[b+n]? with
  | some x,some y=>((swapR xs a b n).set (a+n) y).set (b+n) x
  | _,_=>swapR xs a b n)=_
 rw [hx,hy]
theorem swapR_at {xs:List α} {a b:Nat}:∀ {n:Nat},a+n<=b->b+n<=xs.length->∀ k,(swapR xs a b n)[k]?=if a<=k/\k<a+n then xs[k - a+b]? else if b<=k/\k<b+n then xs[k - b+a]? else xs[k]?:=by
 intro n;induction n with
 | zero=>intro _ _ k;rw [if_neg (by omega),if_neg (by omega)];rfl
 | succ n ih =>
  intro h1 h2 k;have ih':=ih (by omega) (by omega);have ha:=ih' (a+n);rw [if_neg (by omega),if_neg (by omega)] at ha;have hb:=ih' (b+n);rw [if_neg (by omega),if_neg (by omega)] at hb;have hl:=swapR_length xs a b n;obtain ⟨x,hx⟩:∃ x,xs[a+n]?=some x:=⟨_,List.getElem?_eq_getElem (by omega)⟩;obtain ⟨y,hy⟩:∃ y,xs[b+n]?=some y:=⟨_,List.getElem?_eq_getElem (by omega)⟩;rw [hx] at ha;rw [hy] at hb;rw [swapR_succ ha hb];by_cases e1:k=b+n
  . subst e1
    rw [List.getElem?_set_self (by rw [List.length_set];omega),if_neg (by omega),if_pos (by omega),show b+n - b+a=a+n by omega,hx]
  . rw [List.getElem?_set_ne (fun h=>e1 h.symm)]
    by_cases e2:k=a+n
    . subst e2
      rw [List.getElem?_set_self (by omega),if_pos (by omega),show a+n - a+b=b+n by omega,hy]
    . rw [List.getElem?_set_ne (fun h=>e2 h.symm),ih' k]
      by_cases c1:a<=k/\k<a+n
      . rw [if_pos c1,if_pos (show a<=k/\k<a+(n+1) by omega)]
      . rw [if_neg c1,if_neg (show ¬ (a<=k/\k<a+(n+1)) by omega)]
        by_cases c2:b<=k/\k<b+n
        . rw [if_pos c2,if_pos (show b<=k/\k<b+(n+1) by omega)]
        . rw [if_neg c2,if_neg (show ¬ (b<=k/\k<b+(n+1)) by omega)]
theorem swapR_parts {P A M B S:List α} (h:A.length=B.length):swapR (P++(A++(M++(B++S)))) P.length (P.length+A.length+M.length) A.length=P++(B++(M++(A++S))):=by
 apply List.ext_getElem?;intro k;rw [swapR_at (by omega) (by simp only [List.length_append];omega) k];simp only [List.getElem?_append];repeat' split
 all_goals first
  | rfl
  | (exfalso;omega)
  | (congr 1;omega)
theorem turn_left {P A B S:List α} (h:B.length<=A.length):swapR (P++(A++(B++S))) P.length (P.length+A.length) B.length=(P++B)++(A.drop B.length++(A.take B.length++S)):=by
 have h1:(A.take B.length).length=B.length:=by rw [List.length_take];omega
 have e:=swapR_parts (P:=P) (A:=A.take B.length) (M:=A.drop B.length) (B:=B) (S:=S) h1;rw [h1,List.length_drop,show P.length+B.length+(A.length - B.length)=P.length+A.length by omega] at e;rw [<- List.append_assoc (A.take B.length),List.take_append_drop] at e;rw [e,List.append_assoc]
theorem turn_right {P A B S:List α} (h:A.length<=B.length):swapR (P++(A++(B++S))) P.length (P.length+B.length) A.length=P++(B.drop (B.length - A.length)++(B.take (B.length - A.length)++(A++S))):=by
 have h1:A.length=(B.drop (B.length - A.length)).length:=by rw [List.length_drop];omega
 have e:=swapR_parts (P:=P) (A:=A) (M:=B.take (B.length - A.length)) (B:=B.drop (B.length - A.length)) (S:=S) h1;rw [List.length_take,show P.length+A.length+min (B.length - A.length) B.length=P.length+B.length by omega] at e;rw [<- List.append_assoc (B.take _),List.take_append_drop] at e;exact e
theorem pw_get {lt:α->α->Prop} {l:List α} (h:l.Pairwise lt) {i j:Nat} {x y:α} (hi:l[i]?=some x) (hj:l[j]?=some y) (hij:i<j):lt x y:=by
 obtain ⟨hi',rfl⟩:=List.getElem?_eq_some_iff.1 hi;obtain ⟨hj',rfl⟩:=List.getElem?_eq_some_iff.1 hj;exact (List.pairwise_iff_getElem.1 h) i j hi' hj' hij
theorem mem_at' {l:List α} {x:α} (h:x∈l):∃ i:Nat,l[i]?=some x:=by
 obtain ⟨i,hi,rfl⟩:=List.mem_iff_getElem.1 h;exact ⟨i,by simp [hi]⟩
theorem place {lt:α->α->Prop} (htr:∀ a b c,lt a b->lt b c->lt a c) {Y:List α} (hY:Y.Pairwise lt) {x:α} {i:Nat}
 (hA:i=0\/∃ u,Y[i - 1]?=some u/\lt u x) (hB:Y.length<=i\/∃ v,Y[i]?=some v/\lt x v):(∀ u∈Y.take i,lt u x)/\∀ v∈Y.drop i,lt x v:=by
 constructor
 . intro u hu
   obtain ⟨j,hj⟩:=mem_at' hu;rw [List.getElem?_take] at hj;have hji:j<i:=by
    rcases Nat.lt_or_ge j i with h | h
    . exact h
    . rw [if_neg (by omega)] at hj;cases hj
   rw [if_pos hji] at hj;rcases hA with h | ⟨z,hz,hzx⟩
   . omega
   . rcases Nat.lt_or_ge j (i - 1) with h | h
     . exact htr _ _ _ (pw_get hY hj hz h) hzx
     . have:j=i - 1:=by omega
       subst this;rw [hj] at hz;cases hz;exact hzx
 . intro v hv
   obtain ⟨j,hj⟩:=mem_at' hv;rw [List.getElem?_drop] at hj;have hjl:=(List.getElem?_eq_some_iff.1 hj).1;rcases hB with h | ⟨z,hz,hxz⟩
   . omega
   . rcases Nat.eq_zero_or_pos j with h | h
     . subst h;rw [Nat.add_zero] at hj;rw [hj] at hz;cases hz;exact hxz
     . exact htr _ _ _ hxz (pw_get hY hz hj (by omega))
def shiftR (xs:List α) (a:Nat):Nat->List α
 | 0=>xs
 | n+1=>match (shiftR xs a n)[a+n]?,(shiftR xs a n)[a+n+1]? with
  | some x,some y=>((shiftR xs a n).set (a+n) y).set (a+n+1) x
  | _,_=>shiftR xs a n
theorem shiftR_parts {P Y S:List α} {x:α}:∀ n,n<=Y.length->shiftR (P++(x :: (Y++S))) P.length n=P++(Y.take n++(x :: (Y.drop n++S))):=by
 intro n;induction n with
 | zero=>intro _;rfl
 | succ n ih =>
  intro hn;have ih':=ih (by omega);have e0:(Y.take n).length=n:=by rw [List.length_take];omega
  obtain ⟨y,hy⟩:∃ y,Y[n]?=some y:=⟨_,List.getElem?_eq_getElem (by omega)⟩;have hd:Y.drop n=y :: Y.drop (n+1):=by
   have:=List.drop_eq_getElem_cons (l:=Y) (i:=n) (by omega);rw [this];congr 1;have h2:=List.getElem?_eq_getElem (l:=Y) (i:=n) (by omega);rw [hy] at h2;exact (Option.some.inj h2).symm
  have ht:Y.take (n+1)=Y.take n++[y]:=by rw [List.take_add_one,hy];rfl
  unfold shiftR;rw [ih'];have g1:(P++(Y.take n++(x :: (Y.drop n++S))))[P.length+n]?=some x:=by
   rw [List.getElem?_append_right (by omega),List.getElem?_append_right (by omega)];rw [show P.length+n - P.length - (Y.take n).length=0 by omega];rfl
  have g2:(P++(Y.take n++(x :: (Y.drop n++S))))[P.length+n+1]?=some y:=by
   rw [List.getElem?_append_right (by omega),List.getElem?_append_right (by omega)];rw [show P.length+n+1 - P.length - (Y.take n).length=1 by omega,hd];rfl
  rw [g1,g2];simp only;rw [hd,ht];apply List.ext_getElem?;intro k;simp only [List.getElem?_set,List.length_set,List.length_append,List.length_cons,List.getElem?_append,e0,List.length_nil];by_cases c1:P.length+n+1=k
  . subst c1
    rw [if_pos rfl,if_pos (by omega),if_neg (by omega),if_neg (by omega),show P.length+n+1 - P.length - (n+(0+1))=0 by omega];rfl
  . rw [if_neg c1]
    by_cases c2:P.length+n=k
    . subst c2
      rw [if_pos rfl,if_pos (by omega),if_neg (by omega),if_pos (by omega),if_neg (by omega),show P.length+n - P.length - n=0 by omega];rfl
    . rw [if_neg c2]
      by_cases c3:k<P.length
      . rw [if_pos c3,if_pos c3]
      . rw [if_neg c3,if_neg c3]
        by_cases c4:k - P.length<n
        . rw [if_pos c4,if_pos (by omega),if_pos c4]
        . rw [if_neg c4,if_neg (by omega)]
          obtain ⟨m,hm⟩:∃ m,k=P.length+n+2+m:=⟨k - (P.length+n+2),by omega⟩;subst hm;rw [show P.length+n+2+m - P.length - n=m+1+1 by omega,show P.length+n+2+m - P.length - (n+(0+1))=m+1 by omega];rfl
theorem set_app (P:List α) {L:List α} (n:Nat) (v:α):(P++L).set (P.length+n) v=P++L.set n v:=by
 rw [List.set_append_right _ _ (by omega),Nat.add_sub_cancel_left]
theorem drop_at {Z:List α} {t:Nat} {y:α} (hy:Z[t]?=some y):Z.drop t=y :: Z.drop (t+1):=by
 obtain ⟨h,rfl⟩:=List.getElem?_eq_some_iff.1 hy;exact List.drop_eq_getElem_cons h
theorem take_at {Z:List α} {t:Nat} {y:α} (hy:Z[t]?=some y):Z.take (t+1)=Z.take t++[y]:=by
 rw [List.take_add_one,hy];rfl
theorem len_at {Z:List α} {t:Nat} {y:α} (hy:Z[t]?=some y):(Z.take t).length=t:=by
 obtain ⟨h,_⟩:=List.getElem?_eq_some_iff.1 hy;rw [List.length_take];omega
theorem swap_left {P Z S:List α} {x y:α} {t:Nat} (hy:Z[t]?=some y) :
 ((P++(Z.take (t+1)++(x :: (Z.drop (t+1)++S)))).set (P.length+(t+1)) y).set (P.length+t) x=P++(Z.take t++(x :: (Z.drop t++S))):=by
 rw [set_app,set_app,take_at hy,drop_at hy,List.append_assoc];have h1:=set_app (Z.take t) (L:=[y]++(x :: (Z.drop (t+1)++S))) 1 y;rw [len_at hy] at h1;rw [h1];have h2:=set_app (Z.take t) (L:=([y]++(x :: (Z.drop (t+1)++S))).set 1 y) 0 x;rw [len_at hy,Nat.add_zero t] at h2;rw [h2];rfl
theorem swap_right {P Z S:List α} {x y:α} {t:Nat} (hy:Z[t]?=some y) :
 ((P++(Z.take t++(x :: (Z.drop t++S)))).set (P.length+t) y).set (P.length+(t+1)) x=P++(Z.take (t+1)++(x :: (Z.drop (t+1)++S))):=by
 rw [set_app,set_app,take_at hy,drop_at hy,List.append_assoc];have h1:=set_app (Z.take t) (L:=x :: (y :: Z.drop (t+1)++S)) 0 y;rw [len_at hy,Nat.add_zero t] at h1;rw [h1];have h2:=set_app (Z.take t) (L:=(x :: (y :: Z.drop (t+1)++S)).set 0 y) 1 x;rw [len_at hy] at h2;rw [h2];rfl
theorem at_mid {P Z S:List α} {x:α} {t:Nat} (ht:t<=Z.length):(P++(Z.take t++(x :: (Z.drop t++S))))[P.length+t]?=some x:=by
 have e:(Z.take t).length=t:=by rw [List.length_take];omega
 rw [List.getElem?_append_right (by omega),List.getElem?_append_right (by omega),show P.length+t - P.length - (Z.take t).length=0 by omega];rfl
theorem at_left {P Z S:List α} {x y:α} {t:Nat} (hy:Z[t]?=some y):(P++(Z.take (t+1)++(x :: (Z.drop (t+1)++S))))[P.length+t]?=some y:=by
 have e:=len_at hy;rw [take_at hy,List.append_assoc,List.getElem?_append_right (by omega),List.getElem?_append_right (by omega),show P.length+t - P.length - (Z.take t).length=0 by omega];rfl
theorem at_right {P Z S:List α} {x y:α} {t:Nat} (hy:Z[t]?=some y):(P++(Z.take t++(x :: (Z.drop t++S))))[P.length+(t+1)]?=some y:=by
 have e:=len_at hy;rw [drop_at hy,List.getElem?_append_right (by omega),List.getElem?_append_right (by omega),show P.length+(t+1) - P.length - (Z.take t).length=1 by omega];rfl
theorem insert_pw {lt:α->α->Prop} {x:α} {Y:List α} {i:Nat} (hY:Y.Pairwise lt) (h1:∀ u∈Y.take i,lt u x) (h2:∀ v∈Y.drop i,lt x v) :
 (Y.take i++x :: Y.drop i).Pairwise lt:=by
 have h3:=hY;rw [<- List.take_append_drop i Y] at h3;obtain ⟨a,b,c⟩:=List.pairwise_append.1 h3;refine List.pairwise_append.2 ⟨a,List.pairwise_cons.2 ⟨h2,b⟩,fun u hu v hv=>?_⟩;rcases List.mem_cons.1 hv with rfl | hv
 . exact h1 u hu
 . exact c u hu v hv
theorem insert_perm {x:α} {Y:List α} {i:Nat}:(Y.take i++x :: Y.drop i).Perm (Y++[x]):=by
 refine List.perm_middle.trans ?_;rw [List.take_append_drop];exact (List.perm_append_comm (l₁:=[x]) (l₂:=Y))
end Go.Proofs.YtmindpfmgnnieaaGreatDoor.Sym
