import Derived.Test.YtmdocplknceilaaGreatNWAJ
set_option linter.all false
namespace Go.Proofs.YtmdocplknceilaaGreat
section
open Classical
section
variable {G:dx}{s s' s1:PS}{ex ex':Nm->Prop}{k j i:Nat}{th th':Th}{n m:Nm}{r:aG}{c B:Int}{x:aT}{a:aC}
theorem BQ{r:jX}{L e:List Int}(b:mQ a r L e):(r.what=2->L.length=e.length+1)/\(r.what≠2->e=L):=by
 rcases b with⟨d,_,_,rfl⟩|⟨_,⟨_,d,_,rfl⟩|⟨_,d,rfl⟩|⟨_,d,_,rfl,rfl⟩|⟨_,d,rfl⟩|⟨_,d,_,rfl⟩⟩
 ·exact⟨λb=>by omega,λ_=>rfl⟩
 ·exact⟨λb=>by omega,λ_=>rfl⟩
 ·exact⟨λ_=>by simp,λb=>absurd d b⟩
 ·exact⟨λb=>by omega,λ_=>rfl⟩
 ·exact⟨λ_=>by simp,λb=>absurd d b⟩
 ·exact⟨λb=>by omega,λ_=>rfl⟩
theorem nj(q:∀l,(s.dq l).L= []->(s'.dq l).L= [])(u:s.queue= []->s'.queue= [])(l:Nat):bh s' l->bh s l:=by
 rintro (d|⟨e,g⟩)
 ·exact .inl λb=>d (q l b)
 ·exact .inr ⟨e,λb=>g (u b)⟩
theorem aH.pot_dstep(F:aH G s ex)(V:s.ths[k]?=some th)(a6:th.act=some (j,i))(a4:oP s j i x a s1)(th':Th):
 ∃e,mQ a (pstep x.d s.C a) x.L e/\(∀l,bh (s1.setTh k th') l->bh s l)/\(∀l,l≠k->((s1.setTh k th').th l)=s.th l)/\(s1.setTh k th').th k=th'/\
  (pot c B (s1.setTh k th')<=pot c B s-fh s k+fh (s1.setTh k th') k+c*((e.length:Int)-x.L.length)-2*(((pstep x.d s.C a).C.length:Int)-s.C.length))/\
  (s1.setTh k th').act j i=(pstep x.d s.C a).a/\((s1.setTh k th').dq j).L=e/\(∀l,l≠j->(s1.setTh k th').dq l=s.dq l)/\(e=x.L->∀l,(bh (s1.setTh k th') l↔bh s l)):=by
 obtain⟨w,a2,e,ws',b,ai,S,ad⟩:=a4;have X:=sX S;have W:k<s.ths.length:=(gS V).1;generalize pstep x.d s.C a=r at*;obtain⟨y,D⟩:=eX (⟨x.d,ws',x.acts.set i r.a,x.on,e,x.own+((r.C.length:Int)-s.C.length),x.P,x.c0⟩ :aT);rw[<-D] at b;obtain⟨s2,A⟩:=eX (s1.setTh k th');rw[<-A];have z:s2.ds=s.ds.set j y:=by rw[A,b];rfl
 have E:s2.ths=s.ths.set k th':=by rw[A,b];rfl
 have a1:s2.T=s.T:=by rw[A,b];rfl
 have Q:s2.queue=s.queue:=by rw[A,b];rfl
 have R:y.L=e:=by rw[D]
 have H:s2.dq j=y:=pF w z;have K:∀l,l≠j->s2.dq l=s.dq l:=λl u=>lO z u
 have a0:∀l,(s.dq l).L= []->(s2.dq l).L= []:=by
  intro l q
  by_cases g:l=j
  ·subst g
   rw[H,R];rw[PS.dq_eq w] at q;rw[q] at X;exact List.eq_nil_iff_forall_not_mem.2 λv hv=>by simpa using X v hv
  ·rw[K l g];exact q
 have N:∀l,bh s2 l->bh s l:=nj a0 (λb=>by rw[Q];exact b)
 have ab:=mu (s:=s) (s':=s2) (k:=k) (by rw[E,yI]) W λl u g=>
  F.wTh_le u (gz E g) (F.act_other u w z (λa7 a8 a3 a5=>by
   rw[D];simp only;rw[cJ (λZ=>?_)]
   ·exact a5
   ·subst Z
    exact F.acts k l th _ (j,a7) (λb=>g b.symm) V (fH (d:=mN) u) a6 a3)) (N l)
 have a9:=qn (c:=c) (y:=y) w
 have al:mj c y=mj c x+c*((e.length:Int)-x.L.length)-2*((r.C.length:Int)-s.C.length):=by
  rw[D];simp only[mj];rw[Int.mul_sub c];omega
 refine⟨e,S,N,λl u=>gz E u,jA W E,?_,?_,by rw[H,R],K,λY l=>⟨N l,?_⟩⟩
 ·unfold pot
  rw[z,a1,Q];omega
 ·exact kQ (x:=y) (by rw[z];exact bD (gS w).1) (by rw[D];exact du a2)
 ·refine nj (s:=s2) (s':=s) (λl q=>?_) (λb=>by rw[<-Q];exact b) l
  by_cases g:l=j
  ·subst g
   rw[H,R,Y] at q;rw[PS.dq_eq w];exact q
  ·rw[K l g] at q;exact q
theorem DH(y:aT)(d:s.ds[j]?=some x)(b:s'.ds=s.ds.set j y)(e:y.acts=x.acts++ [a]):s'.act j x.acts.length=a:=
 kQ (x:=y) (by rw[b];exact bD (gS d).1) (by rw[e];simp)
theorem aH.pot_newAct(E:aH G s ex)(u:s.ths[k]?=some th)(H:th.act=none){y:aT}{b:aC}{kk:Nat}(q:s.ds[j]?=some x)(S:y.acts=x.acts++ [b])(V:y.L=x.L)(a8:mj c y=mj c x)(a1:kk≠1)(Z:kk=2->bA b=9)
 (w:s'= {s with ds:=s.ds.set j y,ths:=s.ths.set k {th with act:=some (j,x.acts.length),kn:=kk}}) (a2:kk≠2->¬bh s k):sO c B s k s'\/th.run=true:=by
 have Q:k<s.ths.length:=(gS u).1;have g:s'.ds=s.ds.set j y:=by rw[w]
 have z:s'.ths=s.ths.set k {th with act:=some (j,x.acts.length),kn:=kk}:=by rw[w]
 have X:s'.T=s.T:=by rw[w]
 have R:s'.queue=s.queue:=by rw[w]
 have a0:s'.dq j=y:=pF q g
 have W:∀l,(s'.dq l).L=(s.dq l).L:=by
  intro l
  by_cases D:l=j
  ·subst D;rw[a0,V,PS.dq_eq q]
  ·rw[lO g D]
 have C:∀l,bh s' l↔bh s l:=by intro l;unfold bh;rw[W,R]
 have a6:=mu (s:=s) (s':=s') (k:=k) (by rw[z,yI]) Q λl v d=>
  E.wTh_le v (gz z d) (E.act_other v q g (λa9 a4 _ N=>by rw[S,yi (gS N).1];exact N)) (C l).1
 have a5:=qn (c:=c) (y:=y) q;have F:fh s k=if bh s k then 10 else 0:=iH (by rw[PS.th_eq u];exact H)
 have a3:s'.th k= {th with act:=some (j,x.acts.length),kn:=kk}:=jA Q z;have Y:s'.act j x.acts.length=b:=DH y q g S
 have A:fh s' k=if bh s k then(if kk=2 then bA b else 10+bA b) else 0:=by
  unfold fh;rw[a3];simp only[Y,yb a1,C]
  by_cases e:bh s k
  ·simp only[yf e]
  ·simp only[yb e];split<;>rfl
 cases hr:th.run with
 |true=>exact .inr rfl
 |false=>
  refine .inl ?_
  have a7:pot c B s'<=pot c B s-fh s k+fh s' k:=by
   unfold pot;rw[g,X,R];omega
  by_cases e:bh s k
  ·have P:kk=2:=by
    by_cases d:kk=2
    ·exact d
    ·exact absurd e (a2 d)
   refine .inl ?_;rw[yf e] at F A;rw[yf P,Z P] at A;omega
  ·rw[yb e] at F A
   refine .inr ⟨by omega,?_,λl v K=>?_⟩
   ·rintro (d|⟨d,_⟩|d)
    ·rw[PS.th_eq u,hr] at d;cases d
    ·rw[PS.th_eq u,H] at d;exact d rfl
    ·exact e d
   ·unfold jx at K ⊢
    rw[gz z v,C];exact K
theorem uK{c:Int}{b L:List Int}(d:L.length=b.length+1):c*((b.length:Int)-L.length)= -c:=by
 have:(b.length:Int)-L.length= -1:=by omega
 rw[this];omega
theorem aH.step_dec(A:aH G s ex)(cg:10<=c)(bv:k<s.ths.length){ba:Nat}(w:dO s k ba s'):sO c B s k s':=by
 have R:s.ths[k]?=some (s.th k):=fH (d:=mN) bv;unfold dO at w
 cases hact:(s.th k).act with
 |none=>
  rw[hact] at w;simp only at w
  cases hr:(s.th k).run with
  |true=>rw[yf hr] at w;rw[w];exact .inl (A.run_pot cg R hact hr)
  |false=>
   rw[yb (by rw[hr];simp)] at w;rw[w]
   rcases A.pot_newAct (c:=c) (B:=B) (s':=mc s k) (y:=nB (s.dq k)) (b:=cQ 1 0) (kk:=2) R hact (A.dqk R) rfl rfl rfl (by omega) (λ_=>rfl) rfl (λe=>absurd rfl e) with v|v
   ·exact v
   ·rw[hr] at v;cases v
 |some cw=>
  obtain⟨j,i⟩:=cw;rw[hact] at w;obtain⟨x,a,s1,Y,w⟩:=w;have cd:=A.th k _ R;obtain⟨dm,d0,bk,bm,bn,g⟩:=cd.act j i hact;have F:=Y.hx;have a4:=Y.ha;rw[F] at bk
  cases bk
  rw[a4] at bm
  cases bm
  have bp:=A.many.each j x F;have br:=A.kinds x (yh F) a (yh a4);have db:=uh bp a4 bn br;have d8:=Bh x.d s.C a;have ce:s.act j i=a:=kQ F a4
  have u:fh s k=if (s.th k).kn=1 then bA a+(if bh s k then 10 else 0) else if (s.th k).kn=2 then(if bh s k then bA a else 0) else if bh s k then 10+bA a else 0:=by
   unfold fh;rw[hact];simp only[ce]
  by_cases H:(pstep x.d s.C a).what=0
  ·rw[yf H] at w
   rw[w];have da:=wK bp a4 bn br H;obtain⟨c2,W,aw,ab,a2,D,az,ad,aE,a3⟩:=A.pot_dstep (c:=c) (B:=B) R hact Y (s.th k);have P:=(rU W H).2
   have cv:s1.setTh k (s.th k)=s1:=by
    obtain⟨_,_,e,_⟩:=Y.ex;rw[e];simp only[PS.setTh];rw[qm R]
   rw[cv] at aw ab a2 D az ad aE a3;have a1:=a3 P
   have Z:fh s1 k=if (s.th k).kn=1 then bA (pstep x.d s.C a).a+(if bh s k then 10 else 0) else if (s.th k).kn=2 then(if bh s k then bA (pstep x.d s.C a).a else 0) else if bh s k then 10+bA (pstep x.d s.C a).a else 0:=by
    unfold fh;rw[a2,hact];simp only[az,a1]
   rw[P] at D;have K:c*((x.L.length:Int)-x.L.length)=0:=by rw[Int.sub_self,Int.mul_zero]
   rw[K] at D
   by_cases v:(s.th k).kn=1
   ·rw[yf v] at u Z
    exact .inl (by omega)
   ·rw[yb v] at u Z
    by_cases q:bh s k
    ·simp only[yf q] at u Z
     refine .inl ?_;split at u
     ·rename_i z;rw[yf z] at Z;omega
     ·rename_i z;rw[yb z] at Z;omega
    ·simp only[yb q] at u Z
     have b0:fh s k=0:=by rw[u];split<;>rfl
     have ai:fh s1 k=0:=by rw[Z];split<;>rfl
     refine .inr ⟨by omega,?_,λl S X=>?_⟩
     ·rintro (e|⟨_,e⟩|e)
      ·rcases g with g|g|g
       ·exact v g.1
       ·rw[g.2.2.2] at e;cases e
       ·rw[g.2.2.2.1] at e;cases e
      ·exact v e
      ·exact q e
     ·unfold jx at X ⊢
      rw[ab l S,a1];exact X
  ·rw[yb H] at w
   rw[w];obtain⟨b4,ch⟩:=A.dend R hact Y H;obtain⟨c2,W,aw,ab,a2,D,az,ad,aE,a3⟩:=A.pot_dstep (c:=c) (B:=B) R hact Y {s.th k with act:=none,kn:=0};obtain⟨_,_,cB,dl,e,d7,d4,d5⟩:=Y;have c5:s1.th k=s.th k:=by rw[e];rfl
   have b1:s1.ths=s.ths:=by rw[e]
   have bf:s1.queue=s.queue:=by rw[e]
   have c4:s1.nms=s.nms:=by rw[e]
   unfold i9;simp only[c5,b1,bf,c4];obtain⟨s2,av⟩:=eX (s1.setTh k {s.th k with act:=none,kn:=0});rw[<-av] at b4 ch aw ab a2 D az ad aE a3 ⊢;have a5:s2.ths[k]?=some {s.th k with act:=none,kn:=0}:=by rw[av];simp only[PS.setTh];rw[b1];exact bD bv
   have ar:s2.queue=s.queue:=by rw[av];exact bf
   have a9:fh s2 k=if bh s2 k then 10 else 0:=iH (by rw[a2])
   have an:=BQ W
   by_cases v:(pstep x.d s.C a).what=1
   ·rw[yf v]
    have P:=an.2 (by omega)
    have cn:(s.th k).kn=1:=by
     have d3:a.kn=0:=by
      rcases W with⟨e,_⟩|⟨_,⟨e,_⟩|⟨_,e,_⟩|⟨_,e,_⟩|⟨_,e,_⟩|⟨_,e,_⟩⟩<;>omega
     rcases g with g|g|g<;>omega
    rw[yf cn] at u;rw[P] at D;have K:c*((x.L.length:Int)-x.L.length)=0:=by rw[Int.sub_self,Int.mul_zero]
    rw[K] at D;simp only[a3 P] at a9;exact .inl (by omega)
   ·rw[yb v]
    have cm:a.kn≠0:=λK=>by
     rcases W with⟨e,_⟩|⟨_,⟨_,e,_⟩|⟨e,_⟩|⟨e,_⟩|⟨e,_⟩|⟨e,_⟩⟩
     ·exact H e
     ·exact v e
     all_goals omega
    have bt:(s.th k).kn≠1:=by rcases g with g|g|g<;>omega
    have c0:(s.th k).run=false:=by
     rcases g with g|g|g
     ·exact absurd g.2.2 cm
     ·exact g.2.2.2
     ·exact g.2.2.2.1
    rw[yb bt] at u
    by_cases z:(pstep x.d s.C a).what=2
    ·rw[yf z]
     have cf:=b4.pot_begin (c:=c) (B:=B) a5 rfl (s.nms.getD (pstep x.d s.C a).val.toNat gU);rw[uK (an.1 z)] at D;refine .inl ?_
     have b8:fh s2 k<=(if bh s k then 10 else 0):=by
      rw[a9]
      by_cases b7:bh s2 k
      ·rw[yf b7,yf (aw k b7)];exact yE _
      ·rw[yb b7];split<;>omega
     by_cases a6:(s.th k).kn=2
     ·have ci:j=k:=by rcases g with g|g|g<;>omega
      have q:bh s k:=.inl (by
       rw[<-ci,PS.dq_eq F];intro K;have:=an.1 z;rw[K] at this;simp at this)
      rw[yf a6,yf q] at u;rw[yf q] at b8;omega
     ·rw[yb a6] at u
      by_cases q:bh s k
      ·rw[yf q] at u b8;omega
      ·rw[yb q] at u b8;omega
    ·rw[yb z]
     have P:=an.2 z;have al:aH G s2 ex:=b4.exMono λm cq=>cq.resolve_right λe=>z e.1
     rw[P] at D ad;have K:c*((x.L.length:Int)-x.L.length)=0:=by rw[Int.sub_self,Int.mul_zero]
     rw[K] at D;have a1:=a3 P;simp only[a1] at a9
     by_cases N:(s.th k).kn=2/\s.queue≠[]
     ·rw[yf N]
      have c1:=al.unqueue (by rw[ar];exact N.2);rw[ar] at c1;have cf:=c1.pot_begin (c:=c) (B:=B) a5 rfl (s.queue.headD gU);refine .inl ?_
      have Q:(s.dq k).L= []:=by
       have a7:j=k/\a.kn=1:=by rcases g with g|g|g<;>omega
       rw[<-a7.1,PS.dq_eq F]
       rcases W with⟨e,_⟩|⟨_,⟨_,e,_⟩|⟨_,e,_⟩|⟨_,_,_,e,_⟩|⟨e,_⟩|⟨e,_⟩⟩
       ·exact absurd e H
       ·exact absurd e v
       ·exact absurd e z
       ·exact e
       ·omega
       ·omega
      have cb:(s2.dq k).L= []:=by
       by_cases e:k=j
       ·subst e
        rw[ad];rw[PS.dq_eq F] at Q;exact Q
       ·rw[aE k e];exact Q
      have bz:pot c B {s2 with queue:=s.queue.tail}<=pot c B s2-10-fh s2 k+(if k=0 then 10 else 0):=by
       obtain⟨E,a8⟩:=eX ({s2 with queue:=s.queue.tail}:PS);rw[<-a8];have b0:E.ds=s2.ds:=by rw[a8]
       have ai:E.ths=s2.ths:=by rw[a8]
       have c3:E.T=s2.T:=by rw[a8]
       have bb:E.queue=s.queue.tail:=by rw[a8]
       have b5:∀l,E.dq l=s2.dq l:=λl=>by unfold PS.dq;rw[b0]
       have cs:∀l,bh E l->bh s2 l:=nj (λl A=>by rw[b5];exact A) (λbo=>by rw[bb];rw[ar] at bo;rw[bo];rfl);have cp:k<s2.ths.length:=(gS a5).1
       have d2:=mu (s:=s2) (s':=E) (k:=k) (by rw[ai]) cp λl S _=>
        al.wTh_le S (by unfold PS.th;rw[ai]) (λj i _=>by unfold PS.act;rw[b5]) (cs l)
       have dk:fh E k<=(if k=0 then 10 else 0):=by
        have:(E.th k).act=none:=by
         unfold PS.th;rw[ai,kR a5]
        rw[iH this]
        by_cases V:bh E k
        ·rw[yf V]
         rcases V with V|V
         ·rw[b5] at V;exact absurd cb V
         ·rw[yf V.1];exact yE _
        ·rw[yb V];split<;>omega
       have d9:(s.queue.tail.length:Int)=s.queue.length-1:=by
        have:=zK.2 N.2;rw[List.length_tail];omega
       unfold pot;rw[b0,c3,bb,ar];omega
      rw[yf N.1] at u
      by_cases am:k=0
      ·have q:bh s k:=.inr ⟨am,N.2⟩
       rw[yf q] at u;rw[yf am] at bz;omega
      ·have q:¬bh s k:=by
        rintro (e|⟨e,_⟩)
        ·exact e Q
        ·exact am e
       rw[yb q] at u;rw[yb am] at bz;omega
     ·rw[yb N]
      have b6:sO c B s k s2/\(bh s k->pot c B s2+1<=pot c B s):=by
       have bx:bh s k->pot c B s2+1<=pot c B s:=by
        intro q
        by_cases a6:(s.th k).kn=2
        ·exfalso
         have Q:(s.dq k).L= []:=by
          have a7:j=k/\a.kn=1:=by rcases g with g|g|g<;>omega
          rw[<-a7.1,PS.dq_eq F]
          rcases W with⟨e,_⟩|⟨_,⟨_,e,_⟩|⟨_,e,_⟩|⟨_,_,_,e,_⟩|⟨e,_⟩|⟨e,_⟩⟩
          ·exact absurd e H
          ·exact absurd e v
          ·exact absurd e z
          ·exact e
          ·omega
          ·omega
         rcases q with e|⟨_,e⟩
         ·exact e Q
         ·exact N ⟨a6,e⟩
        ·rw[yb a6,yf q] at u
         rw[yf q] at a9;omega
       refine⟨?_,bx⟩
       by_cases q:bh s k
       ·exact .inl (bx q)
       ·rw[yb q] at a9
        have dd:fh s k=0:=by
         rw[u];simp only[yb q];split<;>rfl
        refine .inr ⟨by omega,?_,λl S X=>?_⟩
        ·rintro (e|⟨_,e⟩|e)
         ·rw[c0] at e;cases e
         ·exact bt e
         ·exact q e
        ·unfold jx at X ⊢
         rw[ab l S,a1];exact X
      by_cases b2:(s.th k).kn=2/\1<s.ths.length
      ·rw[yf b2]
       have q:¬bh s k:=λq=>by
        have Q:(s.dq k).L= []:=by
         have a7:j=k/\a.kn=1:=by rcases g with g|g|g<;>omega
         rw[<-a7.1,PS.dq_eq F]
         rcases W with⟨e,_⟩|⟨_,⟨_,e,_⟩|⟨_,e,_⟩|⟨_,_,_,e,_⟩|⟨e,_⟩|⟨e,_⟩⟩
         ·exact absurd e H
         ·exact absurd e v
         ·exact absurd e z
         ·exact e
         ·omega
         ·omega
        rcases q with e|⟨_,e⟩
        ·exact e Q
        ·exact N ⟨b2.1,e⟩
       obtain⟨b9,bq⟩:=eX ((k+(1+ba % (s.ths.length-1))) % s.ths.length);rw[<-bq]
       have ck:b9<s2.ds.length:=by
        have c7:s2.ths.length=s.ths.length:=by rw[av];simp only[PS.setTh,yI,b1]
        rw[al.nlen,c7,bq];exact Yj _ (by omega)
       have cr:¬bh s2 k:=λe=>q ((a1 k).1 e)
       rcases al.pot_newAct (c:=c) (B:=B) (s':=jk s2 k b9) (y:=ly (s2.dq b9)) (b:=cQ 2 0) (kk:=3) a5 rfl (fH (d:=Fi) ck) rfl rfl rfl (by omega) (λe=>by omega) (by unfold jk;rw[a2];rfl) (λ_=>cr) with a0|a0
       ·rcases a0 with a0|⟨a0,d1,c8⟩
        ·refine .inl ?_
         rcases b6.1 with b3|⟨b3,_⟩<;>omega
        ·rcases b6.1 with b3|⟨b3,c9,c6⟩
         ·exact .inl (by omega)
         ·exact .inr ⟨by omega,c9,λl S X=>c8 l S (c6 l S X)⟩
       ·rw[c0] at a0;cases a0
      ·rw[yb b2]
       exact b6.1
end
section
variable {G:dx}{s s' s1:PS}{ex ex':Nm->Prop}{k j i:Nat}{n m:Nm}{r:aG}{c B:Int}
theorem sO.le(b:sO c B s k s'):pot c B s'<=pot c B s:=by
 rcases b with b|⟨b,_⟩<;>omega
def PS.idle(s:PS):Prop:=∀n r,s.T.rw n=some r->r.sa=3\/r.sa=5\/r.sa=6
theorem lr{α:Type}{f:α->Int}(l:List α)(b:∀x∈l,0<=f x):0<=(l.map f).sum:=by
 induction l with
 |nil=>simp
 |cons a l e=>
  simp only[zc,zH];have:=b a (by simp);have:=e λx d=>b x (by simp[d])
  omega
theorem rO{α:Type}{f:α->Int}{a:α}:∀(l:List α),(∀x∈l,0<=f x)->a∈l->f a<=(l.map f).sum
 | [],_,d=>by simp at d
 |b :: l,d,e=>by
  simp only[zc,zH];have q:=lr (f:=f) l λx g=>d x (by simp[g])
  rcases yG.1 e with rfl|e
  ·omega
  ·have:=rO l (λx g=>d x (by simp[g])) e
   have:=d b (by simp);omega
theorem pU(b:0<=c)(t:TS)(n:Nm):0<=dU c t n:=by
 unfold dU;split
 ·omega
 ·unfold wR
  split
  ·omega
  ·split
   ·split
    ·omega
    ·split<;>omega
   ·split<;>omega
theorem aH.wDq_nonneg(b:aH G s ex)(g:0<=c){x:aT}(l:x∈s.ds):0<=mj c x:=by
 obtain⟨i,d⟩:=yF l;obtain⟨q,e⟩:=pK b.many d;have u:=b.many.c0s i x d;unfold mj;unfold aT.N at e;have:0<=c*(x.L.length:Int):=Int.mul_nonneg g (by omega);omega
theorem aH.wTh_nonneg(b:aH G s ex){l:Nat}(g:l<s.ths.length):0<=fh s l:=by
 have e:=fH (d:=mN) g;unfold fh
 cases ha:(s.th l).act with
 |none=>simp only;split<;>omega
 |some y=>
  obtain⟨j,i⟩:=y;have q:=b.rank_pos e ha;simp only;split
  ·split<;>omega
  ·split
   ·split<;>omega
   ·split<;>omega
theorem aH.pot_pos(b:aH G s ex)(D:10<=c)(C:(s.T.ks.length:Int)<=B):0<=pot c B s/\(¬s.idle->1<=pot c B s):=by
 have u:0<=ga c s.T:=lr _ λx _=>pU (by omega) _ _
 have v:0<=uy c s.ds:=lr _ λx e=>b.wDq_nonneg (by omega) e
 have w:0<=km s:=lr _ λx e=>b.wTh_nonneg (zw.1 e)
 have z:0<=(2*c+60)*(B-s.T.ks.length):=Int.mul_nonneg (by omega) (by omega);refine⟨by unfold pot;omega,λg=>?_⟩
 have A:1<=ga c s.T:=by
  simp only[PS.idle,Classical.not_forall] at g;obtain⟨n,r,d,E⟩:=g;have l:n∈s.T.ks:=(b.t.ks n).2 (by rw[d];simp);have:=rO (f:=dU c s.T) s.T.ks (λx _=>pU (by omega) _ _) l
  have F:1<=dU c s.T n:=by
   obtain⟨p,x,_,_,q⟩:=(b.t.row n r d).node;have:=q.lo;rw[fM d];unfold wR;split
   ·omega
   ·rw[yf (by omega)]
    split
    ·omega
    ·split<;>omega
  unfold ga;omega
 unfold pot;omega
theorem aH.some_active(e:aH G s (λ_=>False))(E:0<s.ths.length)(z:¬s.idle):∃l,l<s.ths.length/\jx s l:=by
 simp only[PS.idle,Classical.not_forall] at z;obtain⟨n,r,q,L⟩:=z;obtain⟨p,x,_,_,F⟩:=(e.t.row n r q).node;have K:=F.lo;have C:n∈s.queue->∃l,l<s.ths.length/\jx s l:=λA=>⟨0,E,.inr (.inr (.inr ⟨rfl,λu=>by rw[u] at A;simp at A⟩))⟩
 have w:s.inL n->∃l,l<s.ths.length/\jx s l:=by
  rintro ⟨l,y,v,g,b,d⟩;refine⟨l,by rw[<-e.nlen];exact(gS g).1,.inr (.inr (.inl ?_))⟩;rw[PS.dq_eq g];exact λu=>by rw[u] at b;simp at b
 by_cases g:r.sa=1
 ·rcases e.ready n r q g nF with b|⟨_,b⟩
  ·exact C b
  ·exact w b
 ·by_cases b:r.sa=2
  ·obtain⟨l,N,d,D,H⟩:=e.runs n r q b
   exact⟨l,(gS d).1,.inl (by rw[PS.th_eq d];exact D)⟩
  ·rcases e.wakes n r q (by omega) nF with d|d
   ·exact C d
   ·exact w d
def mv(c B p0:Int)(s:PS)(k:Nat):Prop:=pot c B s+1<=p0\/(pot c B s<=p0/\∃l,k<=l/\l<s.ths.length/\jx s l)
theorem mv.start(b:aH G s (λ_=>False))(q:0<s.ths.length)(g:¬s.idle):mv c B (pot c B s) s 0:=by
 obtain⟨l,d,e⟩:=b.some_active q g;exact .inr ⟨yE _,l,by omega,d,e⟩
theorem mv.step{g:Int}(d:mv c B g s k)(b:sO c B s k s')(z:s'.ths.length=s.ths.length):mv c B g s' (k+1):=by
 have F:=b.le
 rcases d with d|⟨C,l,D,u,e⟩
 ·exact .inl (by omega)
 ·rcases b with b|⟨E,v,w⟩
  ·exact .inl (by omega)
  ·have A:l≠k:=λq=>v (by rw[<-q];exact e)
   exact .inr ⟨by omega,l,by omega,by rw[z];exact u,w l A e⟩
theorem mv.end_{d:Int}(b:mv c B d s s.ths.length):pot c B s+1<=d:=by
 rcases b with b|⟨_,l,e,g,_⟩
 ·exact b
 ·omega
theorem rS(s:PS)(k:Nat)(n:Nm):(dX s k n).ths.length=s.ths.length:=by
 unfold dX;split
 ·rfl
 ·split<;>simp
theorem Cf(s:PS)(k:Nat)(n:Nm)(r:aG)(f:Fr)(t:aj):(iU s k n r f t).ths.length=s.ths.length:=by
 unfold iU;split
 ·rfl
 ·split
  ·rfl
  ·simp[eE]
theorem Eq(s:PS)(k:Nat):(eW s k).ths.length=s.ths.length:=by
 unfold eW;split
 ·simp only
  split
  ·rfl
  ·exact Cf _ _ _ _ _ _
  ·split
   ·simp
   ·rfl
  ·split
   ·simp[eE]
   ·simp
 ·rfl
theorem nE{e:Nat}(b:dO s k e s'):s'.ths.length=s.ths.length:=by
 unfold dO at b;split at b
 ·obtain⟨x,a,s1,l,b⟩:=b
  obtain⟨_,_,g,_⟩:=l.ex;have d:s1.ths.length=s.ths.length:=by rw[g]
  split at b
  ·rw[b,d]
  ·rw[b,<-d]
   unfold i9;simp only;split
   ·simp[PS.setTh]
   ·split
    ·rw[rS];simp[PS.setTh]
    ·split
     ·rw[rS];simp[PS.setTh]
     ·split
      ·simp[jk,PS.setTh]
      ·simp[PS.setTh]
 ·split at b
  ·rw[b];exact Eq s k
  ·rw[b];simp[mc]
theorem gY{α:Type}:∀(l m:List α),l.Nodup->(∀x∈l,x∈m)->l.length<=m.length
 | [],_,_,_=>by simp
 |a :: l,m,v,e=>by
  obtain⟨q,u⟩:=List.nodup_cons.1 v;obtain⟨x,y,rfl⟩:=List.append_of_mem (e a (by simp))
  have:=gY l (x++y) u λb g=>by
   have:=e b (by simp[g]);simp only[yH,yG] at this ⊢
   rcases this with d|d|d
   ·exact .inl d
   ·subst d;exact absurd g q
   ·exact .inr d
  simp at this ⊢;omega
def jb(G:dx)(j:Int):List Nm:=
 match G j with
 |none=>[]
 |some y=>(aK y.1 y.2).map λu=>⟨j,u.tk.M⟩
theorem cA.keys_le{t:TS}(b:cA G t)(jl:List Int)(e:∀j,G j≠none->j∈jl):t.ks.length<=(jl.flatMap (jb G)).length:=by
 refine gY _ _ b.nodup λn g=>?_
 cases hr:t.rw n with
 |none=>exact absurd hr ((b.ks n).1 g)
 |some r=>
  obtain⟨p,x,d,l,_⟩:=(b.row n r hr).node;refine List.mem_flatMap.2 ⟨n.job,e _ (by rw[d];simp),?_⟩;unfold jb;rw[d];refine yL.2 ⟨⟨r.tk,bH p r.tk,(aS p r.tk).length⟩,(kT _ _ (lR) _).2 ⟨_,_,l,rfl⟩,?_⟩;simp only;rw[b.M hr]
end
end
section
def dJ(x:Int):Prop:=-9223372036854775808<=x/\x<=9223372036854775807
def vB(l:List UInt8):Prop:=l.length<=12/\∀c∈l,1<=c.toNat/\c.toNat<=16
structure sR(p:List ah)(x:ah)(o:bI):Prop where
 k:1<=o.k/\o.k<=14
 d:0<=o.d/\o.d<=16
 a:0<=o.a/\o.a<=16
 b:0<=o.b/\o.b<=16
 n:dJ o.n
 dr:o.k<=9\/o.k=12->o.d<x.rg
 ar:(2<=o.k/\o.k<=9)\/o.k=11\/o.k=14->o.a<x.rg
 br:3<=o.k/\o.k<=9->o.b<x.rg
 go:o.k=10\/o.k=11->0<=o.n/\o.n<x.ops.length
 fk:o.k=12->0<=o.n/\o.n<p.length/\((bG p o.n).args=0\/o.a+(bG p o.n).args<=x.rg)
 dz:o.k=10\/o.k=11\/o.k=13\/o.k=14->o.d=0
 az:o.k=1\/o.k=10\/o.k=13->o.a=0
 bz:o.k<=2\/10<=o.k->o.b=0
 nz:(2<=o.k/\o.k<=9)\/o.k=13\/o.k=14->o.n=0
structure vz(p:List ah)(x:ah):Prop where
 a0:0<=x.args
 ar:x.args<=x.rg
 r16:x.rg<=16
 o0:x.ops≠[]
 o64:x.ops.length<=64
 ops:∀o∈x.ops,sR p x o
 last:∀o,x.ops[x.ops.length-1]?=some o->o.k=10\/o.k=14
structure gC(p:List ah):Prop where
 p0:p≠[]
 p16:p.length<=16
 fns:∀x∈p,vz p x
structure bW(p:List ah)(t:aj):Prop where
 fn0:0<=t.fn
 fn1:t.fn<p.length
 al:(t.args.length:Int)=(bG p t.fn).args
 ai:∀x∈t.args,dJ x
 fl:t.fuel<=65536
 pth:vB t.M
structure gK(p:List ah)(f:Fr):Prop where
 fn0:0<=f.fn
 fn1:f.fn<p.length
 at0:0<=f.at_
 at1:(∀o,f.waits=some o->o.k≠14)->f.at_<(bG p f.fn).ops.length
 at2:f.at_<=64
 rl:(f.rg.length:Int)=(bG p f.fn).rg
 ri:∀x∈f.rg,dJ x
 kl:f.kd.length<=16
 jn:f.joined<=f.kd.length
 ki:∀k∈f.kd,(0<=k.into/\k.into<f.rg.length)/\dJ k.r.v
 wt:∀o,f.waits=some o->(o.k=13\/o.k=14)/\0<=o.a/\(o.k=14->o.a<f.rg.length)
 lf:f.left<=65536
 pth:vB f.M
theorem gk{p:List ah}{i:Int}(b:0<=i)(d:i<p.length):bG p i∈p/\p[i.toNat]?=some (bG p i):=by
 have:i.toNat<p.length:=by omega
 unfold bG;rw[yc,gG this];exact⟨yN this,rfl⟩
theorem kB{p:List ah}{i k:Int}(b:0<=k)(d:k<(bG p i).ops.length):bu p i k∈(bG p i).ops/\(bG p i).ops[k.toNat]?=some (bu p i k):=by
 have:k.toNat<(bG p i).ops.length:=by omega
 unfold bu;rw[yc,gG this];exact⟨yN this,rfl⟩
theorem gC.fn{p:List ah}(b:gC p){i:Int}(d:0<=i)(e:i<p.length):vz p (bG p i):=b.fns _ (gk d e).1
theorem vz.next{p:List ah}{x:ah}(e:vz p x){k:Nat}{o:bI}(d:x.ops[k]?=some o)(g:o.k≠10)(l:o.k≠14):k+1<x.ops.length:=by
 have u:=(gS d).1
 by_cases q:k+1<x.ops.length
 ·exact q
 ·have:k=x.ops.length-1:=by omega
  rw[this] at d
  rcases e.last o d with b|b
  ·exact absurd b g
  ·exact absurd b l
theorem nS:dJ 0:=⟨by decide,by decide⟩
theorem DA:dJ 1:=⟨by decide,by decide⟩
theorem lS(x:Int):dJ (IntKind.i64.wrap x):=by
 unfold IntKind.wrap dJ;simp[IntKind.bits,IntKind.signed];split<;>omega
theorem oU{regs:List Int}(b:∀x∈regs,dJ x)(a:Int):dJ (ct regs a):=by
 unfold ct;rw[yc]
 cases he:regs[a.toNat]? with
 |none=>exact nS
 |some x=>exact b x (yh he)
theorem BO{k a b x:Int}(e:dJ a)(d:dt k a b=some x):dJ x:=by
 unfold dt at d;split at d
 ·cases d;exact e
 split at d
 ·cases d;exact lS _
 split at d
 ·cases d;exact lS _
 split at d
 ·cases d;exact lS _
 split at d
 ·split at d
  ·cases d
  ·cases d;exact lS _
 split at d
 ·split at d
  ·cases d
  ·cases d;exact lS _
 split at d
 ·cases d;split<;>first|exact DA|exact nS
 ·cases d;split<;>first|exact DA|exact nS
theorem rJ{regs:List Int}(g:∀x∈regs,dJ x){d y:Int}(l:dJ y):∀x∈jh regs d y,dJ x:=by
 intro x e;unfold jh at e
 rcases List.mem_or_eq_of_mem_set e with b|b
 ·exact g x b
 ·rw[b];exact l
theorem ql(regs:List Int)(d y:Int):(jh regs d y).length=regs.length:=by simp[jh]
theorem fQ:∀(l:List (Int×aD)) (regs:List Int),(dC l regs).length=regs.length
 | [],regs=>rfl
 |c :: l,regs=>by unfold dC;rw[fQ l,ql]
theorem lv:∀(l:List (Int×aD)) (regs:List Int),(∀c∈l,dJ c.2.v)->(∀x∈regs,dJ x)->∀x∈dC l regs,dJ x
 | [],regs,_,b=>b
 |c :: l,regs,d,b=>by
  unfold dC;exact lv l _ (λc e=>d c (yV _ e)) (rJ b (d c zh))
theorem tT{l:List cZ}(b:∀k∈l,dJ k.r.v):∀c∈ed l,dJ c.2.v:=by
 intro c d;obtain⟨k,e,rfl⟩:=yL.1 d;exact b k e
theorem oD{p:List ah}{x:ah}{o:bI}{regs:List Int}{at_:Int}{y:List Int×Int}(e:sR p x o)(d:∀x∈regs,dJ x)(b:dE o regs at_=some y):
 y.1.length=regs.length/\(∀x∈y.1,dJ x)/\(y.2=at_/\o.k≠10\/y.2=o.n/\(o.k=10\/o.k=11)):=by
 unfold dE at b;split at b
 ·cases b
  exact⟨ql _ _ _,rJ d e.n,.inl ⟨rfl,by omega⟩⟩
 split at b
 ·cases b
  exact⟨rfl,d,.inr ⟨rfl,.inl (by assumption)⟩⟩
 split at b
 ·cases b
  refine⟨rfl,d,?_⟩;simp only;split
  ·exact .inr ⟨rfl,.inr (by assumption)⟩
  ·exact .inl ⟨rfl,by omega⟩
 ·split at b
  ·cases b
  ·rename_i l q u _ z g
   cases b
   exact⟨ql _ _ _,rJ d (BO (oU d _) g),.inl ⟨rfl,by assumption⟩⟩
section
variable {p:List ah}{f:Fr}
theorem ov{f:Fr}{k:cZ}(b:k∈f.os):k∈f.kd:=List.mem_of_mem_drop b
theorem rC(b:gK p f)(o:bI)(w:(o.k=13\/o.k=14)/\0<=o.a/\(o.k=14->o.a<f.rg.length))(g:o.k≠14->f.at_<(bG p f.fn).ops.length):
 (∃r,(f.joins o).2=some (.done r)/\dJ r.v/\(r.e=0\/r.v=0))\/gK p (f.joins o).1:=by
 unfold Fr.joins;split
 ·exact .inr ⟨b.fn0,b.fn1,b.at0,λu=>g (u o rfl),b.at2,b.rl,b.ri,b.kl,b.jn,b.ki,λz d=>(by cases d;exact w),b.lf,b.pth⟩
 ·simp only
  split
  ·exact .inl ⟨_,rfl,nS,.inr rfl⟩
  ·have l:=lv (ed f.os) f.rg (tT λk e=>(b.ki k (ov e)).2) b.ri
   split
   ·exact .inl ⟨_,rfl,oU l _,.inl rfl⟩
   ·rename_i q
    exact .inr ⟨b.fn0,b.fn1,b.at0,λ_=>g q,b.at2,by rw[<-b.rl];simp only[fQ],l,b.kl,lR,λk e=>by simp only[fQ];exact b.ki k e,λz d=>(by cases d),b.lf,b.pth⟩
theorem uz{l:List Int}{a m:Nat}{x:Int}(b:x∈(l.drop a).take m):x∈l:=List.mem_of_mem_drop (List.mem_of_mem_take b)
theorem EX(Q:gC p)(b:gK p f)(K:f.waits=none):
 (∃r,(f.step p).2=some (.done r)/\dJ r.v/\(r.e=0\/r.v=0))\/(gK p (f.step p).1/\∀t,(f.step p).2=some (.fork t)->bW p t):=by
 have a3:=b.at1 (λo e=>by rw[K] at e;cases e);have H:=Q.fn b.fn0 b.fn1;obtain⟨a7,a5⟩:=kB (p:=p) (i:=f.fn) b.at0 a3;have l:=H.ops _ a7;have an:=H.o64;unfold Fr.step;split
 ·exact .inl ⟨_,rfl,nS,.inr rfl⟩
 simp only;generalize bu p f.fn f.at_=o at*
 have w:o.k≠10->o.k≠14->f.at_+1<(bG p f.fn).ops.length:=λZ a1=>by
  have:=H.next a5 Z a1;have:=b.at0;omega
 have av:=b.at0;have aw:=b.lf
 have F:∀(C:List Int) (z:Int),C.length=f.rg.length->(∀x∈C,dJ x)->0<=z->z<(bG p f.fn).ops.length->gK p {f with left:=f.left-1,at_:=z,rg:=C}:=λC z L V W X=>
  ⟨b.fn0,b.fn1,W,λ_=>X,by simp only;omega,by rw[<-b.rl];simp only[L],V,b.kl,b.jn,λk g=>by simp only[L];exact b.ki k g,λR e=>(by simp only[K] at e;cases e),by simp only;omega,b.pth⟩
 split
 ·rename_i D
  unfold Fr.forks;simp only;split
  ·exact .inl ⟨_,rfl,nS,.inr rfl⟩
  split
  ·exact .inl ⟨_,rfl,nS,.inr rfl⟩
  rename_i am al
  right
  obtain⟨N,P,Y⟩:=l.fk D;have a4:=Q.fn N P;have a8:=b.rl;refine⟨⟨b.fn0,b.fn1,by simp only;omega,λ_=>w (by omega) (by omega),by simp only;have:=w (by omega) (by omega);omega,b.rl,b.ri,by simp;omega,by simp only[yk];exact lT b.jn (Nat.le_add_right _ _),λk g=>?_,λR e=>(by simp only[K] at e;cases e),by simp only;omega,b.pth⟩,λt e=>?_⟩
  ·rcases yH.1 g with g|g
   ·exact b.ki k g
   ·rw[yw] at g
    subst g;have:=l.dr (.inr D);exact⟨⟨l.d.1,by simp only;rw[a8];exact this⟩,nS⟩
  ·simp only[yC,iR.fork.injEq] at e
   subst e;refine⟨N,P,?_,λx a9=>b.ri x (uz a9),by simp only[dc];omega,?_⟩
   ·simp only[dc,ze,zF]
    have:=a4.a0;have:=l.a.1
    rcases Y with e|e<;>omega
   ·refine⟨by simp[dc];omega,λc q=>?_⟩
    simp only[dc,yH,yw] at q
    rcases q with q|q
    ·exact b.pth.2 c q
    ·subst q
     have:(UInt8.ofNat (f.kd.length+1)).toNat=f.kd.length+1:=by simp;omega
     rw[this];omega
 ·rename_i D
  split
  ·rename_i E
   have a2:o.k≠14->gK p {f with left:=f.left-1,at_:=f.at_+1}:=λe=>F f.rg (f.at_+1) rfl b.ri (by omega) (w (by omega) e)
   have u:(∃r,(Fr.joins {f with left:=f.left-1,at_:=f.at_+1} o).2=some (.done r)/\dJ r.v/\(r.e=0\/r.v=0))\/gK p (Fr.joins {f with left:=f.left-1,at_:=f.at_+1} o).1:=by
    by_cases A:o.k=14
    ·unfold Fr.joins
     split
     ·exact .inr ⟨b.fn0,b.fn1,by simp only;omega,λa6=>absurd A (a6 o rfl),by simp only;omega,b.rl,b.ri,b.kl,b.jn,b.ki,λR e=>by simp only[yC] at e;subst e;exact⟨E,l.a.1,λe=>by have:=l.ar (.inr (.inr e));have:=b.rl;simp only;omega⟩,by simp only;omega,b.pth⟩
     ·simp only
      split
      ·exact .inl ⟨_,rfl,nS,.inr rfl⟩
      ·exact .inl ⟨_,rfl,oU (lv _ _ (tT λk g=>(b.ki k (ov g)).2) b.ri) _,.inl rfl⟩
    ·exact rC (a2 A) o ⟨E,l.a.1,λe=>absurd e A⟩ (λ_=>w (by omega) A)
   rcases u with u|u
   ·exact .inl u
   ·refine .inr ⟨u,λt e=>?_⟩
    exfalso;unfold Fr.joins at e;split at e
    ·cases e
    ·simp only at e
     split at e
     ·cases e
     ·split at e<;>cases e
  ·rename_i E
   cases hpl:dE o f.rg (f.at_+1) with
   |none=>exact .inl ⟨_,rfl,nS,.inr rfl⟩
   |some y=>
    obtain⟨S,T,ab⟩:=oD l b.ri hpl;refine .inr ⟨?_,λt e=>by cases e⟩
    rcases ab with⟨e,g⟩|⟨e,g⟩
    ·exact F y.1 y.2 S T (by omega) (by rw[e];exact w g (by omega))
    ·obtain⟨ad,ai⟩:=l.go g
     exact F y.1 y.2 S T (by omega) (by omega)
theorem qY(H:gC p)(q:gK p f):
 (∃r,(f.run1 p).2=.done r/\dJ r.v/\(r.e=0\/r.v=0))\/(gK p (f.run1 p).1/\∀t,(f.run1 p).2=.fork t->bW p t):=by
 have C:∀g:Fr,gK p g->g.waits=none->(∃r,(cz (g.step p)).2=.done r/\dJ r.v/\(r.e=0\/r.v=0))\/(gK p (cz (g.step p)).1/\∀t,(cz (g.step p)).2=.fork t->bW p t):=by
  intro g u l
  rcases EX H u l with⟨r,b,d,w⟩|⟨d,w⟩
  ·exact .inl ⟨r,by simp[cz,b],d,w⟩
  ·refine .inr ⟨d,λt b=>?_⟩
   unfold cz at b
   cases e:(g.step p).2 with
   |none=>rw[e] at b;cases b
   |some s=>rw[e] at b;simp only[zU] at b;exact w t (by rw[e,b])
 unfold Fr.run1
 cases l:f.waits with
 |none=>exact C f q l
 |some o=>
  simp only;have K:=q.wt o l;have E:o.k≠14->f.at_<(bG p f.fn).ops.length:=λb=>q.at1 (λL z=>by rw[l] at z;cases z;exact b)
  rcases rC q o K E with⟨r,b,d⟩|d
  ·cases hj:f.joins o with
   |mk f' s=>
    rw[hj] at b;simp only at b;subst b;exact .inl ⟨r,rfl,d⟩
  ·have A:∀t,(f.joins o).2≠some (.fork t):=by
    intro t b;unfold Fr.joins at b;split at b
    ·cases b
    ·simp only at b
     split at b
     ·cases b
     ·split at b<;>cases b
   have D:(f.joins o).2=none->(f.joins o).1.waits=none:=by
    intro b;unfold Fr.joins at b ⊢;split at b
    ·cases b
    ·rename_i u
     rw[yb u];simp only at b ⊢;split at b
     ·cases b
     ·rename_i e
      rw[yb e];split at b
      ·cases b
      ·rename_i F
       rw[yb F]
   cases hj:f.joins o with
   |mk f' s=>
    rw[hj] at d A D
    cases s with
    |none=>exact C f' d (D rfl)
    |some s=>exact .inr ⟨d,λt b=>absurd (by simp only at b ⊢;rw[b]) (A t)⟩
theorem oS(q:gC p){t:aj}(b:bW p t):gK p (Fr.begun p t):=by
 have e:=q.fn b.fn0 b.fn1;have:=e.a0;have:=e.ar;have u:=b.al;refine⟨b.fn0,b.fn1,yE _,λ_=>?_,by simp[Fr.begun],?_,λx d=>?_,by simp[Fr.begun],by simp[Fr.begun],λk l=>by simp[Fr.begun] at l,λo g=>by simp[Fr.begun] at g,b.fl,b.pth⟩
 ·have:=zK.2 e.o0
  simp only[Fr.begun];omega
 ·simp only[Fr.begun,gW,yk,List.length_replicate]
  omega
 ·simp only[Fr.begun,gW,yH] at d
  rcases d with d|d
  ·exact b.ai x d
  ·rw[(List.mem_replicate.1 d).2]
   exact nS
theorem yy{i:Nat}{r:aD}(b:gK p f)(l:dJ r.v)(e:i<f.kd.length):gK p (f.give i r):=by
 refine⟨b.fn0,b.fn1,b.at0,b.at1,b.at2,b.rl,b.ri,by simpa[Fr.give] using b.kl,by simpa[Fr.give] using b.jn,λk g=>?_,b.wt,b.lf,b.pth⟩;simp only[Fr.give] at g
 rcases List.mem_or_eq_of_mem_set g with d|d
 ·exact b.ki k d
 ·subst d
  refine⟨?_,l⟩;rw[yc,gG e];exact(b.ki _ (yN e)).1
end
def qw(x:aD):Prop:=dJ x.v/\0<=x.e/\x.e<=200
theorem rx:∀(l:List (Int×aD)),(∀c∈l,qw c.2)->0<=cC l/\cC l<=200
 | [],_=>⟨by decide,by decide⟩
 |c :: l,b=>by
  unfold cC;split
  ·exact(b c zh).2
  ·exact rx l λc d=>b c (yV _ d)
theorem Eo{p:List ah}(N:gC p):∀(left:Nat) (path:List UInt8) (fn:Int) (regs:List Int) (at_:Int) (kids:Nat) (ws:List (Int×aD)),
 vB path->0<=fn->fn<p.length->left<=65536->(regs.length:Int)=(bG p fn).rg->(∀x∈regs,dJ x)->0<=at_->at_<(bG p fn).ops.length->(∀c∈ws,qw c.2)->
 qw (cN p path fn left regs at_ kids ws).1/\(∀t∈(cN p path fn left regs at_ kids ws).2,bW p t):=by
 intro left
 induction left using Nat.strongRecOn with
 |_ left E=>
  intro path fn regs at_ kids ws D w A ab P v Z a1 u;have z:∀g:Int,0<=g->g<=200->qw ⟨0,g⟩:=λg F H=>⟨nS,F,H⟩
  unfold cN
  cases left with
  |zero=>exact⟨z 130 (by decide) (by decide),λt e=>by cases e⟩
  |succ l=>
   have T:=N.fn w A;obtain⟨a4,a3⟩:=kB (p:=p) (i:=fn) Z a1;have C:=T.ops _ a4;simp only;generalize bu p fn at_=o at*
   have L:o.k≠10->o.k≠14->at_+1<(bG p fn).ops.length:=λF H=>by
    have:=T.next a3 F H;omega
   split
   ·rename_i Y
    split
    ·exact⟨z 132 (by decide) (by decide),λt e=>by cases e⟩
    split
    ·exact⟨z 133 (by decide) (by decide),λt e=>by cases e⟩
    rename_i a9 ad;obtain⟨W,X,a5⟩:=C.fk Y;have a2:=N.fn W X
    have R:bW p (dc p path kids o regs l):=by
     refine⟨W,X,?_,λx Q=>v x (uz Q),by simp only[dc];omega,?_⟩
     ·simp only[dc,ze,zF]
      have:=a2.a0;have:=C.a.1
      rcases a5 with g|g<;>omega
     ·refine⟨by simp[dc];omega,λc b=>?_⟩
      simp only[dc,yH,yw] at b
      rcases b with b|b
      ·exact D.2 c b
      ·subst b
       have:(UInt8.ofNat (kids+1)).toNat=kids+1:=by simp;omega
       rw[this];omega
    have q:=oS N R;have Q:=E (l / 2) (by omega) _ _ _ 0 0 [] q.pth q.fn0 q.fn1 (by omega) q.rl q.ri q.at0 (q.at1 (λo g=>by cases g)) (λc b=>by cases b)
    have V:=E (l-l / 2) (by omega) path fn regs (at_+1) (kids+1) (ws++ [(o.d,(cN p (dc p path kids o regs l).M (dc p path kids o regs l).fn (l / 2) (gW p (dc p path kids o regs l).fn (dc p path kids o regs l).args) 0 0 []).1)]) D w A (by omega) P v (by omega) (L (by omega) (by omega)) (λc b=>by
     rcases yH.1 b with b|b
     ·exact u c b
     ·rw[yw] at b
      rw[b];exact Q.1)
    exact⟨V.1,λt e=>by
     rcases yG.1 e with e|e
     ·rw[e];exact R
     ·exact V.2 t e⟩
   split
   ·split
    ·have:=rx ws u
     exact⟨z _ this.1 this.2,λt e=>by cases e⟩
    ·exact E l (by omega) path fn _ (at_+1) kids [] D w A (by omega) (by rw[fQ];exact P) (lv ws regs (λc b=>(u c b).1) v) (by omega) (L (by omega) (by omega)) (λc b=>by cases b)
   split
   ·split
    ·have:=rx ws u
     exact⟨z _ this.1 this.2,λt e=>by cases e⟩
    ·exact⟨⟨oU (lv ws regs (λc b=>(u c b).1) v) _,yE 0,(by decide:(0:Int)<=200)⟩,λt e=>by cases e⟩
   ·cases hpl:dE o regs (at_+1) with
    |none=>exact⟨z 131 (by decide) (by decide),λt e=>by cases e⟩
    |some y=>
     obtain⟨a6,a7,a8⟩:=oD C v hpl
     have S:0<=y.2/\y.2<(bG p fn).ops.length:=by
      rcases a8 with⟨g,K⟩|⟨g,K⟩
      ·have:=L K (by omega)
       omega
      ·have:=C.go K
       omega
     exact E l (by omega) path fn y.1 y.2 kids ws D w A (by omega) (by rw[a6];exact P) a7 S.1 S.2 u
theorem lA{p:List ah}(e:gC p){t:aj}(d:bW p t):qw (bH p t)/\∀k∈aS p t,bW p k:=by
 have b:=oS e d;exact Eo e t.fuel t.M t.fn _ 0 0 [] b.pth b.fn0 b.fn1 d.fl b.rl b.ri b.at0 (b.at1 (λo g=>by cases g)) (λc l=>by cases l)
open Classical
structure iQ(s:PS):Prop where
 rw:s.T.rw=λ_=>none
 ks:s.T.ks= []
 fm:s.T.fm=λ_=>none
 hist:s.T.hist= []
 outs:∀m,s.T.outs m↔s.known m≠none\/s.away m=true
 many:fC s.C s.ds
 ds:∀x∈s.ds,x.acts= []/\x.on=none/\x.L= []/\x.P=0/\x.own=4+x.c0
 nlen:s.ds.length=s.ths.length
 ths:∀th∈s.ths,th=mN
 queue:s.queue= []
 nms:s.nms= []
 roots:∀n,s.roots n=none
noncomputable def iC(t:TS)(n:Nm)(x:aj):TS:={t with rw:=ay t.rw n (some ⟨x,1,0,⟨0,0⟩,false,0,false⟩),ks:=t.ks++ [n]}
noncomputable def ez(s:PS)(n:Nm)(x:aj):PS:={s with T:=iC s.T n x,roots:=ay s.roots n (some (x.fuel+1)),queue:=s.queue++ [n]}
section
variable {G:dx}{s s':PS}{ex:Nm->Prop}{n:Nm}{x:aj}{p:List ah}{c B:Int}
theorem iQ.th(b:iQ s)(k:Nat):s.th k=mN:=by
 unfold PS.th;rw[yc]
 cases he:s.ths[k]? with
 |none=>rfl
 |some t=>exact b.ths t (yh he)
theorem iQ.dq(b:iQ s)(k:Nat):(s.dq k).L= []/\(s.dq k).acts= []/\(s.dq k).on=none:=by
 unfold PS.dq;rw[yc]
 cases he:s.ds[k]? with
 |none=>exact⟨rfl,rfl,rfl⟩
 |some t=>
  have:=b.ds t (yh he);exact⟨this.2.2.1,this.1,this.2.1⟩
theorem iQ.inv(d:iQ s)(C:∀j p x,G j=some (p,x)->s.progs j=some p)(D:∀j p x,G j=some (p,x)->x.M= [])
 (A:∀m y p x u,s.known m=some y->G m.job=some (p,x)->bK p x m.M=some u->y=bH p u):aH G s (λ_=>False):=by
 have e:∀n r,s.T.rw n=some r->False:=λn r b=>by rw[d.rw] at b;cases b
 have q:∀(k:Nat) (th:Th),s.ths[k]?=some th->th=mN:=λk th b=>d.ths th (yh b)
 refine⟨⟨by rw[d.ks];exact List.nodup_nil,λn=>?_,λn _=>by rw[d.fm],λn r b=>(e n r b).elim,by rw[d.hist];exact List.nodup_nil,λn k x=>?_,D⟩,C,d.many,λx w a z=>?_,d.nlen,λx w v hv=>?_,by rw[d.nms];exact List.nodup_nil,λk th b=>?_,λk l th E _ b _ g=>?_,λk l th E y _ b _ g=>?_,λn r b=>(e n r b).elim,λn r b=>(e n r b).elim,λn r b=>(e n r b).elim,λm _=>d.outs m,A,λn b=>absurd (d.roots n) b⟩
 ·rw[d.ks,d.rw];simp
 ·rw[d.hist]
  exact⟨λb=>(by cases b),λ⟨r,b,_⟩=>(e n r b).elim⟩
 ·rw[(d.ds x w).1] at z;cases z
 ·rw[(d.ds x w).2.2.1] at hv;cases hv
 ·rw[q k th b]
  refine⟨λb=>(by cases b),λ_=>?_,λj i b=>(by cases b)⟩;rw[(d.dq k).2.1,(d.dq k).2.2];rfl
 ·rw[q k th b] at g;cases g
 ·rw[q k th b] at g;cases g
theorem iD(t:TS)(n:Nm)(x:aj)(m:Nm):(iC t n x).rw m=if m=n then some ⟨x,1,0,⟨0,0⟩,false,0,false⟩ else t.rw m:=rfl
theorem cA.add{t:TS}(l:cA G t)(K:G n.job=some (p,x))(C:n.M= [])(A:t.rw n=none)(L:¬t.outs n):cA G (iC t n x):=by
 have E:∀(m:Nm) (i:Nat),aF m i≠n:=λm i d=>jc m i (by rw[d,C])
 refine⟨?_,λm=>?_,λm u=>?_,λm r u=>?_,l.hnodup,λm k y=>?_,l.roots⟩
 ·refine zy.2 ⟨l.nodup,by simp,λa H b D d=>?_⟩
  rw[yw] at D;subst D;subst d;exact(l.ks _).1 H A
 ·rw[iD]
  simp only[iC,yH,yw]
  by_cases d:m=n
  ·simp[d]
  ·simp[d,l.ks m]
 ·rw[iD] at u
  split at u
  ·cases u
  ·exact l.none_ m u
 ·rw[iD] at u
  split at u
  ·rename_i d
   subst d
   cases u
   refine⟨⟨p,x,K,?_,⟨by simp,λ_=>⟨rfl,l.none_ m A⟩,λd=>?_,λd=>(by cases d),λd=>(by cases d),?_⟩⟩,.inl ⟨rfl,C⟩,λi z=>absurd z (zZ i),rfl,yx 16⟩
   ·rw[C];simp[bK]
   ·rcases d with d|d|d<;>cases d
   ·exact⟨λd=>absurd d L,λd=>(by rcases d with d|⟨d,_⟩<;>cases d)⟩
  ·rename_i d
   have w:=l.row m r u;refine⟨?_,?_,λi z=>?_,?_,w.kn⟩
   ·obtain⟨q,y,e,g,v⟩:=w.node
    exact⟨q,y,e,g,⟨v.lo,v.idle,v.runs,v.waits,v.over,v.O⟩⟩
   ·rcases w.up with k|⟨k,N,i,q,e,g,v⟩
    ·exact .inl k
    ·refine .inr ⟨k,N,i,q,e,?_,v⟩
     rw[iD,yb (λF=>by rw[F,A] at g;cases g)];exact g
   ·rw[iD,yb (E m i)]
    exact w.down i z
   ·rw[w.opn]
    congr 1
    refine(gZ λi z=>?_).symm;unfold cI;rw[iD,yb (E m i)]
 ·rw[show(iC t n x).hist=t.hist from rfl,l.hist m k y]
  constructor
  ·rintro ⟨r,e,g⟩
   refine⟨r,?_,g⟩;rw[iD,yb (λd=>by rw[d,A] at e;cases e)];exact e
  ·rintro ⟨r,e,g⟩
   rw[iD] at e;split at e
   ·cases e
    exact absurd (show(1:Nat)=6 from g.1) (by decide)
   ·exact⟨r,e,g⟩
theorem aH.add(d:aH G s (λ_=>False))(A:G n.job=some (p,x))(u:n.M= [])(q:s.T.rw n=none)(C:s.known n=none)(z:s.away n=false):aH G (ez s n x) (λ_=>False):=by
 have D:¬s.T.outs n:=λb=>by
  rcases(d.outN n q).1 b with b|b
  ·exact b C
  ·rw[z] at b;cases b
 have l:∀m,(ez s n x).T.rw m=if m=n then some ⟨x,1,0,⟨0,0⟩,false,0,false⟩ else s.T.rw m:=λm=>rfl
 have cD:∀m r,s.T.rw m=some r->(ez s n x).T.rw m=some r:=λm r b=>by
  rw[l,yb (λe=>by rw[e,q] at b;cases b)];exact b
 refine⟨d.t.add A u q D,d.progs,d.many,d.kinds,d.nlen,d.vals,d.nnodup,λk th b=>?_,d.one,d.acts,λm r b g _=>?_,λm r b g _=>?_,λm r b g=>?_,λm b=>?_,d.known,λm b=>?_⟩
 ·obtain⟨F,H,K⟩:=d.th k th b
  exact⟨λb=>by obtain⟨r,v,w⟩:=F b;exact⟨r,cD _ _ v,w⟩,H,K⟩
 ·rw[l] at b
  split at b
  ·rename_i e
   exact .inl (by rw[e];simp[ez])
  ·rename_i e
   rcases d.ready m r b g nF with k|⟨k,E⟩
   ·exact .inl (by simp only[ez,yH];exact .inl k)
   ·exact .inr ⟨by simp only[ez];rw[ag _ _ e];exact k,E⟩
 ·rw[l] at b
  split at b
  ·cases b;cases g
  ·rcases d.wakes m r b g nF with k|k
   ·exact .inl (by simp only[ez,yH];exact .inl k)
   ·exact .inr k
 ·rw[l] at b
  split at b
  ·cases b;cases g
  ·exact d.runs m r b g
 ·rw[l] at b
  split at b
  ·cases b
  ·exact d.outN m b
 ·by_cases e:m=n
  ·rw[e];exact u
  ·simp only[ez] at b
   rw[ag _ _ e] at b;exact d.roots m b
theorem qp{α:Type}{f:α->Int}(l:List α)(b:∀x∈l,f x=0):(l.map f).sum=0:=by
 induction l with
 |nil=>rfl
 |cons a l e=>
  rw[zc,zH,b a zh,e λx d=>b x (yV _ d)];rfl
theorem Dc{f:Nat->Int}(m:Nat)(e:f 0<=10)(b:∀k,k≠0->f k=0)(g:0<=f 0):((List.range m).map f).sum<=10:=by
 cases m with
 |zero=>simp
 |succ m=>
  rw[List.range_succ_eq_map,zc,zH,qp]
  ·omega
  ·intro x d
   obtain⟨y,_,rfl⟩:=yL.1 d;exact b _ (Nat.succ_ne_zero y)
theorem iQ.pot(d:iQ s)(n:Nm)(x:aj):pot c B (ez s n x)<=c+51+x.fuel+(2*c+60)*(B-1):=by
 have l:ga c (iC s.T n x)=c+31+x.fuel:=by
  unfold ga;have:(iC s.T n x).ks= [n]:=by simp[iC,d.ks]
  rw[this];simp only[zc,Yk,zH,List.sum_nil]
  have e:dU c (iC s.T n x) n=c+31+x.fuel:=by
   rw[fM (r:=⟨x,1,0,⟨0,0⟩,false,0,false⟩) (by rw[iD,yf rfl])];exact Dk rfl
  rw[e];omega
 have q:uy c s.ds=0:=qp _ λy C=>by
  obtain⟨_,_,D,E,F⟩:=d.ds y C;unfold mj;rw[D,E,F];simp;omega
 have H:km (ez s n x)<=10:=by
  unfold km
  have e:∀k,fh (ez s n x) k=if bh (ez s n x) k then 10 else 0:=λk=>by
   refine iH ?_;have:=d.th k;rw[show(ez s n x).th k=s.th k from rfl,this];rfl
  have A:∀k,bh (ez s n x) k->k=0:=λk b=>by
   rcases b with b|⟨b,_⟩
   ·exact absurd (d.dq k).1 b
   ·exact b
  refine Dc _ ?_ (λk b=>?_) ?_
  ·rw[e];split<;>omega
  ·rw[e,yb (λg=>b (A k g))]
  ·rw[e];split<;>omega
 have u:((ez s n x).T.ks.length:Int)=1:=by simp[ez,iC,d.ks]
 have v:((ez s n x).queue.length:Int)=1:=by simp[ez,d.queue]
 have w:(ez s n x).ds=s.ds:=rfl;have z:(ez s n x).T=iC s.T n x:=rfl;unfold Go.Proofs.YtmdocplknceilaaGreat.pot;rw[u,v,w,q,z,l];omega
end
def mE(ds:List aT):Int:=(ds.map aT.P).sum
section
variable {G:dx}{s s' s1:PS}{ex:Nm->Prop}{k j i:Nat}{n m:Nm}{r:aG}
theorem nK{l:List aT}{i:Nat}{x y:aT}(b:l[i]?=some x):mE (l.set i y)=mE l-x.P+y.P:=mM aT.P l i x y b
theorem oI{l:List aT}{i:Nat}{y:aT}(b:l[i]?=none):mE (l.set i y)=mE l:=by
 rw[List.getElem?_eq_none_iff] at b;rw[List.set_eq_of_length_le b]
def iS(s:PS):Int:=mE s.ds-s.T.ks.length-s.T.hist.length
theorem rR(s:PS)(k:Nat)(n:Nm):iS (dX s k n)=iS s:=by
 unfold dX;split
 ·rfl
 ·split<;>rfl
theorem uf(s:PS)(k:Nat)(n:Nm):iS (eE s k n)<=iS s+1:=by
 unfold iS eE;simp only
 cases h:s.ds[k]? with
 |none=>rw[oI h];omega
 |some x=>
  rw[nK h,PS.dq_eq h];simp only[eN];omega
theorem Ce(s:PS)(k:Nat)(n:Nm)(r:aG)(f:Fr)(t:aj):iS (iU s k n r f t)<=iS s:=by
 have b:∀c,iS {s with T:=bM s.T n r f c} =iS s-1:=λc=>by
  unfold iS bM;simp only[yk,zo,List.length_nil];omega
 unfold iU;split
 ·rw[b];omega
 ·split
  ·rw[b];omega
  ·exact Ya (uf _ _ _) (by rw[b];omega)
theorem tU(s:PS)(n:Nm)(r:aG)(x:aD)(ths:List Th):iS {s with T:=bE s.T n r x true,ths:=ths} =iS s-1:=by
 unfold iS bE;simp only[yR,yk,zo,List.length_nil];omega
theorem Ep(s:PS)(k:Nat):iS (eW s k)<=iS s:=by
 unfold eW;split
 ·simp only
  split
  ·exact yE _
  ·exact Ce _ _ _ _ _ _
  ·split<;>exact yE _
  ·split
   ·exact Ya (uf _ _ _) (by rw[tU];omega)
   ·rw[tU];omega
 ·exact yE _
theorem Da{d:Nat}(b:dO s k d s'):iS s'<=iS s:=by
 unfold dO at b;split at b
 ·obtain⟨x,a,s1,g,b⟩:=b
  obtain⟨v,ws',l,_⟩:=g.ex
  have e:iS s1=iS s:=by
   rw[l];unfold iS;simp only;rw[nK g.hx];show mE s.ds-x.P+x.P-_-_=_;omega
  split at b
  ·rw[b,e];exact yE _
  ·rw[b,<-e]
   unfold i9;simp only;split
   ·exact yE _
   ·split
    ·rw[rR];exact yE _
    ·split
     ·rw[rR];exact yE _
     ·split
      ·unfold jk iS
       simp only;generalize ((k+(1+d % (s1.ths.length-1))) % s1.ths.length)=q
       cases h:s1.ds[q]? with
       |none=>exact Int.le_of_eq (by rw[show(s1.setTh k {s1.th k with act:=none,kn:=0}).ds=s1.ds from rfl,oI h];rfl)
       |some x=>
        have u:(s1.setTh k {s1.th k with act:=none,kn:=0}).dq q=x:=PS.dq_eq h;rw[show(s1.setTh k {s1.th k with act:=none,kn:=0}).ds=s1.ds from rfl,nK h,u];simp only[ly,PS.setTh];omega
      ·exact yE _
 ·split at b
  ·rw[b];exact Ep s k
  ·rw[b]
   unfold mc iS;simp only
   cases h:s.ds[k]? with
   |none=>rw[oI h];omega
   |some x=>
    rw[nK h,PS.dq_eq h];simp only[nB];omega
theorem cA.hist_le{t:TS}(b:cA G t):t.hist.length<=t.ks.length:=by
 have:=gY _ t.ks b.hnodup λn e=>by
  obtain⟨⟨n',k,x⟩,d,rfl⟩:=yL.1 e;obtain⟨r,g,_⟩:=(b.hist n' k x).1 d;exact(b.ks n').2 (by rw[g];simp)
 rwa [zY] at this
end
structure fW(s s':PS):Prop where
 known:s'.known=s.known
 away:s'.away=s.away
 outs:s'.T.outs=s.T.outs
 progs:s'.progs=s.progs
 roots:s'.roots=s.roots
 c0:s'.ds.map aT.c0=s.ds.map aT.c0
section
variable {G:dx}{s s' s1 s2:PS}{ex:Nm->Prop}{k j i:Nat}{n m:Nm}{r:aG}
theorem fW.refl(s:PS):fW s s:=⟨rfl,rfl,rfl,rfl,rfl,rfl⟩
theorem fW.trans(b:fW s s1)(q:fW s1 s2):fW s s2:=⟨q.known.trans b.known,q.away.trans b.away,q.outs.trans b.outs,q.progs.trans b.progs,q.roots.trans b.roots,q.c0.trans b.c0⟩
theorem qB{l:List aT}{i:Nat}{y:aT}(e:∀x,l[i]?=some x->y.c0=x.c0):(l.set i y).map aT.c0=l.map aT.c0:=by
 apply zt;intro j;rw[yJ,yJ,zg];split
 ·rename_i d
  subst d;split
  ·rename_i b
   rw[gG b];simp only[yU,yC];exact e _ (gG b)
  ·rename_i b
   rw[zv (yA b)]
 ·rfl
theorem pC(s:PS)(k:Nat)(n:Nm):fW s (dX s k n):=by
 unfold dX;split
 ·exact fW.refl s
 ·split
  ·exact⟨rfl,rfl,rfl,rfl,rfl,rfl⟩
  ·exact fW.refl s
theorem qX(s:PS)(k:Nat)(n:Nm):fW s (eE s k n):=
 ⟨rfl,rfl,rfl,rfl,rfl,qB λx b=>by rw[PS.dq_eq b];rfl⟩
theorem vL(s:PS)(k:Nat)(n:Nm)(r:aG)(f:Fr)(t:aj):fW s (iU s k n r f t):=by
 have b:∀c,fW s {s with T:=bM s.T n r f c}:=λc=>⟨rfl,rfl,rfl,rfl,rfl,rfl⟩
 unfold iU;split
 ·exact b _
 ·split
  ·exact b _
  ·exact(b _).trans (qX _ _ _)
theorem BA(s:PS)(k:Nat):fW s (eW s k):=by
 unfold eW;split
 ·simp only
  split
  ·exact⟨rfl,rfl,rfl,rfl,rfl,rfl⟩
  ·exact vL _ _ _ _ _ _
  ·split<;>exact⟨rfl,rfl,rfl,rfl,rfl,rfl⟩
  ·have b:∀n r x ths,fW s {s with T:=bE s.T n r x true,ths:=ths}:=λn r x ths=>⟨rfl,rfl,rfl,rfl,rfl,rfl⟩
   split
   ·exact(b _ _ _ _).trans (qX _ _ _)
   ·exact b _ _ _ _
 ·exact fW.refl s
theorem rg{v:Nat}(b:dO s k v s'):fW s s':=by
 unfold dO at b;split at b
 ·obtain⟨x,a,s1,l,b⟩:=b
  obtain⟨z,ws',w,_⟩:=l.ex
  have g:fW s s1:=by
   rw[w];exact⟨rfl,rfl,rfl,rfl,rfl,qB λy q=>by rw[l.hx] at q;cases q;rfl⟩
  have d:∀(u:PS) (th:Th),fW u (u.setTh k th):=λu th=>⟨rfl,rfl,rfl,rfl,rfl,rfl⟩
  split at b
  ·rw[b];exact g
  ·rw[b]
   refine g.trans ?_;unfold i9;simp only;split
   ·exact d _ _
   ·split
    ·exact(d _ _).trans (pC _ _ _)
    ·split
     ·refine fW.trans ?_ (pC _ _ _)
      exact⟨rfl,rfl,rfl,rfl,rfl,rfl⟩
     ·split
      ·refine(d s1 {s1.th k with act:=none,kn:=0}).trans ?_
       exact⟨rfl,rfl,rfl,rfl,rfl,qB λx e=>by rw[PS.dq_eq e];rfl⟩
      ·exact d _ _
 ·split at b
  ·rw[b];exact BA s k
  ·rw[b]
   exact⟨rfl,rfl,rfl,rfl,rfl,qB λx e=>by rw[PS.dq_eq e];rfl⟩
structure pX(G:dx)(s:PS):Prop where
 inv:aH G s (λ_=>False)
 ex:iS s<=0
 c0:∀x∈s.ds,x.c0<=256
 th:s.ths.length<=8
theorem pX.step(b:pX G s)(q:k<s.ths.length){g:Nat}(d:dO s k g s'):pX G s':=by
 refine⟨b.inv.step q d,Ya (Da d) b.ex,λx u=>?_,by rw[nE d];exact b.th⟩;have e:x.c0∈s'.ds.map aT.c0:=yL.2 ⟨x,u,rfl⟩;rw[(rg d).c0] at e;obtain⟨y,v,l⟩:=yL.1 e;rw[<-l];exact b.c0 y v
theorem rk:∀(l:List aT),(∀x∈l,x.own<=260+6*x.P)->(l.map aT.own).sum<=260*(l.length:Int)+6*(l.map aT.P).sum
 | [],_=>by simp
 |a :: l,b=>by
  have e:=b a (by simp);have g:=rk l λx d=>b x (by simp[d])
  simp only[zc,zH,zo];omega
theorem pX.bd(d:pX G s)(E:s.T.ks.length<=1100):(∀x∈s.ds,x.P<=10000/\x.N<=20000)/\s.C.length<=45000:=by
 have F:=d.inv.t.hist_le;have g:=d.ex;unfold iS at g
 have e:∀x∈s.ds,0<=x.P/\x.own<=4-2*x.c0+3*x.N/\1<=x.c0:=λx b=>by
  obtain⟨i,l⟩:=yF b;have:=pK d.inv.many l;exact⟨this.1,this.2,d.inv.many.c0s i x l⟩
 have w:∀x∈s.ds,x.P<=mE s.ds:=λx b=>rO (f:=aT.P) _ (λy z=>(e y z).1) b
 constructor
 ·intro x b
  have q:=w x b;have u:=d.c0 x b;have v:=(e x b).1;refine⟨by omega,?_⟩;unfold aT.N;omega
 ·have q:=d.inv.many.sum
  have u:=rk s.ds λx b=>by
   obtain⟨H,A,K⟩:=e x b;have:=d.c0 x b;unfold aT.N at A;omega
  have v:=d.inv.nlen;have D:=d.th;unfold mE at g;omega
theorem qQ{rows:Nm->Option aG}{n:Nm}:∀{kn:Nat},(∀i,i<kn->cI rows (aF n i)=false)->dZ rows n kn=0
 |0,_=>rfl
 |kn+1,b=>by
  rw[lm,qQ λi d=>b i (by omega),b kn (by omega)];rfl
theorem aH.idle_over(d:aH G s ex)(q:∀m,¬s.T.outs m)(l:s.idle){n:Nm}{r:aG}(b:s.T.rw n=some r):r.sa=6/\r.opn=0/\r.here=true:=by
 have v:∀n r,s.T.rw n=some r->r.sa≠5:=λn r b u=>by
  obtain⟨p,x,_,_,g⟩:=(d.t.row n r b).node;exact q n (g.O.2 (.inl u))
 have e:=d.t.waits_away l v;obtain⟨p,x,_,_,g⟩:=(d.t.row n r b).node;refine⟨e n r b,?_,?_⟩
 ·rw[(d.t.row n r b).opn,qQ λi l=>?_]
  ·rfl
  ·unfold cI
   cases hc:s.T.rw (aF n i) with
   |none=>rfl
   |some c=>simp[e _ c hc]
 ·cases hh:r.here with
  |true=>rfl
  |false=>exact absurd (g.O.2 (.inr ⟨e n r b,hh⟩)) (q n)
structure BJ(got:List (Nm×Nat×aD))(want:List cW)(job:Int)(but:List UInt8->Prop):Prop where
 nodup:(got.map (·.1)).Nodup
 sound:∀g∈got,∃u∈want,g=(⟨job,u.tk.M⟩,u.kd,u.res)
 all:∀u∈want,((⟨job,u.tk.M⟩ :Nm)∈got.map (·.1)↔¬but u.tk.M)
theorem aH.one_rows(b:aH G s ex)(w:∀m,¬s.T.outs m)(z:s.idle){j:Int}{p:List ah}{x:aj}(v:G j=some (p,x))(A:s.T.rw ⟨j,[]⟩≠none){u:cW}(C:u∈aK p x):
 ∃r,s.T.rw ⟨j,u.tk.M⟩=some r:=by
 obtain⟨l,t,g,rfl⟩:=(kT _ _ (lR) _).1 C;have d:=iN _ _ _ g;rw[b.t.roots _ _ _ v] at d;simp only[List.nil_append] at d;obtain⟨r,e,_⟩:=(b.t.done_iff (λn r e=>(b.idle_over w z e).1) v A l t g).2 λq k D=>w _
 exact⟨r,by simp only;rw[d];exact e⟩
theorem aH.told_one(b:aH G s ex)(A:∀m,¬s.T.outs m)(z:s.idle){j:Int}{p:List ah}{x:aj}(v:G j=some (p,x))(H:∀C,G C≠none->C=j)(K:s.T.rw ⟨j,[]⟩≠none):BJ s.T.hist (aK p x) j (λ_=>False):=by
 refine⟨b.t.hnodup,λg w=>?_,λu L=>?_⟩
 ·obtain⟨⟨N,l⟩,k,y⟩:=g
  obtain⟨r,d,Q,R,rfl,rfl⟩:=(b.t.hist _ _ _).1 w;obtain⟨W,X,F,S,V⟩:=(b.t.row _ r d).node;have:=H _ (by rw[F];simp:G (⟨N,l⟩ :Nm).job≠none);simp only at this;subst this;obtain⟨u,e,D,q,P⟩:=b.t.hist_node v w;exact⟨⟨u,bH p u,(aS p u).length⟩,(kT _ _ (lR) _).2 ⟨l,u,e,rfl⟩,by simp only;rw[D,q,P]⟩
 ·obtain⟨r,d⟩:=b.one_rows A z v K L
  obtain⟨e,D,q⟩:=b.idle_over A z d;exact⟨λ_ E=>E,λ_=>yL.2 ⟨_,(b.t.hist _ _ _).2 ⟨r,d,e,q,rfl,rfl⟩,rfl⟩⟩
theorem Am{G:dx}{j:Int}{p:List ah}{x:aj}:((aK p x).map λu=>(⟨j,u.tk.M⟩ :Nm)).Nodup:=by
 have e:=uL p _ x (lR);rw[show(aK p x).map (λu=>(⟨j,u.tk.M⟩ :Nm))=((aK p x).map λu=>u.tk.M).map (λl=>(⟨j,l⟩ :Nm)) by rw[List.map_map];rfl];exact List.Pairwise.map _ (λa b g d=>g (yl Nm.M d)) e
theorem aH.keys_one(d:aH G s ex)(w:∀m,¬s.T.outs m)(l:s.idle){j:Int}{p:List ah}{x:aj}(e:G j=some (p,x))(q:∀b,G b≠none->b=j)(A:s.T.rw ⟨j,[]⟩≠none):s.T.ks.length=(aK p x).length:=by
 apply yT
 ·have:=d.t.keys_le [j] (λb g=>by rw[q b g];simp)
  simpa[jb,e] using this
 ·have:=gY ((aK p x).map λu=>(⟨j,u.tk.M⟩ :Nm)) s.T.ks (Am (G:=G)) λn v=>by
   obtain⟨u,C,rfl⟩:=yL.1 v;obtain⟨r,z⟩:=d.one_rows w l e A C;exact(d.t.ks _).2 (by rw[z];simp)
  simpa using this
end
section
variable {p:List ah}{f:Fr}{o:bI}{t:aj}{y:aD}
theorem qL(f:Fr)(o:bI):(f.joins o).1.kd=f.kd:=by
 unfold Fr.joins;split
 ·rfl
 ·simp only
  split
  ·rfl
  ·split<;>rfl
theorem oh(b:(f.joins o).2=some (.fork t)):False:=by
 unfold Fr.joins at b;split at b
 ·cases b
 ·simp only at b
  split at b
  ·cases b
  ·split at b<;>cases b
theorem pJ(u:∀(i:Nat) c,f.kd[i]?=some c->i<f.joined->c.given=true)(b:(f.joins o).2=some (.done y)):∀c∈f.kd,c.given=true:=by
 unfold Fr.joins at b;split at b
 ·cases b
 ·rename_i g
  intro c d;obtain⟨i,e⟩:=yF d
  by_cases l:i<f.joined
  ·exact u i c e l
  ·have q:c∈f.os:=by
    unfold Fr.os;refine yh (i:=i-f.joined) ?_;rw[zN,show f.joined+(i-f.joined)=i by omega];exact e
   cases d:c.given with
   |true=>rfl
   |false=>exact absurd (zT.2 ⟨c,q,by simp[d]⟩) g
theorem so(b:(f.step p).2=some (.fork t)):∃c,(f.step p).1.kd=f.kd++ [c]/\c.given=false:=by
 unfold Fr.step at b ⊢;split at b
 ·cases b
 ·rename_i l
  rw[yb l];simp only at b ⊢;split at b
  ·rename_i g
   rw[yf g];unfold Fr.forks at b ⊢;split at b
   ·cases b
   ·rename_i d
    rw[yb d];split at b
    ·cases b
    ·rename_i e
     rw[yb e];exact⟨_,rfl,rfl⟩
  ·split at b
   ·exact(oh b).elim
   ·split at b<;>cases b
theorem rf(g:∀(i:Nat) c,f.kd[i]?=some c->i<f.joined->c.given=true)(b:(f.step p).2=some (.done y))(d:y.e=0):∀c∈f.kd,c.given=true:=by
 unfold Fr.step at b;split at b
 ·cases b
  exact absurd d (by decide)
 ·simp only at b
  split at b
  ·unfold Fr.forks at b
   split at b
   ·cases b;exact absurd d (by decide)
   ·split at b
    ·cases b;exact absurd d (by decide)
    ·cases b
  ·split at b
   ·exact pJ (f:={f with left:=f.left-1,at_:=f.at_+1}) g b
   ·split at b
    ·cases b;exact absurd d (by decide)
    ·cases b
theorem rj{x:Fr×Option iR}(d:(cz x).2=.fork t):x.2=some (.fork t):=by
 obtain⟨a,b⟩:=x
 cases b with
 |none=>cases d
 |some s=>exact yl some d
theorem rh{x:Fr×Option iR}(d:(cz x).2=.done y):x.2=some (.done y):=by
 obtain⟨a,b⟩:=x
 cases b with
 |none=>cases d
 |some s=>exact yl some d
theorem Bw(b:(f.run1 p).2=.fork t):∃c,(f.run1 p).1.kd=f.kd++ [c]/\c.given=false:=by
 unfold Fr.run1 at b ⊢;split at b
 ·exact so (rj b)
 ·rename_i o _
  have d:=qL f o
  cases hj:f.joins o with
  |mk f' s=>
   rw[hj] at b d;simp only at b d ⊢
   cases s with
   |some s=>
    simp only at b;subst b;exact(oh (f:=f) (o:=o) (t:=t) (by rw[hj])).elim
   |none=>
    simp only at b ⊢;obtain⟨c,e,g⟩:=so (rj b);exact⟨c,by rw[<-d];exact e,g⟩
theorem wW{w:List aD}(e:gF f w)(b:(f.run1 p).2=.done y)(q:y.e=0):∀c∈f.kd,c.given=true:=by
 unfold Fr.run1 at b;split at b
 ·exact rf e.old (rh b) q
 ·rename_i o v
  have l:=qL f o
  cases hj:f.joins o with
  |mk f' s=>
   rw[hj] at b l;simp only at b l
   cases s with
   |some s=>
    simp only at b;subst b;exact pJ e.old (by rw[hj])
   |none=>
    simp only at b
    rcases og e (p:=p) o (.inr v) with⟨g,d,_⟩|⟨g,r,d,_⟩|⟨g,d,u,_⟩
    ·rw[hj] at d;cases d
    ·rw[hj] at d;cases d
    ·rw[hj] at d
     cases d
     have:=rf u.old (rh b) q
     rwa [l] at this
end
structure lF(s:PS):Prop where
 given:∀n f i c,s.T.fm n=some f->f.kd[i]?=some c->c.given=true->∃r,s.T.rw (aF n i)=some r/\r.sa=6
 order:∀n k y a b,s.T.hist=a++(n,k,y) :: b->y.e=0->∀i,i<k->aF n i∈a.map (·.1)
section
variable {G:dx}{s s' s1:PS}{ex:Nm->Prop}{k j i:Nat}{n m:Nm}{r:aG}
theorem lF.ofT(d:lF s)(b:s'.T=s.T):lF s':=⟨by rw[b];exact d.given,by rw[b];exact d.order⟩
theorem rT(e:lF s)(k:Nat)(n:Nm):lF (dX s k n):=by
 unfold dX;split
 ·exact e
 ·rename_i r w
  split
  ·rename_i A
   refine⟨λm f i c v l q=>?_,e.order⟩
   have cD:∀m i,(∃r,s.T.rw (aF m i)=some r/\r.sa=6)->∃r',ay s.T.rw n (some {r with sa:=2}) (aF m i)=some r'/\r'.sa=6:=λm i ⟨r',g,u⟩=>by
    by_cases d:aF m i=n
    ·rw[d,w] at g
     cases g
     omega
    ·exact⟨r',by rw[ag _ _ d];exact g,u⟩
   refine cD m i ?_;have b:ay s.T.fm n (some ((s.T.fm n).getD (Fr.begun (s.prog n.job) r.tk))) m=some f:=v
   by_cases d:m=n
   ·subst d
    rw[aA] at b
    cases hfr:s.T.fm m with
    |none=>
     rw[hfr] at b
     cases b
     simp[Fr.begun] at l
    |some z=>
     rw[hfr] at b
     cases b
     exact e.given _ _ _ _ hfr l q
   ·rw[ag _ _ d] at b
    exact e.given _ _ _ _ b l q
  ·exact e
theorem n9(rows:Nm->Option aG)(n:Nm):∀(l:List Nat) (f:Fr) (i:Nat) (c:cZ),(bR rows n l f).kd[i]?=some c->(∃c',f.kd[i]?=some c'/\(c=c'\/i∈l))
 | [],f,i,c,d=>⟨c,d,.inl rfl⟩
 |a :: l,f,i,c,d=>by
  simp only[bR] at d;obtain⟨c',b,g⟩:=n9 rows n l _ i c d;simp only[Fr.give,zg] at b;split at b
  ·rename_i e
   subst e;split at b
   ·rename_i q
    exact⟨f.kd[a],gG q,.inr zh⟩
   ·cases b
  ·exact⟨c',b,g.imp id (yV _)⟩
theorem rA(u:lF s)(z:s.T.rw n=some r)(A:r.sa=2){st:Nat}{f':Fr}(w:∀i c,f'.kd[i]?=some c->c.given=true->∃r,s.T.rw (aF n i)=some r/\r.sa=6):∀m f i c,(iJ s.T n r st f').fm m=some f->f.kd[i]?=some c->c.given=true->∃r',(iJ s.T n r st f').rw (aF m i)=some r'/\r'.sa=6:=by
 intro m f i c b l q
 have cD:∀m i,(∃r,s.T.rw (aF m i)=some r/\r.sa=6)->∃r',ay s.T.rw n (some {r with sa:=st}) (aF m i)=some r'/\r'.sa=6:=λm i ⟨r',e,v⟩=>by
  by_cases b:aF m i=n
  ·rw[b,z] at e
   cases e
   omega
  ·exact⟨r',by rw[ag _ _ b];exact e,v⟩
 refine cD m i ?_;have d:ay s.T.fm n (some f') m=some f:=b
 by_cases g:m=n
 ·subst g
  rw[aA] at d
  cases d
  exact w i c l q
 ·rw[ag _ _ g] at d
  exact u.given _ _ _ _ d l q
theorem Db(g:lF s)(P:aH G s ex)(b6:∀m,s.known m=none)(b0:∀m,s.away m=false)(b9:∀m,¬s.T.outs m)(b5:k<s.ths.length){an:Nat}(A:dO s k an s'):lF s':=by
 unfold dO at A;split at A
 ·obtain⟨x,a,s1,a9,A⟩:=A
  obtain⟨bo,ws',l,_⟩:=a9.ex;have e:lF s1:=g.ofT (by rw[l]);split at A
  ·rw[A];exact e
  ·rw[A]
   unfold i9;simp only;split
   ·exact e.ofT rfl
   ·split
    ·exact rT (lF.ofT (s:=s1) (s':=s1.setTh k {s1.th k with act:=none,kn:=0}) e rfl) _ _
    ·split
     ·exact rT (lF.ofT (s:=s1) (s':={s1.setTh k {s1.th k with act:=none,kn:=0} with queue:=s1.queue.tail}) e rfl) _ _
     ·split
      ·exact e.ofT rfl
      ·exact e.ofT rfl
 ·split at A
  ·rename_i bb
   rw[A];have b4:=fH (d:=mN) b5;obtain⟨r,p,x,f,v,Z,az,aE,V,N,a0⟩:=P.current b4 bb;change s.T.rw (s.th k).cur=some r at v;change s.T.fm (s.th k).cur=some f at V;change s.prog (s.th k).cur.job=p at a0;generalize bk:s.th k=th at v az aE V a0;have X:lI p f (jw p r.tk r.kn) (f.run1 p):=jS N.ok N.res;have R:∀i c,f.kd[i]?=some c->c.given=true->∃r,s.T.rw (aF th.cur i)=some r/\r.sa=6:=λi c u w=>g.given _ _ _ _ V u w
   unfold eW;rw[bk,v,V];simp only;rw[a0];split
   ·rename_i D
    refine⟨rA g v Z ?_,g.order⟩;rw[(X.mo D).2.2.2.1];exact R
   ·rename_i t D
    have a2:f.run1 p=((f.run1 p).1,.fork t):=by rw[<-D]
    obtain⟨bq,bn,br⟩:=lc P.t v N (a2 ▸ X);obtain⟨am,ar,av⟩:=Bw D
    have b1:∀K:aG,∀m L i c,(bM s.T th.cur r (f.run1 p).1 K).fm m=some L->L.kd[i]?=some c->c.given=true->∃r',(bM s.T th.cur r (f.run1 p).1 K).rw (aF m i)=some r'/\r'.sa=6:=by
     intro K m L i c a4 u w
     have cD:∀m i,(∃r,s.T.rw (aF m i)=some r/\r.sa=6)->∃r',(bM s.T th.cur r (f.run1 p).1 K).rw (aF m i)=some r'/\r'.sa=6:=λm i ⟨r',e,F⟩=>by
      unfold bM;simp only;have bm:aF m i≠aF th.cur r.kn:=λl=>by rw[l,bn] at e;cases e
      have E:aF m i≠th.cur:=λl=>by rw[l,v] at e;cases e;omega
      exact⟨r',by rw[ag _ _ bm,ag _ _ E];exact e,F⟩
     refine cD m i ?_;have C:ay s.T.fm th.cur (some (f.run1 p).1) m=some L:=a4
     by_cases Q:m=th.cur
     ·subst Q
      rw[aA] at C
      cases C
      rw[ar] at u
      by_cases H:i<f.kd.length
      ·rw[yi H] at u
       exact R i c u w
      ·rw[yK (yA H)] at u
       have:c=am:=by
        have:=yh u
        simpa using this
       rw[this,av] at w
       cases w
     ·rw[ag _ _ Q] at C
      exact g.given _ _ _ _ C u w
    unfold iU;rw[b6];simp only;rw[yb (by rw[b0];decide)];exact lF.ofT (s:={s with T:=bM s.T th.cur r (f.run1 p).1 ⟨t,1,0,⟨0,0⟩,true,0,false⟩}) ⟨b1 _,g.order⟩ rfl
   ·rename_i D
    have ad:=(X.join D).2.2.2.1;split
    ·refine⟨rA g v Z ?_,g.order⟩
     rw[ad];exact R
    ·rename_i b7
     have b7:r.opn=0:=by omega
     refine⟨rA g v Z ?_,g.order⟩;intro i c u w;obtain⟨c',e,F⟩:=n9 _ _ _ _ _ _ u;rw[ad] at e
     rcases F with l|bp
     ·subst l
      exact R i _ e w
     ·have H:i<r.kn:=by
       have:=(gS e).1
       rwa [N.kd] at this
      have b8:=nu (rows:=s.T.rw) (n:=th.cur) (kn:=r.kn) (by have:=(P.t.row _ r v).opn;omega) i H;obtain⟨_,_,K,_,_,S,_⟩:=P.t.child v H;refine⟨K,S,?_⟩
      simpa[cI,S] using b8
   ·rename_i y D
    have a9:=X.done y D
    have a8:lF {s with T:=bE s.T th.cur r y true,ths:=s.ths.set k {th with cur:=gU,run:=false}}:=by
     have ba:∀m i,(∃r,s.T.rw (aF m i)=some r/\r.sa=6)->∃r',(bE s.T th.cur r y true).rw (aF m i)=some r'/\r'.sa=6:=λm i ⟨r',e,F⟩=>by
      have E:aF m i≠th.cur:=λl=>by rw[l,v] at e;cases e;omega
      unfold bE;simp only
      cases hfk:r.fk with
      |false=>exact⟨r',by simp only;rw[ag _ _ E];exact e,F⟩
      |true=>cases hq:s.T.rw (dI th.cur) with
       |none=>exact⟨r',by simp only;rw[ag _ _ E];exact e,F⟩
       |some q=>
        simp only
        by_cases l:aF m i=dI th.cur
        ·rw[l] at e ⊢
         rw[hq] at e
         cases e
         refine⟨_,aA _ _ _,?_⟩;unfold fc;simp only;rw[yb (by omega)];exact F
        ·exact⟨r',by rw[ag _ _ l,ag _ _ E];exact e,F⟩
     refine⟨λm L i c a4 u w=>ba m i ?_,?_⟩
     ·have C:ay s.T.fm th.cur none m=some L:=a4
      by_cases Q:m=th.cur
      ·subst Q
       rw[aA] at C
       cases C
      ·rw[ag _ _ Q] at C
       exact g.given _ _ _ _ C u w
     ·intro E a5 a6 a b a2 ai i H
      have a3:s.T.hist++ [(th.cur,r.kn,y)] =a++(E,a5,a6) :: b:=a2
      rcases List.eq_nil_or_concat b with a1|⟨a7,z,a1⟩
      ·subst a1
       have W:=List.append_inj' a3 rfl;have aw:=(List.cons.inj W.2).1
       cases aw
       rw[<-W.1];have b2:=wW N.ok D ai;have ab:i<f.kd.length:=by rw[N.kd];exact H
       obtain⟨Y,al,S⟩:=R i f.kd[i] (gG ab) (b2 _ (yN ab))
       have b3:Y.here=true:=by
        obtain⟨_,_,_,_,bf⟩:=(P.t.row _ Y al).node
        cases hhe:Y.here with
        |true=>rfl
        |false=>exact absurd (bf.O.2 (.inr ⟨S,hhe⟩)) (b9 _)
       exact yL.2 ⟨_,(P.t.hist _ _ _).2 ⟨Y,al,S,b3,rfl,rfl⟩,rfl⟩
      ·rw[a1] at a3
       have:s.T.hist++ [(th.cur,r.kn,y)] =(a++(E,a5,a6) :: a7)++ [z]:=by rw[a3];simp
       have W:=List.append_inj' this rfl;exact g.order E a5 a6 a a7 W.1 ai i H
    split
    ·exact a8.ofT rfl
    ·exact a8
  ·rw[A]
   exact g.ofT rfl
end
end
section
def dA:List ah:=[⟨1,2,[⟨12,1,0,0,1⟩,⟨13,0,0,0,0⟩,⟨3,1,1,1,0⟩,⟨14,0,1,0,0⟩]⟩,⟨1,1,[⟨14,0,0,0,0⟩]⟩]
def fg:aj:=⟨[],0,[4],20⟩
def j9:aj:=⟨[1],1,[4],9⟩
theorem uk{p:List ah}{path:List UInt8}{fn at_:Int}{l kids:Nat}{regs:List Int}{ws:List (Int×aD)}(b:(bu p fn at_).k=14)(d:cC ws=0):cN p path fn (l+1) regs at_ kids ws=(⟨ct (dC ws regs) (bu p fn at_).a,0⟩,[]):=by
 rw[cN];simp only[b,d];simp
theorem Bz{p:List ah}{path:List UInt8}{fn at_:Int}{l kids:Nat}{regs:List Int}{ws:List (Int×aD)}(b:(bu p fn at_).k=13)(d:cC ws=0):cN p path fn (l+1) regs at_ kids ws=cN p path fn l (dC ws regs) (at_+1) kids []:=by
 rw[cN];simp only[b,d];simp
theorem CY{p:List ah}{path:List UInt8}{fn at_:Int}{l kids:Nat}{regs:List Int}{ws:List (Int×aD)}(e:(bu p fn at_).k=3):cN p path fn (l+1) regs at_ kids ws=cN p path fn l (jh regs (bu p fn at_).d (IntKind.i64.wrap (ct regs (bu p fn at_).a+ct regs (bu p fn at_).b))) (at_+1) kids ws:=by
 rw[cN];simp only[e,dE,dt];simp
theorem By{p:List ah}{path:List UInt8}{fn at_:Int}{l kids:Nat}{regs:List Int}{ws:List (Int×aD)}(b:(bu p fn at_).k=12)(e:¬16<=kids)(g:¬12<=path.length)(t:aj)(q:t=dc p path kids (bu p fn at_) regs l)(x:aD)(u:x=(cN p t.M t.fn (l / 2) (gW p t.fn t.args) 0 0 []).1):
 cN p path fn (l+1) regs at_ kids ws=((cN p path fn (l-l / 2) regs (at_+1) (kids+1) (ws++ [((bu p fn at_).d,x)])).1,t :: (cN p path fn (l-l / 2) regs (at_+1) (kids+1) (ws++ [((bu p fn at_).d,x)])).2):=by
 subst u q;rw[cN];simp only[b,e,g,yR,Yi]
theorem rY:qk dA j9=(⟨4,0⟩,[]):=uk (l:=8) (p:=dA) (path:=[1]) (fn:=1) (at_:=0) (regs:=[4]) (ws:=[]) rfl rfl
theorem xW:qk dA fg=(⟨8,0⟩,[j9]):=by
 have g:cN dA [] 0 8 [4,8] 3 1 [] =(⟨8,0⟩,[]):=uk (l:=7) rfl rfl;have e:cN dA [] 0 9 [4,4] 2 1 [] =(⟨8,0⟩,[]):=(CY (l:=8) rfl).trans g;have d:cN dA [] 0 10 [4,0] 1 1 [(1,⟨4,0⟩)] =(⟨8,0⟩,[]):=(Bz (l:=9) rfl rfl).trans e;have b:=By (p:=dA) (path:=[]) (fn:=0) (at_:=0) (l:=19) (kids:=0) (regs:=[4,0]) (ws:=[]) rfl (by decide) (by decide) j9 rfl ⟨4,0⟩ (by rw[show(⟨4,0⟩ :aD)=(qk dA j9).1 by rw[rY]];rfl);refine(show qk dA fg=cN dA [] 0 (19+1) [4,0] 0 0 [] from rfl).trans (b.trans ?_);show((cN dA [] 0 10 [4,0] 1 1 [(1,⟨4,0⟩)]).1,j9 :: (cN dA [] 0 10 [4,0] 1 1 [(1,⟨4,0⟩)]).2)=_;rw[d]
theorem mz:aK dA fg= [⟨fg,⟨8,0⟩,1⟩,⟨j9,⟨4,0⟩,0⟩]:=by
 have b:aK dA j9= [⟨j9,⟨4,0⟩,0⟩]:=by
  rw[fG];unfold bH aS;rw[rY];rfl
 rw[fG];unfold bH aS;rw[xW];simp[b]
theorem EF{α β:Type}(f:α->β)(c:α):∀(l:List α),(∀x∈l,x=c)->(l.map f).Nodup->l≠[]->l= [c]
 | [],_,_,d=>absurd rfl d
 | [a],d,_,_=>by rw[d a (by simp)]
 |a :: b :: l,d,e,_=>by
  rw[d a (by simp),d b (by simp)] at e;simp at e
theorem vM{hist:List (Nm×Nat×aD)}(l:BJ hist (aK dA fg) 1 (λ_=>False))(F:∀n k y a b,hist=a++(n,k,y) :: b->y.e=0->∀i,i<k->aF n i∈a.map (·.1)):
 hist= [(⟨1,[1]⟩,0,⟨4,0⟩),(⟨1,[]⟩,1,⟨8,0⟩)]:=by
 rw[mz] at l
 have w:∀g∈hist,g=((⟨1,[]⟩ :Nm),1,(⟨8,0⟩ :aD))\/g=((⟨1,[1]⟩ :Nm),0,(⟨4,0⟩ :aD)):=λg q=>by
  obtain⟨u,D,d⟩:=l.sound g q;simp only[yG,zV,or_false] at D
  rcases D with rfl|rfl
  ·exact .inl d
  ·exact .inr d
 have H:((⟨1,[]⟩ :Nm))∈hist.map (·.1):=(l.all ⟨fg,⟨8,0⟩,1⟩ (by simp)).2 nF;obtain⟨g,q,A⟩:=yL.1 H
 have P:g=((⟨1,[]⟩ :Nm),1,(⟨8,0⟩ :aD)):=by
  rcases w g q with d|d
  ·exact d
  ·rw[d] at A
   exact absurd (yl Nm.M A) (by decide)
 subst P;obtain⟨a,b,e⟩:=List.append_of_mem q;have z:=F _ _ _ a b e rfl 0 (by decide);have C:=l.nodup;rw[e,yS,zc] at C;have v:=zy.1 C;have Q:=List.nodup_cons.1 v.2.1
 have K:∀x∈a,x=((⟨1,[1]⟩ :Nm),0,(⟨4,0⟩ :aD)):=λx E=>by
  rcases w x (by rw[e];simp[E]) with d|d
  ·exact absurd rfl (v.2.2 x.1 (List.mem_map_of_mem E) x.1 (by rw[d];simp))
  ·exact d
 have N:b= []:=by
  cases b with
  |nil=>rfl
  |cons x b=>
   exfalso
   rcases w x (by rw[e];simp) with d|d
   ·exact Q.1 (by rw[d];simp)
   ·refine v.2.2 _ z _ ?_ rfl
    rw[d];simp[aF]
 have L:=EF (·.1) _ a K v.1 (λd=>by rw[d] at z;simp at z);rw[e,L,N];rfl
end
end Go.Proofs.YtmdocplknceilaaGreat
