import Derived.Test.YtmdocplknceilaaGreatNWAI
set_option linter.all false
namespace Go.Proofs.YtmdocplknceilaaGreat
section
open Classical
section
variable {G:dx}{s s' s1:PS}{ex:Nm->Prop}{k j i:Nat}{x:aT}{a:aC}
theorem aH.exMono{ex':Nm->Prop}(b:aH G s ex)(o:∀n,ex n->ex' n):aH G s ex':=
 ⟨b.t,b.progs,b.many,b.kinds,b.nlen,b.vals,b.nnodup,b.th,b.one,b.acts,λn r e g l=>b.ready n r e g (λd=>l (o n d)),λn r e g l=>b.wakes n r e g (λd=>l (o n d)),b.runs,b.outN,b.known,b.roots⟩
theorem sX{r:jX}{L b:List Int}(d:mQ a r L b):∀v∈b,v∈L:=by
 intro v hv
 rcases d with⟨_,_,_,rfl⟩|⟨_,⟨_,_,_,rfl⟩|⟨_,_,rfl⟩|⟨_,_,_,rfl,rfl⟩|⟨_,_,rfl⟩|⟨_,_,_,rfl⟩⟩
 ·exact hv
 ·exact hv
 ·simp[hv]
 ·exact hv
 ·simp[hv]
 ·exact hv
theorem BR{r:jX}{L e:List Int}(g:mQ a r L e):∀v∈L,v∈e\/(r.what=2/\v=r.val):=by
 intro v hv
 rcases g with⟨_,_,_,rfl⟩|⟨_,⟨_,_,_,rfl⟩|⟨_,d,rfl⟩|⟨_,_,_,rfl,rfl⟩|⟨_,d,rfl⟩|⟨_,_,_,rfl⟩⟩
 ·exact .inl hv
 ·exact .inl hv
 ·rcases yH.1 hv with b|b
  ·exact .inl b
  ·exact .inr ⟨d,yw.1 b⟩
 ·exact .inl hv
 ·rcases yG.1 hv with b|b
  ·exact .inr ⟨d,b⟩
  ·exact .inl b
 ·exact .inl hv
theorem xJ{r:jX}{L d:List Int}(e:mQ a r L d)(g:r.what≠0):r.a.td=r.what:=by
 rcases e with⟨b,_⟩|⟨b,_⟩
 ·exact absurd b g
 ·exact b
theorem rU{r:jX}{L b:List Int}(d:mQ a r L b)(o:r.what=0):r.a.td=0/\b=L:=by
 rcases d with⟨_,_,e,g⟩|⟨l,d⟩
 ·exact⟨e,g⟩
 ·omega
theorem PS.dq_eq(b:s.ds[k]?=some x):s.dq k=x:=kR b
theorem PS.th_eq{th:Th}(b:s.ths[k]?=some th):s.th k=th:=kR b
theorem qm{α:Type}{l:List α}{i:Nat}{x:α}(d:l[i]?=some x):l.set i x=l:=by
 apply zt;intro j
 by_cases b:j=i
 ·subst b;rw[bD (gS d).1,d]
 ·rw[dF b]
theorem aH.dstepG{ex':Nm->Prop}(e:aH G s ex){th th':Th}(W:s.ths[k]?=some th)(bp:th.act=some (j,i))(c1:oP s j i x a s1)(az:th'.run=th.run)(al:th'.cur=th.cur)(bf:th'.act=none\/th'.act=th.act)
 (bb:Ey (s1.setTh k th') k th') (bm:∀n,ex n->ex' n) (c2:(pstep x.d s.C a).what=2->∀n,s.nms[(pstep x.d s.C a).val.toNat]?=some n->ex' n):aH G (s1.setTh k th') ex':=by
 obtain⟨N,a8,b3,ws',o,c5,bk,c3⟩:=c1;obtain⟨ci,ce,b8,b9,ba,cf⟩:=(e.th k th W).act j i bp;rw[N] at b8
 cases b8
 rw[a8] at b9
 cases b9
 have aE:=sX bk;have cb:=BR bk;have cg:=(e.many.each j x N).kinds i a a8 ba;have ch:=(e.many.each j x N).onk;generalize pstep x.d s.C a=r at*;have an:j<s.ds.length:=(gS N).1;have c4:k<s.ths.length:=(gS W).1;obtain⟨y,a5⟩:=eX (⟨x.d,ws',x.acts.set i r.a,x.on,b3,x.own+((r.C.length:Int)-s.C.length),x.P,x.c0⟩ :aT);rw[<-a5] at o;obtain⟨q,H⟩:=eX (s1.setTh k th');rw[<-H] at bb ⊢;have Q:q.ds=s.ds.set j y:=by rw[H,o];rfl
 have a4:q.ths=s.ths.set k th':=by rw[H,o];rfl
 have a1:q.T=s.T:=by rw[H,o];rfl
 have a9:q.nms=s.nms:=by rw[H,o];rfl
 have bo:q.queue=s.queue:=by rw[H,o];rfl
 have c9:q.roots=s.roots:=by rw[H,o];rfl
 have c6:fC q.C q.ds:=by rw[H];exact c5
 have b0:y.L=b3:=by rw[a5]
 have c8:own x.acts x.on=none->own y.acts y.on=none:=by
  intro D;rw[a5];have aw:x.on≠some i:=λaw=>by simp only[aw,own,a8,ba,yR] at D;cases D
  simp only;rw[eH aw];exact D
 have am:∀l,((s.dq l).L= []->(q.dq l).L= [])/\(own (s.dq l).acts (s.dq l).on=none->own (q.dq l).acts (q.dq l).on=none):=by
  intro l
  by_cases V:l=j
  ·subst V
   rw[PS.dq_eq (show q.ds[l]?=some y by rw[Q];exact bD an),PS.dq_eq N];refine⟨λD=>?_,c8⟩;rw[b0];rw[D] at aE;exact List.eq_nil_iff_forall_not_mem.2 λv hv=>by simpa using aE v hv
  ·have:q.dq l=s.dq l:=by unfold PS.dq;rw[Q,yc,yc,dF V]
   rw[this];exact⟨λe=>e,λe=>e⟩
 have bn:∀n,¬ex' n->s.inL n->q.inL n:=by
  rintro n c7 ⟨l,z,v,g,F,E⟩
  by_cases V:l=j
  ·subst V
   rw[N] at g
   cases g
   rcases cb v F with u|⟨u,rfl⟩
   ·exact⟨l,y,v,by rw[Q];exact bD an,by rw[b0];exact u,by rw[a9];exact E⟩
   ·exact absurd (c2 u n E) c7
  ·exact⟨l,z,v,by rw[Q,dF V];exact g,F,by rw[a9];exact E⟩
 refine⟨by rw[a1];exact e.t,by rw[H,o];exact e.progs,c6,λz S b a2=>?_,by rw[Q,yI,a4,yI];exact e.nlen,λz S v hv=>?_,by rw[a9];exact e.nnodup,λl A K=>?_,λl l' A a6 R K w g F=>?_,λl l' A a6 b2 R K w g=>?_,
  λn r g F E=>?_,λn r g F E=>?_,λn r g F=>?_,by rw[H,o];exact e.outN,by rw[H,o];exact e.known,by rw[H,o];exact e.roots⟩
 ·rw[Q] at S
  rcases mK S with rfl|S
  ·rw[a5] at a2
   rcases mK a2 with rfl|a2
   ·rw[c3];exact e.kinds x (yh N) a (yh a8)
   ·exact e.kinds x (yh N) b a2
  ·exact e.kinds z S b a2
 ·rw[Q] at S
  rw[a9]
  rcases mK S with rfl|S
  ·rw[b0] at hv;exact e.vals x (yh N) v (aE v hv)
  ·exact e.vals z S v hv
 ·rw[a4] at K
  rcases dG K with⟨rfl,rfl⟩|⟨ar,K⟩
  ·exact bb
  have ai:=e.th l A K;refine⟨by rw[a1];exact ai.run,λa7=>(am l).2 (ai.free a7),λY b1 a7=>?_⟩;obtain⟨cd,Z,ad,b5,b6,a0⟩:=ai.act Y b1 a7
  have b7:A.kn=1/\Y=l/\Z.kn=0\/A.kn=2/\Y=l/\Z.kn=1/\A.run=false\/A.kn=3/\Y≠l/\Z.kn=2/\A.run=false/\(q.dq l).L= []/\own (q.dq l).acts (q.dq l).on=none:=by
   rcases a0 with a0|a0|⟨bq,br,bt,bv,bx,bz⟩
   ·exact .inl a0
   ·exact .inr (.inl a0)
   ·exact .inr (.inr ⟨bq,br,bt,bv,(am l).1 bx,(am l).2 bz⟩)
  by_cases b4:Y=j
  ·subst b4
   rw[N] at ad
   cases ad
   have ab:b1≠i:=λab=>by
    subst ab;exact e.acts k l th A (Y,b1) (λo=>ar o.symm) W K bp a7
   exact⟨y,Z,by rw[Q];exact bD an,by rw[a5];simp only;rw[cJ ab];exact b5,b6,b7⟩
  ·exact⟨cd,Z,by rw[Q,dF b4];exact ad,b5,b6,b7⟩
 ·rw[a4] at K w
  rcases dG K with⟨rfl,rfl⟩|⟨ar,a3⟩
  ·rcases dG w with⟨o,_⟩|⟨av,w⟩
   ·exact absurd o.symm R
   ·rw[al];exact e.one l l' th a6 R W w (by rw[<-az];exact g) F
  ·rcases dG w with⟨rfl,rfl⟩|⟨av,w⟩
   ·rw[al];exact e.one l l' A th R a3 W g (by rw[<-az];exact F)
   ·exact e.one l l' A a6 R a3 w g F
 ·rw[a4] at K w
  rcases dG K with⟨rfl,rfl⟩|⟨ar,a3⟩
  ·rcases dG w with⟨o,_⟩|⟨av,w⟩
   ·exact absurd o.symm R
   ·rcases bf with D|D
    ·rw[D] at g;cases g
    ·exact e.acts l l' th a6 b2 R W w (by rw[<-D];exact g)
  ·rcases dG w with⟨rfl,rfl⟩|⟨av,w⟩
   ·rcases bf with D|D
    ·rw[D];simp
    ·rw[D];exact e.acts l l' A th b2 R a3 W g
   ·exact e.acts l l' A a6 b2 R a3 w g
 ·rw[a1] at g
  rw[bo,c9]
  rcases e.ready n r g F (λu=>E (bm n u)) with u|⟨u,X⟩
  ·exact .inl u
  ·exact .inr ⟨u,bn n E X⟩
 ·rw[a1] at g
  rw[bo]
  rcases e.wakes n r g F (λu=>E (bm n u)) with u|X
  ·exact .inl u
  ·exact .inr (bn n E X)
 ·rw[a1] at g
  obtain⟨l,A,E,u,X⟩:=e.runs n r g F;rw[a4]
  by_cases V:l=k
  ·subst V
   rw[W] at E
   cases E
   exact⟨l,th',bD c4,by rw[az];exact u,by rw[al];exact X⟩
  ·exact⟨l,A,by rw[dF V];exact E,u,X⟩
theorem aH.dstep(q:aH G s ex){th:Th}(l:s.ths[k]?=some th)(o:th.act=some (j,i))(t:oP s j i x a s1)(V:(pstep x.d s.C a).what=0):aH G s1 ex:=by
 have z:s1.setTh k th=s1:=by
  obtain⟨_,_,_,_,b,_⟩:=t;rw[b];simp only[PS.setTh];rw[qm l]
 have P:=t;obtain⟨A,y,W,ws',b,a1,N,R⟩:=P;obtain⟨a4,X,v,w,Y,e⟩:=(q.th k th l).act j i o;rw[A] at v
 cases v
 rw[y] at w
 cases w
 obtain⟨T,a0⟩:=rU N V;rw[<-z];refine q.dstepG l o t rfl rfl (.inr rfl) ?_ (λn S=>S) (λZ=>by omega);rw[z];have L:=q.th k th l;have Q:j<s.ds.length:=(gS A).1;generalize pstep x.d s.C a=r at*;refine⟨by rw[b];exact L.run,λg=>(by rw[o] at g;cases g),λa3 a2 g=>?_⟩;rw[o] at g
 cases g
 refine⟨_,r.a,by rw[b];exact bD Q,du y,T,?_⟩;rw[R]
 rcases e with e|e|⟨D,u,E,F,H,K⟩
 ·exact .inl e
 ·exact .inr (.inl e)
 ·have:s1.dq k=s.dq k:=by unfold PS.dq;rw[b,yc,yc,dF (λb=>u b.symm)]
  rw[this];exact .inr (.inr ⟨D,u,E,F,H,K⟩)
theorem aH.dend(e:aH G s ex){th:Th}(l:s.ths[k]?=some th)(D:th.act=some (j,i))(y:oP s j i x a s1)(q:(pstep x.d s.C a).what≠0):
 aH G (s1.setTh k {th with act:=none,kn:=0}) (λn=>ex n\/((pstep x.d s.C a).what=2/\s.nms[(pstep x.d s.C a).val.toNat]?=some n))/\
  own ((s1.setTh k {th with act:=none,kn:=0}).dq k).acts ((s1.setTh k {th with act:=none,kn:=0}).dq k).on=none:=by
 have T:=y;obtain⟨t,g,V,ws',b,a2,S,a1⟩:=T;obtain⟨a3,W,u,v,K,L⟩:=(e.th k th l).act j i D;rw[t] at u
 cases u
 rw[g] at v
 cases v
 have w:=(e.many.each j x t).kinds i a g K;have E:=xJ S q;have R:=e.th k th l;have A:j<s.ds.length:=(gS t).1
 have z:own ((s1.setTh k {th with act:=none,kn:=0}).dq k).acts ((s1.setTh k {th with act:=none,kn:=0}).dq k).on=none:=by
  show own (s1.dq k).acts (s1.dq k).on=none
  rcases L with⟨_,rfl,N⟩|⟨_,rfl,N,_⟩|⟨X,F,Y,Z,a0,H⟩
  ·rw[PS.dq_eq (show s1.ds[j]?=_ by rw[b];exact bD A)]
   simp only;rw[w (by omega),kD g,yb (by rw[E];exact q)]
  ·rw[PS.dq_eq (show s1.ds[j]?=_ by rw[b];exact bD A)]
   simp only;rw[w (by omega),kD g,yb (by rw[E];exact q)]
  ·have:s1.dq k=s.dq k:=by unfold PS.dq;rw[b,yc,yc,dF (λb=>F b.symm)]
   rw[this];exact H
 refine⟨e.dstepG l D y rfl rfl (.inl rfl) ⟨?_,λ_=>z,λj i P=>by cases P⟩ (λn o=>.inl o) (λQ n o=>.inr ⟨Q,o⟩),z⟩;rw[b];exact R.run
end
section
variable {G:dx}{s s' s1:PS}{ex ex':Nm->Prop}{k j i:Nat}{th th':Th}{n m:Nm}{r:aG}
theorem aH.turnT{T':TS}(d:aH G s ex)(a4:cA G T')(A:s.ths[k]?=some th)(a5:th.act=none)(Q:th'.act=none)
 (a3:∀m,T'.rw m=none->s.T.rw m=none/\(T'.outs m↔s.T.outs m))
 (Y:∀m r',T'.rw m=some r'->r'.sa=1\/r'.sa=4->¬ex' m->∃r,s.T.rw m=some r/\r.sa=r'.sa/\¬ex m)
 (Z:∀m r',T'.rw m=some r'->r'.sa=2->(th'.run=true/\th'.cur=m)\/((th.run=true->th.cur≠m)/\∃r,s.T.rw m=some r/\r.sa=2))
 (a0:∀m r,s.T.rw m=some r->r.sa=2->(th.run=true->th.cur≠m)->∃r',T'.rw m=some r'/\r'.sa=2)
 (a1:th'.run=true->∃r',T'.rw th'.cur=some r'/\r'.sa=2)
 (a2:th'.run=true->(th.run=true/\th'.cur=th.cur)\/∀r,s.T.rw th'.cur=some r->r.sa≠2):
 aH G {s with T:=T',ths:=s.ths.set k th'} ex':=by
 have a6:k<s.ths.length:=(gS A).1
 refine⟨a4,d.progs,d.many,d.kinds,by simp only[yI];exact d.nlen,d.vals,d.nnodup,λl g u=>?_,λl l' g F E u D b e=>?_,λl l' g F a8 E u D b=>?_,
  λm r' b e t=>?_,λm r' b e t=>?_,λm r' b e=>?_,λm a7=>?_,d.known,d.roots⟩
 ·rcases dG u with⟨rfl,rfl⟩|⟨y,w⟩
  ·exact⟨a1,λ_=>(d.th l th A).free a5,λj i o=>by rw[Q] at o;cases o⟩
  ·have P:=d.th l g w
   refine⟨λo=>?_,P.free,P.act⟩;obtain⟨r,b,e⟩:=P.run o;exact a0 _ r b e λz=>d.one k l th g (λo=>y o.symm) A w z o
 ·have key:∀(l:Nat) (g:Th),l≠k->s.ths[l]?=some g->g.run=true->th'.run=true->th'.cur≠g.cur:=by
   intro l g y u b e o
   rcases a2 e with⟨t,q⟩|t
   ·exact d.one k l th g (λo=>y o.symm) A u t b (by rw[<-q];exact o)
   ·obtain⟨r,q,v⟩:=(d.th l g u).run b
    rw[<-o] at q;exact t r q v
  rcases dG u with⟨S,z⟩|⟨y,w⟩
  ·rcases dG D with⟨H,_⟩|⟨R,C⟩
   ·exact absurd (S.trans H.symm) E
   ·rw[z] at b ⊢
    exact key l' F R C e b
  ·rcases dG D with⟨H,K⟩|⟨R,C⟩
   ·rw[K] at e ⊢
    exact λo=>key l g y w b e o.symm
   ·exact d.one l l' g F E w C b e
 ·rcases dG u with⟨S,z⟩|⟨y,w⟩
  ·rw[z,Q] at b;cases b
  ·rcases dG D with⟨H,K⟩|⟨R,C⟩
   ·rw[K,Q];simp
   ·exact d.acts l l' g F a8 E w C b
 ·obtain⟨r,q,v,N⟩:=Y m r' b (.inl e) t
  exact d.ready m r q (by rw[v];exact e) N
 ·obtain⟨r,q,v,N⟩:=Y m r' b (.inr e) t
  exact d.wakes m r q (by rw[v];exact e) N
 ·rcases Z m r' b e with⟨t,q⟩|⟨t,r,q,v⟩
  ·exact⟨k,th',bD a6,t,q⟩
  ·obtain⟨l,g,L,W,X⟩:=d.runs m r q v
   by_cases V:l=k
   ·subst V
    rw[A] at L
    cases L
    exact absurd X (t W)
   ·exact⟨l,g,by simp only[dF V];exact L,W,X⟩
 ·obtain⟨b,e⟩:=a3 m a7
  show T'.outs m↔_;rw[e];exact d.outN m b
theorem aH.prog(d:aH G s ex){b:Int}{p:List ah}{x:aj}(e:G b=some (p,x)):s.prog b=p:=by
 unfold PS.prog;rw[d.progs _ _ _ e];rfl
theorem jY(p:List ah)(t:TS)(n:Nm)(r:aG)(m:Nm):(gQ p t n r).rw m=if m=n then some {r with sa:=2} else t.rw m:=rfl
theorem aH.begin_(d:aH G s ex)(A:s.ths[k]?=some th)(w:th.act=none)(D:th.run=false)(n:Nm):aH G (dX s k n) (λm=>ex m/\m≠n):=by
 have y:∀(u:∀r,s.T.rw n=some r->r.sa≠1/\r.sa≠4),aH G s (λm=>ex m/\m≠n):=by
  intro u;refine⟨d.t,d.progs,d.many,d.kinds,d.nlen,d.vals,d.nnodup,d.th,d.one,d.acts,λm r e g l=>?_,λm r e g l=>?_,d.runs,d.outN,d.known,d.roots⟩
  ·by_cases b:m=n
   ·subst b;exact absurd g (u r e).1
   ·exact d.ready m r e g (λo=>l ⟨o,b⟩)
  ·by_cases b:m=n
   ·subst b;exact absurd g (u r e).2
   ·exact d.wakes m r e g (λo=>l ⟨o,b⟩)
 unfold dX
 cases hn:s.T.rw n with
 |none=>exact y λr b=>by rw[hn] at b;cases b
 |some r=>
  simp only
  by_cases v:r.sa=1\/r.sa=4
  ·rw[yf v]
   obtain⟨p,x,z,_,_⟩:=(d.t.row n r hn).node;have C:=d.t.begin_ hn v z;rw[PS.th_eq A,d.prog z];refine d.turnT C A w w (λm q=>?_) (λm r' e g l=>?_) (λm r' e g=>?_) (λm r' e g l=>?_) (λ_=>?_) (λ_=>.inr λr' b=>?_)
   ·rw[jY] at q
    split at q
    ·cases q
    ·exact⟨q,Iff.rfl⟩
   ·rw[jY] at e
    split at e
    ·cases e;simp only at g;omega
    ·rename_i b;exact⟨r',e,rfl,λo=>l ⟨o,b⟩⟩
   ·rw[jY] at e
    split at e
    ·rename_i b;exact .inl ⟨rfl,b.symm⟩
    ·exact .inr ⟨λb=>(by rw[D] at b;cases b),r',e,g⟩
   ·rw[jY]
    split
    ·exact⟨_,rfl,rfl⟩
    ·exact⟨r',e,g⟩
   ·exact⟨_,by rw[jY,yf rfl],rfl⟩
   ·rw[hn] at b
    cases b
    omega
  ·rw[yb v]
   exact y λr' b=>by rw[hn] at b;cases b;omega
theorem aH.newAct(q:aH G s ex)(a7:s.ths[k]?=some th)(bv:th.act=none){x y:aT}(a2:s.ds[j]?=some x){kd kk:Nat}{v:Int}(b0:y.acts=x.acts++ [cQ kd v])(c0:kd<=2)
 (c4:fC s.C (s.ds.set j y)) (nms':List Nm) (az:∀(v:Nat) (m:Nm),s.nms[v]?=some m->nms'[v]?=some m) (c5:nms'.Nodup)
 (br:∀u∈x.L,u∈y.L) (bt:∀u∈y.L,0<=u/\u<nms'.length)
 (b9:j≠k->(y.L=x.L/\(own x.acts x.on=none->own y.acts y.on=none)))
 (b6:∀m,¬ex' m->ex m->∀r,s.T.rw m=some r->(r.sa=1->s.roots m=none/\∃v∈y.L,nms'[v.toNat]?=some m)/\(r.sa=4->∃v∈y.L,nms'[v.toNat]?=some m))
 (c1:kk=1/\j=k/\kd=0\/kk=2/\j=k/\kd=1/\th.run=false\/kk=3/\j≠k/\kd=2/\th.run=false/\(s.dq k).L= []):
 aH G {s with ds:=s.ds.set j y,nms:=nms',ths:=s.ths.set k {th with act:=some (j,x.acts.length),kn:=kk}} ex':=by
 have c2:k<s.ths.length:=(gS a7).1;have a6:j<s.ds.length:=(gS a2).1;have b4:=q.th k th a7;obtain⟨o,D⟩:=eX ({s with ds:=s.ds.set j y,nms:=nms',ths:=s.ths.set k {th with act:=some (j,x.acts.length),kn:=kk}}:PS);rw[<-D];have F:o.ds=s.ds.set j y:=by rw[D]
 have a9:o.ths=s.ths.set k {th with act:=some (j,x.acts.length),kn:=kk}:=by rw[D]
 have a1:o.T=s.T:=by rw[D]
 have a8:o.nms=nms':=by rw[D]
 have bx:o.dq j=y:=PS.dq_eq (by rw[F];exact bD a6);have ai:∀l,l≠j->o.dq l=s.dq l:=λl A=>by unfold PS.dq;rw[F,yc,yc,dF A]
 have b7:∀m,s.inL m->o.inL m:=by
  rintro m ⟨l,z,v,e,g,H⟩
  by_cases A:l=j
  ·subst A
   rw[a2] at e
   cases e
   exact⟨l,y,v,by rw[F];exact bD a6,br v g,by rw[a8];exact az _ _ H⟩
  ·exact⟨l,z,v,by rw[F,dF A];exact e,g,by rw[a8];exact az _ _ H⟩
 have b8:∀m,(∃v∈y.L,nms'[v.toNat]?=some m)->o.inL m:=by
  rintro m ⟨v,e,g⟩;exact⟨j,y,v,by rw[F];exact bD a6,e,by rw[a8];exact g⟩
 have c8:s.nms.length<=nms'.length:=by
  rcases zO nms'.length s.nms.length with c3|bz
  ·have:=az nms'.length (s.nms[nms'.length]) (gG c3)
   rw[zv (lR)] at this
   cases this
  ·exact bz
 refine⟨by rw[a1];exact q.t,by rw[D];exact q.progs,by rw[F,D];exact c4,λz P b S=>?_,by rw[F,yI,a9,yI];exact q.nlen,λz P bb hv=>?_,by rw[a8];exact c5,λl w K=>?_,λl l' w ab N K V e g=>?_,λl l' w ab c7 N K V e=>?_,
  λm r' e g H=>?_,λm r' e g H=>?_,λm r' e g=>?_,by rw[D];exact q.outN,by rw[D];exact q.known,by rw[D];exact q.roots⟩
 ·rw[F] at P
  rcases mK P with rfl|P
  ·rw[b0] at S
   rcases yH.1 S with S|S
   ·exact q.kinds x (yh a2) b S
   ·rw[yw.1 S];exact c0
  ·exact q.kinds z P b S
 ·rw[F] at P
  rw[a8]
  rcases mK P with rfl|P
  ·exact bt bb hv
  ·have:=q.vals z P bb hv;omega
 ·rw[a9] at K
  rcases dG K with⟨rfl,rfl⟩|⟨av,W⟩
  ·refine⟨by rw[a1];exact b4.run,λd=>by simp at d,λa3 ba d=>?_⟩
   simp only[yC,yP] at d;obtain⟨rfl,rfl⟩:=d;refine⟨y,cQ kd v,by rw[F];exact bD a6,by rw[b0];simp,rfl,?_⟩
   rcases c1 with⟨rfl,rfl,rfl⟩|⟨rfl,rfl,rfl,E⟩|⟨rfl,g,rfl,E,Q⟩
   ·exact .inl ⟨rfl,rfl,rfl⟩
   ·exact .inr (.inl ⟨rfl,rfl,rfl,E⟩)
   ·refine .inr (.inr ⟨rfl,g,rfl,E,?_,?_⟩)
    ·rw[ai l (λd=>g d.symm)];exact Q
    ·rw[ai l (λd=>g d.symm)];exact b4.free bv
  ·have an:=q.th l w W
   have b5:((s.dq l).L= []->(o.dq l).L= []\/j=k)/\(own (s.dq l).acts (s.dq l).on=none->own (o.dq l).acts (o.dq l).on=none\/j=k):=by
    by_cases A:l=j
    ·subst A
     rw[bx,PS.dq_eq a2]
     by_cases R:l=k
     ·exact⟨λ_=>.inr R,λ_=>.inr R⟩
     ·exact⟨λd=>.inl (by rw[(b9 R).1];exact d),λd=>.inl ((b9 R).2 d)⟩
    ·rw[ai l A]
     exact⟨λd=>.inl d,λd=>.inl d⟩
   have ar:((s.dq l).L= []->(o.dq l).L= [])/\(own (s.dq l).acts (s.dq l).on=none->own (o.dq l).acts (o.dq l).on=none):=by
    by_cases A:l=j
    ·have R:j≠k:=λd=>av (A.trans d)
     exact⟨λd=>(b5.1 d).resolve_right R,λd=>(b5.2 d).resolve_right R⟩
    ·rw[ai l A];exact⟨λd=>d,λd=>d⟩
   refine⟨by rw[a1];exact an.run,λd=>ar.2 (an.free d),λa3 ba d=>?_⟩;obtain⟨bf,Y,a0,a4,b2,a5⟩:=an.act a3 ba d
   have b3:w.kn=1/\a3=l/\Y.kn=0\/w.kn=2/\a3=l/\Y.kn=1/\w.run=false\/w.kn=3/\a3≠l/\Y.kn=2/\w.run=false/\(o.dq l).L= []/\own (o.dq l).acts (o.dq l).on=none:=by
    rcases a5 with a5|a5|⟨bk,bm,bn,bo,bp,bq⟩
    ·exact .inl a5
    ·exact .inr (.inl a5)
    ·exact .inr (.inr ⟨bk,bm,bn,bo,ar.1 bp,ar.2 bq⟩)
   by_cases b1:a3=j
   ·subst b1
    rw[a2] at a0
    cases a0
    exact⟨y,Y,by rw[F];exact bD a6,by rw[b0,yi (gS a4).1];exact a4,b2,b3⟩
   ·exact⟨bf,Y,by rw[F,dF b1];exact a0,a4,b2,b3⟩
 ·rw[a9] at K V
  rcases dG K with⟨ad,al⟩|⟨av,W⟩
  ·rcases dG V with⟨Z,_⟩|⟨aw,X⟩
   ·exact absurd (ad.trans Z.symm) N
   ·rw[al] at e ⊢
    rw[ad] at N;exact q.one k l' th ab N a7 X e g
  ·rcases dG V with⟨Z,am⟩|⟨aw,X⟩
   ·rw[am] at g ⊢
    rw[Z] at N;exact q.one l k w th N W a7 e g
   ·exact q.one l l' w ab N W X e g
 ·rw[a9] at K V
  have key:∀(l:Nat) (w:Th),s.ths[l]?=some w->w.act≠some (j,x.acts.length):=by
   intro l w K d;obtain⟨bf,Y,a0,a4,_⟩:=(q.th l w K).act _ _ d;rw[a2] at a0
   cases a0
   have:=(gS a4).1;omega
  rcases dG K with⟨ad,al⟩|⟨av,W⟩
  ·rcases dG V with⟨Z,_⟩|⟨aw,X⟩
   ·exact absurd (ad.trans Z.symm) N
   ·rw[al] at e
    simp only at e;rw[<-e];exact key l' ab X
  ·rcases dG V with⟨Z,am⟩|⟨aw,X⟩
   ·rw[am]
    simp only;rw[<-e];exact λd=>key l w W d.symm
   ·exact q.acts l l' w ab c7 N W X e
 ·rw[a1] at e
  have aE:o.queue=s.queue:=by rw[D]
  have c6:o.roots=s.roots:=by rw[D]
  rw[aE,c6]
  by_cases d:ex m
  ·have:=(b6 m H d r' e).1 g
   exact .inr ⟨this.1,b8 m this.2⟩
  ·rcases q.ready m r' e g d with E|⟨E,Q⟩
   ·exact .inl E
   ·exact .inr ⟨E,b7 m Q⟩
 ·rw[a1] at e
  have aE:o.queue=s.queue:=by rw[D]
  rw[aE]
  by_cases d:ex m
  ·exact .inr (b8 m ((b6 m H d r' e).2 g))
  ·rcases q.wakes m r' e g d with E|Q
   ·exact .inl E
   ·exact .inr (b7 m Q)
 ·rw[a1] at e
  obtain⟨l,w,H,E,Q⟩:=q.runs m r' e g;rw[a9]
  by_cases A:l=k
  ·subst A
   rw[a7] at H
   cases H
   exact⟨l,_,bD c2,E,Q⟩
  ·exact⟨l,w,by rw[dF A];exact H,E,Q⟩
theorem aH.dqk(b:aH G s ex)(d:s.ths[k]?=some th):s.ds[k]?=some (s.dq k):=by
 have:k<s.ds.length:=by rw[b.nlen];exact(gS d).1
 exact fH this
theorem aH.push(d:aH G s ex)(g:s.ths[k]?=some th)(o:th.act=none)(n:Nm)(A:∀r,s.T.rw n=some r->r.sa=1->s.roots n=none):aH G (eE s k n) (λm=>ex m/\m≠n):=by
 have l:=d.dqk g;obtain⟨t,D,H,K,E⟩:=wm s.nms n;unfold eE;rw[PS.th_eq g];have z:=(d.th k th g).free o;have F:(eM s.nms n).1<(eM s.nms n).2.length:=(gS t).1;refine d.newAct (kd:=0) (v:=((eM s.nms n).1:Int)) g o l rfl (by omega) ?_ _ D (E d.nnodup) (λu e=>by simp[eN,e]) (λu e=>?_) (λb=>absurd rfl b) (λm w y r C=>?_) (.inl ⟨rfl,rfl,rfl⟩)
 ·have:=tM d.many l z 0 ((eM s.nms n).1:Int) (.inl rfl)
  simpa[eN] using this
 ·simp only[eN,yH,yw] at e
  rcases e with e|rfl
  ·have:=d.vals _ (yh l) u e;omega
  ·omega
 ·have b:m=n:=by
   by_cases b:m=n
   ·exact b
   ·exact absurd ⟨y,b⟩ w
  subst b;have q:∃v∈(eN (s.dq k) ((eM s.nms m).1:Int)).L,(eM s.nms m).2[v.toNat]?=some m:=⟨((eM s.nms m).1:Int),by simp[eN],by simpa using t⟩
  exact⟨λb=>⟨A r C b,q⟩,λ_=>q⟩
theorem aH.pop(b:aH G s ex)(d:s.ths[k]?=some th)(o:th.act=none)(y:th.run=false):aH G (mc s k) ex:=by
 have l:=b.dqk d;unfold mc;rw[PS.th_eq d];have w:=(b.th k th d).free o;refine b.newAct (nms':=s.nms) (kd:=1) (v:=0) d o l rfl (by omega) ?_ (λv m e=>e) b.nnodup (λu g=>g) (λu g=>b.vals _ (yh l) u g) (λe=>absurd rfl e) (λm q t=>absurd t q) (.inr (.inl ⟨rfl,rfl,rfl,y⟩));have:=tM b.many l w 1 0 (.inr rfl)
 simpa[nB] using this
theorem aH.steal(b:aH G s ex)(l:s.ths[k]?=some th)(w:th.act=none)(A:th.run=false)(y:j<s.ds.length)(z:j≠k)(t:(s.dq k).L= []):aH G (jk s k j) ex:=by
 have d:s.ds[j]?=some (s.dq j):=fH y;unfold jk;rw[PS.th_eq l];refine b.newAct (nms':=s.nms) (kd:=2) (v:=0) l w d rfl (by omega) ?_ (λv m e=>e) b.nnodup (λu g=>g) (λu g=>b.vals _ (yh d) u g) (λ_=>⟨rfl,λe=>?_⟩) (λm o q=>absurd q o) (.inr (.inr ⟨rfl,z,rfl,A,t⟩))
 ·exact vY b.many d
 ·simp only[ly]
  rw[qT (b.many.each j _ d).onk];exact e
end
section
variable {G:dx}{s s' s1:PS}{ex ex':Nm->Prop}{k j i:Nat}{th th':Th}{n m:Nm}{r:aG}
theorem ow{t:TS}(e:cA G t)(o:t.rw n=some r)(x:aD)(here:Bool)(m:Nm):
 (m=n/\(bE t n r x here).rw m=some {r with sa:=6,res:=x,here:=here})\/
 (m≠n/\r.fk=true/\m=dI n/\∃q,t.rw m=some q/\(bE t n r x here).rw m=some (fc q))\/
 (m≠n/\(r.fk=true->m≠dI n)/\(bE t n r x here).rw m=t.rw m):=by
 by_cases b:m=n
 ·subst b
  refine .inl ⟨rfl,?_⟩;simp only[bE]
  cases hf:r.fk with
  |false=>simp only[aA]
  |true=>
   obtain⟨i,q',l,d,u,v⟩:=e.parent o hf;simp only[d];rw[ag _ _ (λb=>ip (dI m) i (by rw[<-l,<-b])),aA]
 ·refine .inr ?_
  cases hf:r.fk with
  |false=>
   refine .inr ⟨b,λe=>(by cases e),?_⟩;simp only[bE,hf,ag _ _ b]
  |true=>
   obtain⟨i,q',l,d,u,v⟩:=e.parent o hf
   by_cases g:m=dI n
   ·subst g
    exact .inl ⟨b,rfl,rfl,q',d,by simp only[bE,hf,d,aA]⟩
   ·refine .inr ⟨b,λ_=>g,?_⟩
    simp only[bE,hf,d,ag _ _ g,ag _ _ b]
theorem jo{t:TS}{q:aG}(b:r.fk=true)(d:t.rw (dI n)=some q):fz t n r=decide (q.sa=3/\q.opn-1=0):=by
 simp only[fz,b,d]
theorem nu{rows:Nm->Option aG}{kn:Nat}(b:dZ rows n kn=0):∀i,i<kn->cI rows (aF n i)=false:=by
 intro i e;unfold dZ at b;have d:=List.filter_eq_nil_iff.1 (yr b) i (zw.2 e)
 simpa using d
theorem qJ{t:TS}(d:cA G t)(q:t.rw n=some r)(E:r.opn=0){p:List ah}{x:aj}(g:G n.job=some (p,x)):∀(l:List Nat) (f:Fr),(∀i∈l,i<r.kn)->kw p r f->kw p r (bR t.rw n l f)/\(bR t.rw n l f).waits=f.waits
 | [],f,_,b=>⟨b,rfl⟩
 |i :: l,f,w,b=>by
  have o:=w i (by simp);have y:=nu (rows:=t.rw) (n:=n) (kn:=r.kn) (by have:=(d.row n r q).opn;omega) i o;obtain⟨Q,R,c,k,u,e,C,D,S,T⟩:=d.child q o;rw[g] at u
  cases u
  have F:c.sa=6:=by
   simp only[cI,e] at y
   simpa using y
  obtain⟨Q,R,v,V,P⟩:=(d.row _ c e).node;rw[qh,g] at v
  cases v
  have N:c.res=bH p k:=by rw[(P.over F).2.1,D]
  have L:=Cw (p:=p) (t:=r.tk) (kn:=r.kn) o C
  have H:kw p r (f.give i c.res):=by
   refine⟨b.M,b.fn,b.res,by simp only[Fr.give,yI];exact b.kd,b.ok.give (by rw[L,N]),?_⟩;rw[Cb b.ok];exact b.fin_
  have z:=qJ d q E g l (f.give i c.res) (λj K=>w j (by simp[K])) H;have A:kN t.rw (aF n i)=c.res:=by unfold kN;rw[e]
  simp only[bR,A];exact⟨z.1,z.2⟩
theorem fK(t:TS)(n:Nm)(r:aG)(st:Nat)(f:Fr)(m:Nm):(iJ t n r st f).rw m=if m=n then some {r with sa:=st} else t.rw m:=rfl
theorem ja(t:TS)(n:Nm)(r:aG)(f:Fr)(c:aG)(m:Nm):(bM t n r f c).rw m=if m=aF n r.kn then some c else if m=n then some {r with opn:=r.opn+(if c.sa=6 then 0 else 1),kn:=r.kn+1} else t.rw m:=rfl
theorem jm(b:s.ths[k]?=some th)(T':TS):({s with T:=T'}:PS)= {s with T:=T',ths:=s.ths.set k th}:=by rw[qm b]
theorem aH.current(b:aH G s ex)(q:s.ths[k]?=some th)(v:th.run=true):∃r p x f,s.T.rw th.cur=some r/\r.sa=2/\G th.cur.job=some (p,x)/\bK p x th.cur.M=some r.tk/\s.T.fm th.cur=some f/\kw p r f/\s.prog th.cur.job=p:=by
 obtain⟨r,d,e⟩:=(b.th k th q).run v;obtain⟨p,x,g,u,w⟩:=(b.t.row _ r d).node;obtain⟨f,l,o,_⟩:=w.runs (.inl e);exact⟨r,p,x,f,d,e,g,u,l,o,b.prog g⟩
theorem lc(A:cA G s.T){p:List ah}{t:aj}{f:Fr}(E:s.T.rw n=some r)(d:kw p r f)(q:lI p f (jw p r.tk r.kn) ((f.run1 p).1,.fork t)):
 (aS p r.tk)[r.kn]?=some t/\s.T.rw (aF n r.kn)=none/\∀o,kw p {r with opn:=o,kn:=r.kn+1} (f.run1 p).1:=by
 obtain⟨w,e,y,H,z,K,L,N,P,F⟩:=q.fork t rfl;rw[d.fin_] at e;have b:(aS p r.tk).drop r.kn=t :: (gE p (f.run1 p).1 (jw p r.tk r.kn++ [bH p t])).2:=(Prod.mk.inj e).2
 have v:r.kn<(aS p r.tk).length:=by
  rcases zO r.kn (aS p r.tk).length with g|g
  ·exact g
  ·rw[List.drop_eq_nil_of_le g] at b;cases b
 rw[yM v] at b;obtain⟨C,D⟩:=List.cons.inj b;have l:(aS p r.tk)[r.kn]?=some t:=by rw[gG v,C]
 have u:jw p r.tk r.kn++ [bH p t] =jw p r.tk (r.kn+1):=by
  unfold jw;rw[yO,yS,l];rfl
 refine⟨l,A.fresh E (eB l).2.1,λo=>⟨q.M.trans d.M,q.fn.trans d.fn,y,by simp only;rw[z,d.kd],?_,?_⟩⟩
 ·simp only;rw[<-u];exact w
 ·simp only
  rw[<-u,D];exact Prod.ext (Prod.mk.inj e).1.symm rfl
theorem aH.fork_T(v:aH G s ex)(z:s.ths[k]?=some th)(y:th.act=none)(u:th.run=true){p:List ah}{x t:aj}{f:Fr}(q:th.cur=n)(W:s.T.rw n=some r)(w:r.sa=2)(S:G n.job=some (p,x))
 (V:(aS p r.tk)[r.kn]?=some t) (R:s.T.rw (aF n r.kn)=none) (L:∀o,kw p {r with opn:=o,kn:=r.kn+1} f)
 (c:aG) (ex':Nm->Prop) (A:c.tk=t) (C:c.fk=true) (D:c.kn=0) (E:c.opn=0) (F:c.here=false)
 (H:c.sa=1/\¬s.T.outs (aF n r.kn)\/c.sa=5/\s.T.outs (aF n r.kn)\/c.sa=6/\s.T.outs (aF n r.kn)/\c.res=bH p t) (P:∀m,¬ex' m->¬ex m) (Q:c.sa=1->ex' (aF n r.kn)):aH G {s with T:=bM s.T n r f c} ex':=by
 have N:=v.t.fork W w S V (L _) A C D E F H;rw[jm z];refine v.turnT N z y y (λm g=>?_) (λm r' b e l=>?_) (λm r' b e=>?_) (λm r' b e l=>?_) (λ_=>?_) (λ_=>.inl ⟨u,rfl⟩)
 ·rw[ja] at g
  split at g
  ·cases g
  ·split at g
   ·cases g
   ·exact⟨g,Iff.rfl⟩
 ·rw[ja] at b
  split at b
  ·rename_i d
   cases b
   subst d
   rcases e with e|e
   ·exact absurd (Q e) l
   ·omega
  ·split at b
   ·cases b;simp only at e;omega
   ·exact⟨r',b,rfl,P m l⟩
 ·rw[ja] at b
  split at b
  ·cases b;omega
  ·split at b
   ·rename_i d;exact .inl ⟨u,by rw[q,d]⟩
   ·rename_i X K;exact .inr ⟨λ_ d=>K (by rw[<-d,q]),r',b,e⟩
 ·rw[ja,yb (λd=>by rw[d,R] at b;cases b),yb (λd=>l u (by rw[q,d]))]
  exact⟨r',b,e⟩
 ·rw[q,ja,yb (λd=>ip n r.kn d.symm),yf rfl]
  exact⟨_,rfl,w⟩
theorem aH.fork_mid(e:aH G s ex)(y:s.ths[k]?=some th)(u:th.act=none)(D:th.run=true){p:List ah}{x t:aj}{f:Fr}(v:th.cur=n)(C:s.T.rw n=some r)(d:r.sa=2)(w:G n.job=some (p,x))
 (A:(aS p r.tk)[r.kn]?=some t) (g:s.T.rw (aF n r.kn)=none) (q:∀o,kw p {r with opn:=o,kn:=r.kn+1} f) (z:s.known (aF n r.kn)=none) (E:¬s.away (aF n r.kn)=true):
 aH G {s with T:=bM s.T n r f ⟨t,1,0,⟨0,0⟩,true,0,false⟩} (λm=>ex m\/m=aF n r.kn):=
 e.fork_T y u D v C d w A g q ⟨t,1,0,⟨0,0⟩,true,0,false⟩ _ rfl rfl rfl rfl rfl (.inl ⟨rfl,λb=>by rcases(e.outN _ g).1 b with b|b;exact b z;exact E b⟩) (λm l d=>l (.inl d)) (λ_=>.inr rfl)
theorem aH.fork(b:aH G s ex)(q:s.ths[k]?=some th)(g:th.act=none)(E:th.run=true){p:List ah}{x t:aj}{f:Fr}(A:th.cur=n)(v:s.T.rw n=some r)(w:r.sa=2)(o:G n.job=some (p,x))(K:bK p x n.M=some r.tk)
 (F:kw p r f) (L:lI p f (jw p r.tk r.kn) ((f.run1 p).1,.fork t)):aH G (iU s k n r (f.run1 p).1 t) ex:=by
 obtain⟨u,l,z⟩:=lc b.t v F L;have D:=b.outN _ l;have key:=b.fork_T q g E A v w o u l z;unfold iU
 cases hkn:s.known (aF n r.kn) with
 |some y=>
  refine key _ ex rfl rfl rfl rfl rfl (.inr (.inr ⟨rfl,D.2 (.inl (by rw[hkn];simp)),?_⟩)) (λm b=>b) (λe=>by simp at e);exact b.known _ y p x t hkn o (mC K u)
 |none=>
  simp only
  by_cases d:s.away (aF n r.kn)=true
  ·rw[yf d]
   exact key _ ex rfl rfl rfl rfl rfl (.inr (.inl ⟨rfl,D.2 (.inr d)⟩)) (λm b=>b) (λe=>by simp at e)
  ·rw[yb d]
   have H:=b.fork_mid q g E A v w o u l z hkn d;refine(H.push (k:=k) (th:=th) q g (aF n r.kn) (λr' N P=>?_)).exMono (λm C=>C.1.resolve_right C.2);show s.roots _=none
   cases hro:s.roots (aF n r.kn) with
   |none=>rfl
   |some y=>exact absurd (b.roots _ (by rw[hro];simp)) (jc _ _)
theorem aH.done_mid(A:aH G s ex)(Q:s.ths[k]?=some th)(F:th.act=none)(S:th.run=true){p:List ah}{x:aj}{y:aD}(D:th.cur=n)(E:s.T.rw n=some r)(L:r.sa=2)(P:G n.job=some (p,x))(V:y=bH p r.tk)(R:r.kn=(aS p r.tk).length):
 aH G {s with T:=bE s.T n r y true,ths:=s.ths.set k {th with cur:=gU,run:=false}} (λm=>ex m\/(fz s.T n r=true/\m=dI n)):=by
 have N:=A.t.over E (x:=y) (here:=true) P V (.inl ⟨rfl,L,R⟩);have z:=ow A.t E y true;refine A.turnT N Q F F (λm o=>?_) (λm r' d e u=>?_) (λm r' d e=>?_) (λm r' d e u=>?_) (λb=>by cases b) (λb=>by cases b)
 ·rcases z m with⟨_,b⟩|⟨_,_,_,q,_,b⟩|⟨_,_,b⟩
  ·rw[b] at o;cases o
  ·rw[b] at o;cases o
  ·rw[b] at o;exact⟨o,Iff.rfl⟩
 ·rcases z m with⟨_,b⟩|⟨_,C,v,q,l,b⟩|⟨_,_,b⟩
  ·rw[b] at d;cases d;simp only at e;omega
  ·rw[b] at d
   cases d
   refine⟨q,l,?_,λg=>u (.inl g)⟩
   by_cases H:q.sa=3/\q.opn-1=0
   ·exact absurd (.inr ⟨by subst v;rw[jo C l];simp[H],v⟩) u
   ·simp only[fc,yb H]
  ·rw[b] at d;exact⟨r',d,rfl,λg=>u (.inl g)⟩
 ·rcases z m with⟨_,b⟩|⟨w,C,v,q,l,b⟩|⟨w,_,b⟩
  ·rw[b] at d;cases d;simp only at e;omega
  ·rw[b] at d
   cases d
   refine .inr ⟨λ_ g=>w (by rw[<-g,D]),q,l,?_⟩;simp only[fc] at e;split at e
   ·omega
   ·exact e
  ·rw[b] at d;exact .inr ⟨λ_ g=>w (by rw[<-g,D]),r',d,e⟩
 ·rcases z m with⟨K,b⟩|⟨w,C,v,q,l,b⟩|⟨_,_,b⟩
  ·exact absurd (by rw[D,K]) (u S)
  ·rw[d] at l
   cases l
   refine⟨_,b,?_⟩;simp only[fc];rw[yb (by omega)];exact e
  ·rw[b];exact⟨r',d,e⟩
theorem aH.run_(o:aH G s ex)(u:s.ths[k]?=some th)(A:th.act=none)(E:th.run=true):aH G (eW s k) ex:=by
 obtain⟨r,p,x,f,w,N,K,ad,a5,l,al⟩:=o.current u E;have F:=jS (p:=p) l.ok l.res;unfold eW;rw[PS.th_eq u,w,a5];simp only;rw[al];generalize v:th.cur=n at*
 cases hs:(f.run1 p).2 with
 |more=>
  simp only;obtain⟨H,Q,R,S,a6⟩:=F.mo hs
  have P:=o.t.goes w N (.inl rfl) (f:=(f.run1 p).1) (λd=>by omega) (λa3 a4 Z C D X Y=>by
   rw[K] at C
   cases C
   exact⟨F.M.trans l.M,F.fn.trans l.fn,R,by rw[S];exact l.kd,H,by rw[Q];exact l.fin_⟩)
  rw[jm u];refine o.turnT P u A A (λm g=>?_) (λm r' b e z=>?_) (λm r' b e=>?_) (λm r' b e z=>?_) (λ_=>?_) (λ_=>.inl ⟨E,rfl⟩)
  ·rw[fK] at g
   split at g
   ·cases g
   ·exact⟨g,Iff.rfl⟩
  ·rw[fK] at b
   split at b
   ·cases b;simp only at e;omega
   ·exact⟨r',b,rfl,z⟩
  ·rw[fK] at b
   split at b
   ·rename_i d;exact .inl ⟨E,by rw[v,d]⟩
   ·rename_i d;exact .inr ⟨λ_ D=>d (by rw[<-D,v]),r',b,e⟩
  ·rw[fK]
   split
   ·exact⟨_,rfl,rfl⟩
   ·exact⟨r',b,e⟩
  ·rw[v,fK,yf rfl]
   exact⟨_,rfl,rfl⟩
 |fork t=>
  simp only;refine o.fork u A E v w N K ad l ?_;rw[<-hs];exact F
 |join=>
  simp only;obtain⟨H,Q,R,S,a6,a7,az⟩:=F.join hs;have a1:kw p r (f.run1 p).1:=⟨F.M.trans l.M,F.fn.trans l.fn,R,by rw[S];exact l.kd,H,by rw[Q];exact l.fin_⟩
  by_cases a2:r.opn≠0
  ·rw[yf a2]
   have am:0<r.opn:=by have:=(o.t.row n r w).opn;omega
   have P:=o.t.goes w N (.inr rfl) (f:=(f.run1 p).1) (λ_=>⟨am,a7⟩) (λa3 a4 Z C D X Y=>by
    rw[K] at C
    cases C
    exact a1)
   refine o.turnT P u A A (λm g=>?_) (λm r' b e z=>?_) (λm r' b e=>?_) (λm r' b e z=>?_) (λd=>by cases d) (λd=>by cases d)
   ·rw[fK] at g
    split at g
    ·cases g
    ·exact⟨g,Iff.rfl⟩
   ·rw[fK] at b
    split at b
    ·cases b;simp only at e;omega
    ·exact⟨r',b,rfl,z⟩
   ·rw[fK] at b
    split at b
    ·cases b;simp only at e;omega
    ·rename_i d;exact .inr ⟨λ_ D=>d (by rw[<-D,v]),r',b,e⟩
   ·rw[fK,yb (λd=>z E (by rw[v,d]))]
    exact⟨r',b,e⟩
  ·rw[yb a2]
   have ai:r.opn=0:=by omega
   have a8:=qJ o.t w ai K (f.run1 p).1.waitsOf (f.run1 p).1 (λi a9=>by
    have:=(Yg.1 a9).1;rw[zw,S,l.kd] at this;exact this) a1
   have P:=o.t.goes w N (.inl rfl) (f:=bR s.T.rw n (f.run1 p).1.waitsOf (f.run1 p).1) (λd=>by omega) (λa3 a4 Z C D X Y=>by
    rw[K] at C
    cases C
    exact a8.1)
   rw[jm u];refine o.turnT P u A A (λm g=>?_) (λm r' b e z=>?_) (λm r' b e=>?_) (λm r' b e z=>?_) (λ_=>?_) (λ_=>.inl ⟨E,rfl⟩)
   ·rw[fK] at g
    split at g
    ·cases g
    ·exact⟨g,Iff.rfl⟩
   ·rw[fK] at b
    split at b
    ·cases b;simp only at e;omega
    ·exact⟨r',b,rfl,z⟩
   ·rw[fK] at b
    split at b
    ·rename_i d;exact .inl ⟨E,by rw[v,d]⟩
    ·rename_i d;exact .inr ⟨λ_ D=>d (by rw[<-D,v]),r',b,e⟩
   ·rw[fK]
    split
    ·exact⟨_,rfl,rfl⟩
    ·exact⟨r',b,e⟩
   ·rw[v,fK,yf rfl]
    exact⟨_,rfl,rfl⟩
 |done y=>
  simp only;obtain⟨H,Q,R⟩:=F.done y hs;rw[l.fin_] at H;have av:y=bH p r.tk:=(Prod.mk.inj H).1.symm
  have ab:r.kn=(aS p r.tk).length:=by
   have b:=(Prod.mk.inj H).2;have e:=l.knle;have:=yl List.length b;simp at this;omega
  have ar:=ow o.t w y true;have a0:=o.done_mid u A E v w N K av ab
  by_cases L:fz s.T n r=true
  ·rw[yf L]
   refine(a0.push (k:=k) (th:={th with cur:=gU,run:=false}) (bD (gS u).1) A (dI n) (λr' b e=>?_)).exMono (λm g=>g.1.resolve_right (λd=>g.2 d.2));have V:(bE s.T n r y true).rw (dI n)=some r':=b
   rcases ar (dI n) with⟨_,d⟩|⟨_,W,aw,q,an,d⟩|⟨_,W,d⟩
   ·rw[d] at V;cases V;simp only at e;omega
   ·rw[d] at V
    cases V
    rw[jo W an] at L;simp only[fc,yf (yD L)] at e;omega
   ·cases hff:r.fk with
    |true=>exact absurd rfl (W hff)
    |false=>simp[fz,hff] at L
  ·rw[yb L]
   exact a0.exMono (λm g=>g.resolve_right (λd=>L d.1))
theorem aH.unqueue(b:aH G s ex)(y:s.queue≠[]):aH G {s with queue:=s.queue.tail} (λm=>ex m\/m=s.queue.headD gU):=by
 obtain⟨a,l,o⟩:=List.exists_cons_of_ne_nil y;refine⟨b.t,b.progs,b.many,b.kinds,b.nlen,b.vals,b.nnodup,λl th w=>⟨(b.th l th w).run,(b.th l th w).free,(b.th l th w).act⟩,b.one,b.acts,λm r u v e=>?_,λm r u v e=>?_,b.runs,b.outN,b.known,b.roots⟩
 ·rcases b.ready m r u v (λq=>e (.inl q)) with d|d
  ·rw[o] at d e
   rcases yG.1 d with g|g
   ·exact absurd (.inr g) e
   ·exact .inl (by simp only[o,List.tail_cons];exact g)
  ·exact .inr d
 ·rcases b.wakes m r u v (λq=>e (.inl q)) with d|d
  ·rw[o] at d e
   rcases yG.1 d with g|g
   ·exact absurd (.inr g) e
   ·exact .inl (by simp only[o,List.tail_cons];exact g)
  ·exact .inr d
theorem aH.step(t:aH G s ex)(Z:k<s.ths.length){R:Nat}(g:dO s k R s'):aH G s' ex:=by
 have ad:=fH (d:=mN) Z;have u:s.ths[k]?=some (s.th k):=ad;unfold dO at g
 cases hact:(s.th k).act with
 |none=>
  rw[hact] at g;simp only at g
  cases hr:(s.th k).run with
  |true=>rw[yf hr] at g;rw[g];exact t.run_ u hact hr
  |false=>rw[yb (by rw[hr];simp)] at g;rw[g];exact t.pop u hact hr
 |some av=>
  obtain⟨j,i⟩:=av;rw[hact] at g;obtain⟨x,a,s1,K,g⟩:=g
  by_cases q:(pstep x.d s.C a).what=0
  ·rw[yf q] at g
   rw[g];exact t.dstep u hact K q
  ·rw[yb q] at g
   rw[g];obtain⟨D,a9⟩:=t.dend u hact K q;obtain⟨a2,a8,Q,ws',e,o,Y,b1⟩:=K;obtain⟨b2,aw,T,V,aE,l⟩:=(t.th k _ u).act j i hact;rw[a2] at T
   cases T
   rw[a8] at V
   cases V
   have a5:s1.th k=s.th k:=by rw[e];rfl
   have F:s1.ths=s.ths:=by rw[e]
   have S:s1.queue=s.queue:=by rw[e]
   have a4:s1.nms=s.nms:=by rw[e]
   unfold i9;simp only[a5,F,S,a4];obtain⟨w,v⟩:=eX (s1.setTh k {s.th k with act:=none,kn:=0});rw[<-v] at D a9 ⊢;have L:w.ths[k]?=some {s.th k with act:=none,kn:=0}:=by rw[v];simp only[PS.setTh];rw[F];exact bD Z
   have a0:w.queue=s.queue:=by rw[v];exact S
   have a6:w.ths.length=s.ths.length:=by rw[v];simp only[PS.setTh,yI,F]
   by_cases z:(pstep x.d s.C a).what=1
   ·rw[yf z]
    exact D.exMono λm o=>o.resolve_right λe=>by omega
   ·rw[yb z]
    have ai:a.kn≠0:=λaz=>by
     rcases Y with⟨e,_⟩|⟨_,⟨_,e,_⟩|⟨e,_⟩|⟨e,_⟩|⟨e,_⟩|⟨e,_⟩⟩
     ·exact q e
     ·exact z e
     all_goals omega
    have N:(s.th k).run=false:=by
     rcases l with l|l|l
     ·exact absurd l.2.2 ai
     ·exact l.2.2.2
     ·exact l.2.2.2.1
    by_cases A:(pstep x.d s.C a).what=2
    ·rw[yf A]
     refine(D.begin_ L rfl N _).exMono λm o=>?_
     rcases o with⟨o|⟨_,o⟩,ar⟩
     ·exact o
     ·exact absurd (by rw[yc,o];rfl) ar
    ·rw[yb A]
     have E:aH G w ex:=D.exMono λm o=>o.resolve_right λe=>A e.1
     by_cases H:(s.th k).kn=2/\s.queue≠[]
     ·rw[yf H]
      have a1:=E.unqueue (by rw[a0];exact H.2);rw[a0] at a1;exact(a1.begin_ L rfl N (s.queue.headD gU)).exMono λm o=>o.1.resolve_right o.2
     ·rw[yb H]
      by_cases W:(s.th k).kn=2/\1<s.ths.length
      ·rw[yf W]
       obtain⟨b,X⟩:=eX (R % (s.ths.length-1));have b0:b<s.ths.length-1:=by rw[X];exact Yj _ (by omega)
       rw[<-X];have an:=Yj (k+(1+b)) (show 0<s.ths.length by omega);refine E.steal L rfl N (by rw[E.nlen,a6];exact an) (λe=>?_) ?_
       ·rcases zO (k+(1+b)) s.ths.length with am|ab
        ·rw[Nat.mod_eq_of_lt am] at e;omega
        ·rw[Nat.mod_eq_sub_mod ab,Nat.mod_eq_of_lt (by omega)] at e;omega
       ·
        have al:j=k/\a.kn=1:=by
         rcases l with l|l|l
         ·omega
         ·exact⟨l.2.1,l.2.2.1⟩
         ·omega
        have a7:Q= []:=by
         rcases Y with⟨e,_⟩|⟨_,⟨_,e,_⟩|⟨_,e,_⟩|⟨_,_,_,_,e⟩|⟨e,_⟩|⟨e,_⟩⟩
         ·exact absurd e q
         ·exact absurd e z
         ·exact absurd e A
         ·exact e
         ·omega
         ·omega
        obtain⟨y,a3⟩:=eX (⟨x.d,ws',x.acts.set i (pstep x.d s.C a).a,x.on,Q,x.own+(((pstep x.d s.C a).C.length:Int)-s.C.length),x.P,x.c0⟩ :aT)
        have:w.ds[k]?=some y:=by
         rw[v];show s1.ds[k]?=_;rw[e,<-al.1,a3];exact bD (gS a2).1
        rw[PS.dq_eq this,a3];exact a7
      ·rw[yb W]
       exact E
end
def eQ(f:Fr):Bool:=f.waits.isSome&&f.kd.any (λc=>!c.given)
def wR(c:Int)(r:aG)(fo:Option Fr):Int:=
 if r.sa=1 then c+31+r.tk.fuel
 else if r.sa=2\/r.sa=3\/r.sa=4 then
  (match fo with
  |none=>c+31
  |some f=>c+31+f.left+(if r.sa=4\/(r.sa=2/\eQ f=true) then 1 else 0))
 else if r.sa=5 then c+31 else 0
noncomputable def dU(c:Int)(t:TS)(n:Nm):Int:=
 match t.rw n with
 |none=>0
 |some r=>wR c r (t.fm n)
theorem Dk{c:Int}{r:aG}{b:Option Fr}(d:r.sa=1):wR c r b=c+31+r.tk.fuel:=yf d
theorem rQ{c:Int}{r:aG}{f:Fr}(b:r.sa=2):wR c r (some f)=c+31+f.left+(if eQ f=true then 1 else 0):=by
 unfold wR;rw[yb (by omega),yf (by omega)];simp[b]
theorem EY{c:Int}{r:aG}{f:Fr}(b:r.sa=3):wR c r (some f)=c+31+f.left:=by
 unfold wR;rw[yb (by omega),yf (by omega)];simp[b]
theorem EZ{c:Int}{r:aG}{f:Fr}(b:r.sa=4):wR c r (some f)=c+31+f.left+1:=by
 unfold wR;rw[yb (by omega),yf (by omega)];simp[b]
theorem FN{c:Int}{r:aG}{b:Option Fr}(d:r.sa=5):wR c r b=c+31:=by
 unfold wR;rw[yb (by omega),yb (by omega),yf d]
theorem E0{c:Int}{r:aG}{b:Option Fr}(d:r.sa=6):wR c r b=0:=by
 unfold wR;rw[yb (by omega),yb (by omega),yb (by omega)]
theorem fM{c:Int}{t:TS}{n:Nm}{r:aG}(b:t.rw n=some r):dU c t n=wR c r (t.fm n):=by unfold dU;rw[b]
def mj(c:Int)(x:aT):Int:=c*x.L.length+(12*x.P-2*(x.own-4-x.c0))
def bh(s:PS)(k:Nat):Prop:=(s.dq k).L≠[]\/(k=0/\s.queue≠[])
def PS.act(s:PS)(j i:Nat):aC:=(s.dq j).acts.getD i (cQ 0 0)
noncomputable def fh(s:PS)(k:Nat):Int:=
 match (s.th k).act with
 |none=>if bh s k then 10 else 0
 |some y=>
  if (s.th k).kn=1 then bA (s.act y.1 y.2)+(if bh s k then 10 else 0)
  else if (s.th k).kn=2 then(if bh s k then bA (s.act y.1 y.2) else 0)
  else if bh s k then 10+bA (s.act y.1 y.2) else 0
noncomputable def ga(c:Int)(t:TS):Int:=(t.ks.map (dU c t)).sum
def uy(c:Int)(ds:List aT):Int:=(ds.map (mj c)).sum
noncomputable def km(s:PS):Int:=((List.range s.ths.length).map (fh s)).sum
noncomputable def pot(c B:Int)(s:PS):Int:=10*s.queue.length+ga c s.T+uy c s.ds+km s+(2*c+60)*(B-s.T.ks.length)
def jx(s:PS)(k:Nat):Prop:=(s.th k).run=true\/((s.th k).act≠none/\(s.th k).kn=1)\/bh s k
def sO(c B:Int)(s:PS)(k:Nat)(s':PS):Prop:=pot c B s'+1<=pot c B s\/(pot c B s'<=pot c B s/\¬jx s k/\∀l,l≠k->jx s l->jx s' l)
section
variable {G:dx}{s s' s1:PS}{ex ex':Nm->Prop}{k j i:Nat}{th th':Th}{n m:Nm}{r:aG}{c B:Int}
theorem rN{α:Type}{f g:α->Int}:∀(l:List α),(∀x∈l,f x<=g x)->(l.map f).sum<=(l.map g).sum
 | [],_=>by simp
 |a :: l,b=>by
  simp only[zc,zH];have:=b a (by simp);have:=rN l λx d=>b x (by simp[d])
  omega
theorem kF{α:Type}{f g:α->Int}{a:α}:∀(l:List α),l.Nodup->a∈l->(∀x∈l,x≠a->g x<=f x)->(l.map g).sum<=(l.map f).sum-f a+g a
 | [],_,e,_=>by simp at e
 |b :: l,y,v,e=>by
  simp only[zc,zH];obtain⟨t,u⟩:=List.nodup_cons.1 y
  by_cases d:b=a
  ·subst d
   have:=rN (f:=g) (g:=f) l λx o=>e x (by simp[o]) (λd=>t (by rw[<-d];exact o))
   omega
  ·have w:a∈l:=by
    rcases yG.1 v with q|q
    ·exact absurd q.symm d
    ·exact q
   have:=kF l u w λx o z=>e x (by simp[o]) z
   have:=e b (by simp) d;omega
theorem BB{α:Type}{f g:α->Int}{a b:α}(l:List α)(o:l.Nodup)(v:a∈l)(y:b∈l)(w:a≠b)(q:∀x∈l,x≠a->x≠b->g x<=f x):(l.map g).sum<=(l.map f).sum-f a+g a-f b+g b:=by
 have t:=kF (f:=f) (g:=λx=>if x=b then g b else f x) l o y λx _ e=>by simp only[yb e];exact yE _
 have u:=kF (f:=λx=>if x=b then g b else f x) (g:=g) l o v λx e z=>by
  by_cases d:x=b
  ·subst d;simp
  ·simp only[yb d];exact q x e z d
 simp only[yb w] at u;simp only[yR] at t;omega
theorem qn{ds:List aT}{x y:aT}(b:ds[j]?=some x):uy c (ds.set j y)=uy c ds-mj c x+mj c y:=mM (mj c) ds j x y b
theorem oJ{t t':TS}(e:t'.ks=t.ks)(g:t.ks.Nodup)(d:n∈t.ks)(b:∀m,m≠n->dU c t' m<=dU c t m):ga c t'<=ga c t-dU c t n+dU c t' n:=by
 unfold ga;rw[e];exact kF _ g d λx _ l=>b x l
theorem mu(e:s'.ths.length=s.ths.length)(d:k<s.ths.length)(b:∀l,l<s.ths.length->l≠k->fh s' l<=fh s l):km s'<=km s-fh s k+fh s' k:=by
 unfold km;rw[e];exact kF _ List.nodup_range (zw.2 d) λx o g=>b x (zw.1 o) g
theorem vo(d:s'.ths.length=s.ths.length)(b:∀l,l<s.ths.length->fh s' l<=fh s l):km s'<=km s:=by
 unfold km;rw[d];exact rN _ λx e=>b x (zw.1 e)
theorem kQ{x:aT}{a:aC}(d:s.ds[j]?=some x)(b:x.acts[i]?=some a):s.act j i=a:=by
 unfold PS.act;rw[PS.dq_eq d];exact kR b
theorem aH.rank_pos(e:aH G s ex)(o:s.ths[k]?=some th)(l:th.act=some (j,i)):1<=bA (s.act j i):=by
 obtain⟨x,a,b,d,g,q⟩:=(e.th k th o).act j i l;rw[kQ b d];exact(uh (e.many.each j x b) d g (e.kinds x (yh b) a (yh d))).1
theorem aH.wTh_le(q:aH G s ex){l:Nat}(u:l<s.ths.length)(g:s'.th l=s.th l)(o:∀j i,(s.th l).act=some (j,i)->s'.act j i=s.act j i)(e:bh s' l->bh s l):fh s' l<=fh s l:=by
 have t:=fH (d:=mN) u;unfold fh;rw[g]
 cases ha:(s.th l).act with
 |none=>
  simp only;split
  ·rename_i b;rw[yf (e b)];exact yE _
  ·split<;>omega
 |some y=>
  obtain⟨j,i⟩:=y;simp only;rw[o j i ha];have v:=q.rank_pos t ha;split
  ·split
   ·rename_i b;rw[yf (e b)];exact yE _
   ·split<;>omega
  ·split
   ·split
    ·rename_i b;rw[yf (e b)];exact yE _
    ·split<;>omega
   ·split
    ·rename_i b;rw[yf (e b)];exact yE _
    ·split<;>omega
theorem aH.act_other(w:aH G s ex){l:Nat}(A:l<s.ths.length){y x:aT}(v:s.ds[j]?=some x)(u:s'.ds=s.ds.set j y)(C:∀b a,(s.th l).act=some (j,b)->x.acts[b]?=some a->y.acts[b]?=some a):
 ∀e b,(s.th l).act=some (e,b)->s'.act e b=s.act e b:=by
 intro e b t;have z:=fH (d:=mN) A;obtain⟨D,a,g,o,E,F⟩:=(w.th l _ z).act e b t;rw[kQ g o]
 by_cases q:e=j
 ·subst q
  rw[v] at g
  cases g
  exact kQ (x:=y) (by rw[u];exact bD (gS v).1) (C b a t o)
 ·exact kQ (x:=D) (by rw[u,dF q];exact g) o
theorem pF{x y:aT}(d:s.ds[j]?=some x)(b:s'.ds=s.ds.set j y):s'.dq j=y:=PS.dq_eq (by rw[b];exact bD (gS d).1)
theorem lO{y:aT}{l:Nat}(b:s'.ds=s.ds.set j y)(d:l≠j):s'.dq l=s.dq l:=by
 unfold PS.dq;rw[b,yc,yc,dF d]
theorem jA(d:k<s.ths.length)(b:s'.ths=s.ths.set k th'):s'.th k=th':=PS.th_eq (by rw[b];exact bD d)
theorem gz{l:Nat}(b:s'.ths=s.ths.set k th')(d:l≠k):s'.th l=s.th l:=by
 unfold PS.th;rw[b,yc,yc,dF d]
theorem iH(b:(s.th k).act=none):fh s k=if bh s k then 10 else 0:=by
 unfold fh;rw[b]
theorem uU(b:(s.th k).act=none):0<=fh s k/\fh s k<=10:=by
 rw[iH b];split<;>omega
theorem aH.pot_begin(g:aH G s ex)(u:s.ths[k]?=some th)(A:th.act=none)(n:Nm):pot c B (dX s k n)<=pot c B s:=by
 have K:k<s.ths.length:=(gS u).1;unfold dX
 cases hn:s.T.rw n with
 |none=>exact yE _
 |some r=>
  simp only
  by_cases b:r.sa=1\/r.sa=4
  ·rw[yf b]
   obtain⟨p,x,S,_,D⟩:=(g.t.row n r hn).node;rw[PS.th_eq u];obtain⟨s',d⟩:=eX ({s with T:=gQ (s.prog n.job) s.T n r,ths:=s.ths.set k {th with cur:=n,run:=true}}:PS);rw[<-d];have o:s'.ths=s.ths.set k {th with cur:=n,run:=true}:=by rw[d]
   have e:s'.T=gQ (s.prog n.job) s.T n r:=by rw[d]
   have q:s'.ds=s.ds:=by rw[d]
   have y:s'.queue=s.queue:=by rw[d]
   have z:s'.T.ks=s.T.ks:=by rw[e];rfl
   have C:∀l,bh s' l↔bh s l:=by intro l;unfold bh PS.dq;rw[q,y]
   have Q:km s'<=km s:=by
    refine vo (by rw[o,yI]) λl L=>?_
    by_cases w:l=k
    ·subst w
     have:(s'.th l).act=none:=by rw[jA K o];exact A
     rw[iH this,iH (by rw[PS.th_eq u];exact A)];simp only[C];exact yE _
    ·exact g.wTh_le L (gz o w) (λj i _=>by unfold PS.act PS.dq;rw[q]) (C l).1
   have R:ga c s'.T<=ga c s.T:=by
    have v:n∈s.T.ks:=(g.t.ks n).2 (by rw[hn];simp)
    have:=oJ (c:=c) (n:=n) z g.t.nodup v λm v=>by
     rw[e];simp only[dU,gQ,ag _ _ v];exact yE _
    have V:dU c s'.T n<=dU c s.T n:=by
     have N:s'.T.rw n=some {r with sa:=2}:=by rw[e];exact aA _ _ _
     have H:s'.T.fm n=some ((s.T.fm n).getD (Fr.begun (s.prog n.job) r.tk)):=by rw[e];exact aA _ _ _
     rw[fM N,fM hn,H,rQ rfl]
     rcases b with b|b
     ·have F:=(D.idle (.inl b)).2
      rw[Dk b,F];simp[eQ,Fr.begun]
     ·obtain⟨f,E,P,_⟩:=D.runs (.inr (.inr b))
      rw[E,EZ b];simp only[zU];split<;>omega
    omega
   unfold pot;rw[q,y,z];omega
  ·rw[yb b]
   exact yE _
theorem aH.pot_push(q:aH G s ex)(e:s.ths[k]?=some th)(D:th.act=none)(n:Nm):pot c B (eE s k n)<=pot c B s+(c+29):=by
 have A:k<s.ths.length:=(gS e).1;have t:=q.dqk e;unfold eE;rw[PS.th_eq e];obtain⟨v,hv⟩:=eX (((eM s.nms n).1:Int):Int);rw[<-hv];obtain⟨s',b⟩:=eX ({s with nms:=(eM s.nms n).2,ds:=s.ds.set k (eN (s.dq k) v),ths:=s.ths.set k {th with act:=some (k,(s.dq k).acts.length),kn:=1}}:PS);rw[<-b];have o:s'.ths=s.ths.set k {th with act:=some (k,(s.dq k).acts.length),kn:=1}:=by rw[b]
 have C:s'.T=s.T:=by rw[b]
 have d:s'.ds=s.ds.set k (eN (s.dq k) v):=by rw[b]
 have w:s'.queue=s.queue:=by rw[b]
 have F:∀l,l≠k->(bh s' l↔bh s l):=by intro l g;unfold bh;rw[lO d g,w]
 have L:=mu (s:=s) (s':=s') (k:=k) (by rw[o,yI]) A λl g u=>
  q.wTh_le g (gz o u) (q.act_other g t d (λR a _ z=>by simp only[eN];rw[yi (gS z).1];exact z)) (F l u).1
 have N:=(uU (s:=s) (k:=k) (by rw[PS.th_eq e];exact D)).1
 have P:fh s' k<=17:=by
  have H:s'.th k= {th with act:=some (k,(s.dq k).acts.length),kn:=1}:=jA A o;have E:s'.act k (s.dq k).acts.length=cQ 0 v:=kQ (x:=eN (s.dq k) v) (by rw[d];exact bD (gS t).1) (by simp[eN]);unfold fh;rw[H];simp only[E,yR];simp only[bA,cQ];split<;>omega
 have K:=qn (c:=c) (y:=eN (s.dq k) v) t
 have Q:mj c (eN (s.dq k) v)=mj c (s.dq k)+c+12:=by
  simp only[mj,eN,yk,List.length_singleton];rw[Int.natCast_add,Int.mul_add];simp;omega
 unfold pot;rw[d,w,C];omega
end
section
variable {G:dx}{s s' s1:PS}{ex ex':Nm->Prop}{k j i:Nat}{th th':Th}{n m:Nm}{r:aG}{c B:Int}{p:List ah}{f:Fr}
theorem qM{o:bI}{st:Option iR}{f':Fr}(d:f.joins o=(f',st)):(st=none->f'.waits=none/\f'.left=f.left)/\(st=some .join->f'= {f with waits:=some o}/\f.os.any (λc=>!c.given)=true)/\st≠some .more:=by
 unfold Fr.joins at d;split at d
 ·rename_i e
  cases d
  exact⟨λb=>(by cases b),λ_=>⟨rfl,e⟩,by simp⟩
 ·simp only at d
  split at d
  ·cases d;exact⟨λb=>(by cases b),λb=>(by cases b),by simp⟩
  ·split at d
   ·cases d;exact⟨λb=>(by cases b),λb=>(by cases b),by simp⟩
   ·cases d;exact⟨λ_=>⟨rfl,rfl⟩,λb=>(by cases b),by simp⟩
theorem sc(b:f.os.any (λc=>!c.given)=true):f.kd.any (λc=>!c.given)=true:=by
 obtain⟨c,d,e⟩:=zT.1 b;exact zT.2 ⟨c,List.mem_of_mem_drop d,e⟩
theorem sq(u:f.waits=none):((cz (f.step p)).2=.more->(cz (f.step p)).1.waits=none)/\((cz (f.step p)).2=.join->(cz (f.step p)).1.left<f.left/\eQ (cz (f.step p)).1=true):=by
 unfold Fr.step
 by_cases e:f.left=0
 ·rw[yf e]
  exact⟨λb=>(by cases b),λb=>(by cases b)⟩
 ·rw[yb e]
  simp only;split
  ·unfold Fr.forks
   split
   ·exact⟨λb=>(by cases b),λb=>(by cases b)⟩
   ·split
    ·exact⟨λb=>(by cases b),λb=>(by cases b)⟩
    ·exact⟨λb=>(by cases b),λb=>(by cases b)⟩
  ·split
   ·obtain⟨f',st,d⟩ :∃f' st,Fr.joins {f with left:=f.left-1,at_:=f.at_+1} (bu p f.fn f.at_)=(f',st):=⟨_,_,rfl⟩
    obtain⟨g,l,o⟩:=qM d;rw[d]
    cases st with
    |none=>exact⟨λ_=>(g rfl).1,λb=>(by cases b)⟩
    |some st=>
     refine⟨λb=>?_,λb=>?_⟩
     ·simp only[cz,zU] at b;subst b;exact absurd rfl o
     ·simp only[cz,zU] at b
      subst b;obtain⟨q,t⟩:=l rfl;subst q;refine⟨?_,?_⟩
      ·simp only[cz];omega
      ·simp only[cz,eQ,Option.isSome_some,Bool.true_and]
       exact sc t
   ·split
    ·exact⟨λb=>(by cases b),λb=>(by cases b)⟩
    ·exact⟨λ_=>u,λb=>(by cases b)⟩
theorem Bx:((f.run1 p).2=.more->(f.run1 p).1.waits=none)/\((f.run1 p).2=.join->((f.run1 p).1.left<f.left\/eQ f=true)/\eQ (f.run1 p).1=true):=by
 unfold Fr.run1
 cases hw:f.waits with
 |none=>
  simp only;obtain⟨d,e⟩:=sq (p:=p) hw;exact⟨d,λb=>⟨.inl (e b).1,(e b).2⟩⟩
 |some o=>
  simp only;obtain⟨f',st,t⟩ :∃f' st,f.joins o=(f',st):=⟨_,_,rfl⟩
  obtain⟨d,e,u⟩:=qM t;rw[t]
  cases st with
  |none=>
   simp only;obtain⟨l,g⟩:=sq (p:=p) (d rfl).1;exact⟨l,λb=>⟨.inl (by have:=(g b).1;have:=(d rfl).2;omega),(g b).2⟩⟩
  |some st=>
   simp only;refine⟨λb=>?_,λb=>?_⟩
   ·subst b;exact absurd rfl u
   ·subst b
    obtain⟨l,g⟩:=e rfl;have q:=sc g;subst l;exact⟨.inr (by simp only[eQ,hw,Option.isSome_some,Bool.true_and];exact q),by simp only[eQ,Option.isSome_some,Bool.true_and];exact q⟩
theorem ke(rows:Nm->Option aG)(n:Nm):∀(l:List Nat) (f:Fr),(bR rows n l f).left=f.left/\(bR rows n l f).kd.length=f.kd.length
 | [],f=>⟨rfl,rfl⟩
 |i :: l,f=>by
  have:=ke rows n l (f.give i (kN rows (aF n i)));simp only[bR];rw[this.1,this.2];exact⟨rfl,by simp[Fr.give]⟩
theorem nM(rows:Nm->Option aG)(n:Nm):∀(l:List Nat) (f:Fr) (i:Nat) (c:cZ),(bR rows n l f).kd[i]?=some c->(i∈l\/∃c',f.kd[i]?=some c'/\c'.given=true)->c.given=true
 | [],f,i,c,d,b=>by
   rcases b with b|⟨c',e,o⟩
   ·simp at b
   ·simp only[bR] at d
    rw[d] at e
    cases e
    exact o
 |a :: l,f,i,c,d,b=>by
  simp only[bR] at d;refine nM rows n l _ i c d ?_
  by_cases g:i=a
  ·subst g
   have t:i<f.kd.length:=by
    have:=(gS d).1;rw[(ke rows n l _).2] at this
    simpa[Fr.give] using this
   exact .inr ⟨_,by simp only[Fr.give];exact bD t,rfl⟩
  ·rcases b with b|⟨c',e,o⟩
   ·rcases yG.1 b with q|q
    ·exact absurd q g
    ·exact .inl q
   ·exact .inr ⟨c',by simp only[Fr.give];rw[dF g];exact e,o⟩
theorem qK(rows:Nm->Option aG)(n:Nm)(f:Fr):eQ (bR rows n f.waitsOf f)=false:=by
 unfold eQ;rw[Bool.and_eq_false_iff];refine .inr ?_;rw[zI];intro c e;obtain⟨i,b⟩:=yF e
 have d:i<f.kd.length:=by
  have:=(gS b).1;rw[(ke rows n _ _).2] at this;exact this
 have:=nM rows n f.waitsOf f i c b (by
  cases hg:(f.kd.getD i ⟨0,true,⟨0,0⟩⟩).given with
  |true=>exact .inr ⟨_,fH d,hg⟩
  |false=>exact .inl (Yg.2 ⟨zw.2 d,by rw[hg];rfl⟩))
 simp[this]
theorem aH.pot_turn(v:aH G s ex)(q:s.ths[k]?=some th)(w:th.act=none)(y:th'.act=none)(T':TS):
 pot c B {s with T:=T',ths:=s.ths.set k th'}<=pot c B s-ga c s.T+ga c T'-(2*c+60)*(T'.ks.length-s.T.ks.length):=by
 have z:k<s.ths.length:=(gS q).1;obtain⟨s',b⟩:=eX ({s with T:=T',ths:=s.ths.set k th'}:PS);rw[<-b];have d:s'.ths=s.ths.set k th':=by rw[b]
 have e:s'.ds=s.ds:=by rw[b]
 have o:s'.queue=s.queue:=by rw[b]
 have u:s'.T=T':=by rw[b]
 have t:∀l,bh s' l↔bh s l:=by intro l;unfold bh PS.dq;rw[e,o]
 have C:km s'<=km s:=by
  refine vo (by rw[d,yI]) λl A=>?_
  by_cases g:l=k
  ·subst g
   have:(s'.th l).act=none:=by rw[jA z d];exact y
   rw[iH this,iH (by rw[PS.th_eq q];exact w)];simp only[t];exact yE _
  ·exact v.wTh_le A (gz d g) (λj i _=>by unfold PS.act PS.dq;rw[e]) (t l).1
 unfold pot;rw[e,o,u]
 have:(2*c+60)*(B-T'.ks.length)=(2*c+60)*(B-s.T.ks.length)-(2*c+60)*(T'.ks.length-s.T.ks.length):=by
  rw[<-Int.mul_sub]
  congr 1
  omega
 omega
theorem rM(b:cA G s.T)(g:s.T.rw n=some r){st:Nat}{f:Fr}:ga c (iJ s.T n r st f)<=ga c s.T-dU c s.T n+wR c {r with sa:=st} (some f):=by
 have:=oJ (c:=c) (t:=s.T) (t':=iJ s.T n r st f) (n:=n) rfl b.nodup ((b.ks n).2 (by rw[g];simp)) λm e=>by
  simp only[dU,iJ,ag _ _ e];exact yE _
 rw[fM (t:=iJ s.T n r st f) (r:={r with sa:=st}) (aA _ _ _)] at this;have d:(iJ s.T n r st f).fm n=some f:=aA _ _ _;rw[d] at this;exact this
theorem aH.fork_pot(d:aH G s ex)(av:10<=c)(l:s.ths[k]?=some th)(e:th.act=none)(a1:th.run=true){x t:aj}(Q:th.cur=n)(v:s.T.rw n=some r)(w:r.sa=2)(V:G n.job=some (p,x))(aE:bK p x n.M=some r.tk)
 (S:s.T.fm n=some f) (R:kw p r f) (H:lI p f (jw p r.tk r.kn) ((f.run1 p).1,.fork t)):pot c B (iU s k n r (f.run1 p).1 t)+1<=pot c B s:=by
 obtain⟨F,z,P⟩:=lc d.t v R H;obtain⟨a8,ab,ad,L,ai,al,am,an,N,a9⟩:=H.fork t rfl;have az:r.kn<16:=(eB F).2.1;have Z:n≠aF n r.kn:=λq=>ip n r.kn q.symm
 have key:∀(b:aG),ga c (bM s.T n r (f.run1 p).1 b)<=ga c s.T-(c+31+f.left)+(c+31+(f.run1 p).1.left)+wR c b none:=by
  intro b;have X:n∈s.T.ks:=(d.t.ks n).2 (by rw[v];simp);have a0:aF n r.kn ∉ s.T.ks:=λq=>(d.t.ks _).1 q z
  have a3:ga c (bM s.T n r (f.run1 p).1 b)=(s.T.ks.map (dU c (bM s.T n r (f.run1 p).1 b))).sum+dU c (bM s.T n r (f.run1 p).1 b) (aF n r.kn):=by
   unfold ga;have:(bM s.T n r (f.run1 p).1 b).ks=s.T.ks++ [aF n r.kn]:=rfl;rw[this,yS,List.sum_append];simp
  have a4:=kF (f:=dU c s.T) (g:=dU c (bM s.T n r (f.run1 p).1 b)) s.T.ks d.t.nodup X λm W Y=>by
   have:m≠aF n r.kn:=λq=>a0 (by rw[<-q];exact W)
   simp only[dU,bM,ag _ _ this,ag _ _ Y];exact yE _
  have a5:dU c (bM s.T n r (f.run1 p).1 b) n=c+31+(f.run1 p).1.left:=by
   rw[fM (r:={r with opn:=r.opn+(if b.sa=6 then 0 else 1),kn:=r.kn+1}) (by rw[ja,yb Z,yf rfl])];have:(bM s.T n r (f.run1 p).1 b).fm n=some (f.run1 p).1:=aA _ _ _;rw[this,rQ (by exact w)]
   have a2:eQ (f.run1 p).1=false:=by
    unfold eQ;have u:(f.run1 p).1.waits=none:=L;rw[u];rfl
   rw[a2];simp
  have a6:dU c (bM s.T n r (f.run1 p).1 b) (aF n r.kn)=wR c b none:=by
   rw[fM (r:=b) (by rw[ja,yf rfl])];have:(bM s.T n r (f.run1 p).1 b).fm (aF n r.kn)=s.T.fm (aF n r.kn):=ag _ _ (ip _ _);rw[this,d.t.none_ _ z]
  have a7:c+31+f.left<=dU c s.T n:=by
   rw[fM v,S,rQ w];split<;>omega
  unfold ga at*;omega
 have C:∀b,((bM s.T n r (f.run1 p).1 b).ks.length:Int)-s.T.ks.length=1:=by
  intro b;have:(bM s.T n r (f.run1 p).1 b).ks=s.T.ks++ [aF n r.kn]:=rfl;rw[this];simp;omega
 have aw:((f.run1 p).1.left:Int)+t.fuel+1<=f.left:=by
  have:(f.run1 p).1.left+t.fuel+1<=f.left:=N;omega
 unfold iU
 cases hkn:s.known (aF n r.kn) with
 |some y=>
  simp only;have:=key ⟨t,6,0,y,true,0,false⟩;rw[E0 rfl] at this;rw[jm l];have o:=d.pot_turn (c:=c) (B:=B) l e e (bM s.T n r (f.run1 p).1 ⟨t,6,0,y,true,0,false⟩);rw[C] at o;omega
 |none=>
  simp only
  by_cases u:s.away (aF n r.kn)=true
  ·rw[yf u]
   have:=key ⟨t,5,0,⟨0,0⟩,true,0,false⟩;rw[FN rfl] at this;rw[jm l];have o:=d.pot_turn (c:=c) (B:=B) l e e (bM s.T n r (f.run1 p).1 ⟨t,5,0,⟨0,0⟩,true,0,false⟩);rw[C] at o;omega
  ·rw[yb u]
   have D:=key ⟨t,1,0,⟨0,0⟩,true,0,false⟩;rw[Dk rfl] at D;have o:=d.pot_turn (c:=c) (B:=B) l e e (bM s.T n r (f.run1 p).1 ⟨t,1,0,⟨0,0⟩,true,0,false⟩);rw[C,<-jm l] at o;obtain⟨K,A⟩:=eX ({s with T:=bM s.T n r (f.run1 p).1 ⟨t,1,0,⟨0,0⟩,true,0,false⟩}:PS);rw[<-A] at o ⊢
   have ar:pot c B (eE K k (aF n r.kn))<=pot c B K+(c+29):=by
    have E:=d.fork_mid l e a1 Q v w V F z P hkn u;rw[<-A] at E;exact E.pot_push (k:=k) (th:=th) (by rw[A];exact l) e _
   simp only at D;omega
end
section
variable {G:dx}{s s' s1:PS}{ex ex':Nm->Prop}{k j i:Nat}{th th':Th}{n m:Nm}{r:aG}{c B:Int}{p:List ah}{f:Fr}
theorem aH.run_pot(d:aH G s ex)(ar:10<=c)(o:s.ths[k]?=some th)(l:th.act=none)(X:th.run=true):pot c B (eW s k)+1<=pot c B s:=by
 obtain⟨r,p,x,f,u,Q,a2,b2,P,D,b3⟩:=d.current o X;have N:=jS (p:=p) D.ok D.res;obtain⟨b0,b1⟩:=Bx (p:=p) (f:=f);unfold eW;rw[PS.th_eq o,u,P];simp only;rw[b3];generalize a4:th.cur=n at*;have F:dU c s.T n=c+31+f.left+(if eQ f=true then 1 else 0):=by rw[fM u,P,rQ Q]
 have S:∀st f',((iJ s.T n r st f').ks.length:Int)-s.T.ks.length=0:=λst f'=>by
  have:(iJ s.T n r st f').ks=s.T.ks:=rfl;rw[this];omega
 cases hs:(f.run1 p).2 with
 |more=>
  simp only;obtain⟨E,Z,a0,am,an⟩:=N.mo hs;have e:=rM (c:=c) (st:=2) (f:=(f.run1 p).1) d.t u;rw[F,rQ rfl] at e;have b7:eQ (f.run1 p).1=false:=by unfold eQ;rw[b0 hs];rfl
  rw[b7] at e;have:=d.pot_turn (c:=c) (B:=B) o l l (iJ s.T n r 2 (f.run1 p).1);rw[S] at this;rw[jm o];simp at e;have z:(2*c+60)*(0:Int)=0:=Int.mul_zero _;rw[z] at this;split at e<;>omega
 |fork t=>
  simp only;refine d.fork_pot ar o l X a4 u Q a2 b2 P D ?_;rw[<-hs];exact N
 |join=>
  simp only;obtain⟨E,Z,a0,am,an,bk,bm⟩:=N.join hs;obtain⟨v,bp⟩:=b1 hs;have z:(2*c+60)*(0:Int)=0:=Int.mul_zero _
  by_cases a5:r.opn≠0
  ·rw[yf a5]
   have e:=rM (c:=c) (st:=3) (f:=(f.run1 p).1) d.t u;rw[F,EY rfl] at e;have:=d.pot_turn (c:=c) (B:=B) (th':={th with cur:=gU,run:=false}) o l l (iJ s.T n r 3 (f.run1 p).1);rw[S,z] at this
   rcases v with v|v
   ·split at e<;>omega
   ·rw[yf v] at e;omega
  ·rw[yb a5]
   have e:=rM (c:=c) (st:=2) (f:=bR s.T.rw n (f.run1 p).1.waitsOf (f.run1 p).1) d.t u;rw[F,rQ rfl,qK,(ke _ _ _ _).1] at e;have:=d.pot_turn (c:=c) (B:=B) o l l (iJ s.T n r 2 (bR s.T.rw n (f.run1 p).1.waitsOf (f.run1 p).1));rw[S,z] at this;rw[jm o];simp at e
   rcases v with v|v
   ·split at e<;>omega
   ·rw[yf v] at e;omega
 |done y=>
  simp only;obtain⟨E,Z,a0⟩:=N.done y hs;rw[D.fin_] at E;have b9:y=bH p r.tk:=(Prod.mk.inj E).1.symm
  have aE:r.kn=(aS p r.tk).length:=by
   have H:=(Prod.mk.inj E).2;have R:=D.knle;have:=yl List.length H;simp at this;omega
  have L:=ow d.t u y true
  have az:((bE s.T n r y true).ks.length:Int)-s.T.ks.length=0:=by
   have:(bE s.T n r y true).ks=s.T.ks:=rfl;rw[this];omega
  have K:∀m,m≠n->(bE s.T n r y true).fm m=s.T.fm m:=λm w=>by simp only[bE];rw[ag _ _ w]
  have a3:n∈s.T.ks:=(d.t.ks n).2 (by rw[u];simp)
  have ab:dU c (bE s.T n r y true) n=0:=by
   rcases L n with⟨_,b⟩|⟨b,_⟩|⟨b,_⟩
   ·rw[fM b,E0 rfl]
   ·exact absurd rfl b
   ·exact absurd rfl b
  have a6:=d.pot_turn (c:=c) (B:=B) (th':={th with cur:=gU,run:=false}) o l l (bE s.T n r y true);have z:(2*c+60)*(0:Int)=0:=Int.mul_zero _;rw[az,z] at a6
  by_cases A:fz s.T n r=true
  ·rw[yf A]
   cases hff:r.fk with
   |false=>simp[fz,hff] at A
   |true=>
    obtain⟨i,q,ai,C,ba,bb⟩:=d.t.parent u hff;have V:n≠dI n:=λb=>ip (dI n) i (by rw[<-ai];exact b)
    have a9:=A;rw[jo hff C] at a9;have W:=yD a9
    have b4:(bE s.T n r y true).rw (dI n)=some (fc q):=by
     rcases L (dI n) with⟨b,_⟩|⟨_,_,_,q',a8,b⟩|⟨_,b,_⟩
     ·exact absurd b.symm V
     ·rw[C] at a8;cases a8;exact b
     ·exact absurd rfl (b hff)
    obtain⟨bq,br,bn,bo,b5⟩:=(d.t.row _ q C).node;obtain⟨bf,aw,_⟩:=b5.runs (.inr (.inl W.1))
    have b8:dU c (bE s.T n r y true) (dI n)=dU c s.T (dI n)+1:=by
     rw[fM b4,fM C,K _ V.symm,aw,EY W.1,EZ (by simp only[fc,yf W])]
    have e:ga c (bE s.T n r y true)<=ga c s.T-dU c s.T n+0-dU c s.T (dI n)+(dU c s.T (dI n)+1):=by
     have:=BB (f:=dU c s.T) (g:=dU c (bE s.T n r y true)) s.T.ks d.t.nodup a3 ((d.t.ks _).2 (by rw[C];simp)) V λm w H R=>by
      rcases L m with⟨b,_⟩|⟨_,_,b,_⟩|⟨_,_,b⟩
      ·exact absurd b H
      ·exact absurd b R
      ·simp only[dU,b,K m H];exact yE _
     rw[ab,b8] at this;exact this
    obtain⟨ad,Y⟩:=eX ({s with T:=bE s.T n r y true,ths:=s.ths.set k {th with cur:=gU,run:=false}}:PS);rw[<-Y] at a6 ⊢;have a1:=d.done_mid o l X a4 u Q a2 b9 aE;rw[<-Y] at a1;have R:pot c B (eE ad k (dI n))<=pot c B ad+(c+29):=a1.pot_push (k:=k) (th:={th with cur:=gU,run:=false}) (by rw[Y];exact bD (gS o).1) l _;split at F<;>omega
  ·rw[yb A]
   have e:ga c (bE s.T n r y true)<=ga c s.T-dU c s.T n+0:=by
    have:=oJ (c:=c) (t:=s.T) (t':=bE s.T n r y true) (n:=n) rfl d.t.nodup a3 λm w=>by
     rcases L m with⟨b,_⟩|⟨_,av,al,q,a7,b⟩|⟨_,_,b⟩
     ·exact absurd b w
     ·subst al
      have b6:(fc q).sa=q.sa:=by
       rw[jo av a7] at A;simp only[fc];rw[yb (λb=>A (yg b))]
      rw[fM b,fM a7,K _ w];unfold wR;rw[b6];exact yE _
     ·simp only[dU,b,K m w];exact yE _
    rw[ab] at this;exact this
   split at F<;>omega
end
end
end Go.Proofs.YtmdocplknceilaaGreat
