import Derived.Test.YtmdocplknceilaaGreatNWAP
import Derived.Test.YtmdocplknceilaaGreatNWAH
set_option linter.all false
set_option maxRecDepth 100000
set_option maxHeartbeats 1000000
namespace Go.Proofs.YtmdocplknceilaaGreat
section
open Go.RowKit
def jz(ps:List Nat):Option Nat->Value
 |none=>.pointer none
 |some i=>.pointer (some ⟨ps.getD i 0,0,none⟩)
def sN(w:World)(F:Nat->Prop)(p:Nat):Prop:=∀(f:Fn) (ba bv:Nat),w.cell? ⟨p,0,none⟩=some (.func f #[] #[.pointer (some ⟨ba,0,none⟩),.pointer (some ⟨bv,0,none⟩)])->F ba/\F bv
def my(m z:Nat)(C:List Int)(on:Value):Array Value:=
 #[.pointer (some ⟨m,0,none⟩),.int .i64 (z:Int),.int .i64 ((z:Int)+1),.int .i64 ((z:Int)+2),.int .i64 (ld C z),.int .i64 (ld C ((z:Int)+1)),on]
structure DW(w:World)(F:Nat->Prop)(m:Nat)(n:Int)(v:Value)(C:List Int)(ds:List aT)(dp:List Nat)(ps:List (List Nat)):Prop where
 fm:F m
 fv:∀k,v.ownBlock=some k->F k
 mem:cx w 0 m n v C
 dlen:dp.length=ds.length
 plen:ps.length=ds.length
 dq:∀(j:Nat) (x:aT),ds[j]?=some x->∃d pl,dp[j]?=some d/\ps[j]?=some pl/\F d/\0<=x.d/\ae w d 218 (my m x.d.toNat C (jz pl x.on))/\pl.length=x.acts.length
 act:∀(j i:Nat) (x:aT) (a:aC),ds[j]?=some x->x.acts[i]?=some a->∃d pl p,dp[j]?=some d/\ps[j]?=some pl/\pl[i]?=some p/\F p/\lC w p d v a/\sN w F p
 dne:∀(i j:Nat) d d',i≠j->dp[i]?=some d->dp[j]?=some d'->d≠d'
 pne:∀(j i j' i':Nat) (pl pl':List Nat) p p',ps[j]?=some pl->pl[i]?=some p->ps[j']?=some pl'->pl'[i']?=some p'->(j≠j'\/i≠i')->p≠p'
section
variable {w w':World}{F F':Nat->Prop}{m j i:Nat}{n n':Int}{v v':Value}{C C':List Int}{ds:List aT}{dp:List Nat}{ps:List (List Nat)}{x:aT}{a:aC}
theorem DW.mo(c:DW w F m n v C ds dp ps)(e:∀b,F b->F' b):DW w F' m n v C ds dp ps:=
 ⟨e _ c.fm,λk B=>e _ (c.fv k B),c.mem,c.dlen,c.plen,λj x r=>by
  obtain⟨d,pl,g,l,o,q⟩:=c.dq j x r;exact⟨d,pl,g,l,e _ o,q⟩,λj i x a r A=>by
  obtain⟨d,pl,p,g,l,o,q,z,y⟩:=c.act j i x a r A;exact⟨d,pl,p,g,l,o,e _ q,z,λf s t u=>⟨e _ (y f s t u).1,e _ (y f s t u).2⟩⟩,c.dne,c.pne⟩
theorem lC.J(b:lC w i j v a):∃cs,ae w i 194 cs:=by
 obtain⟨dv,c,_⟩:=b.ex;exact⟨_,c⟩
theorem lC.keepF{S:Nat->Prop}{p d:Nat}(y:lC w p d v a)(u:sN w F p)(s:aa S w w')(r:∀b,F b->¬S b)(G:F p):lC w' p d v a/\sN w' F p:=by
 obtain⟨⟨dv,q,c⟩,z,A,B⟩:=y;have t:=s.J q (r _ G);have D:w'.cell? ⟨p,0,none⟩=w.cell? ⟨p,0,none⟩:=by rw[t.I,q.I]
 refine⟨⟨⟨dv,t,?_⟩,z,A,B⟩,λf e g k=>u f e g (by rw[<-D];exact k)⟩;unfold jE at c ⊢;split at c
 ·rename_i l
  rw[yf l];split at c
  ·rename_i o
   rw[yf o];obtain⟨e,g,k,H,K,L⟩:=c;have E:w.cell? ⟨p,0,none⟩=some dv:=by rw[q.I];rfl
   have:=u _ e g (by rw[E,k]);exact⟨e,g,k,s.J H (r _ this.1),s.J K (r _ this.2),L⟩
  ·rename_i o
   rw[yb o];exact c
 ·rename_i l
  rw[yb l];exact c
theorem DW.kp{S:Nat->Prop}(c:DW w F m n v C ds dp ps)(s:aa S w w')(g:∀b,F b->¬S b):DW w' F m n v C ds dp ps:=
 ⟨c.fm,c.fv,c.mem.only s (g _ c.fm) (λk y=>g _ (c.fv k y)),c.dlen,c.plen,λj x t=>by
  obtain⟨d,pl,l,o,e,f,q,r⟩:=c.dq j x t;exact⟨d,pl,l,o,e,f,s.J q (g _ e),r⟩,λj i x a t u=>by
  obtain⟨d,pl,p,l,o,e,f,q,r⟩:=c.act j i x a t u;obtain⟨z,A⟩:=q.keepF r s g f;exact⟨d,pl,p,l,o,e,f,z,A⟩,c.dne,c.pne⟩
theorem DW.one(b:DW w F m n v C ds dp ps)(l:ds[j]?=some x){d:Nat}{pl:List Nat}(g:dp[j]?=some d)(k:ps[j]?=some pl):bZ w 0 m d x.d.toNat n v C (jz pl x.on):=by
 obtain⟨o,t,c,e,q,r,f,s⟩:=b.dq j x l;rw[g] at c;rw[k] at e
 cases c
 cases e
 exact⟨b.mem,f,yx _⟩
theorem DW.lt_d(b:DW w F m n v C ds dp ps){d:Nat}(e:dp[j]?=some d):d<w.heap.size:=by
 have g:j<ds.length:=by rw[<-b.dlen];exact(gS e).1
 obtain⟨k,s,c,l,o,q,f,r⟩:=b.dq j ds[j] (gG g);rw[e] at c
 cases c
 exact f.lt
theorem DW.lt_p(b:DW w F m n v C ds dp ps){pl:List Nat}{p:Nat}(c:ps[j]?=some pl)(k:pl[i]?=some p):p<w.heap.size:=by
 have l:j<ds.length:=by rw[<-b.plen];exact(gS c).1
 obtain⟨o,u,B,g,D,E,G,r⟩:=b.dq j ds[j] (gG l);rw[c] at g
 cases g
 have t:i<ds[j].acts.length:=by rw[<-r];exact(gS k).1
 obtain⟨o,u,H,y,e,f,z,q,A⟩:=b.act j i ds[j] ds[j].acts[i] (gG l) (gG t);rw[c] at e
 cases e
 rw[k] at f
 cases f
 obtain⟨cs,s⟩:=q.J;exact s.lt
theorem kE{α:Type}{l:List α}{i j:Nat}{x y:α}(b:(l.set i x)[j]?=some y):(j=i/\y=x)\/(j≠i/\l[j]?=some y):=by
 rw[zg] at b;split at b
 ·rename_i c
  split at b
  ·cases b;exact .inl ⟨c.symm,rfl⟩
  ·cases b
 ·rename_i c
  exact .inr ⟨λe=>c e.symm,b⟩
theorem gH{α:Type}{l:List α}{i:Nat}{x y:α}(b:(l++ [x])[i]?=some y):l[i]?=some y\/(i=l.length/\y=x):=by
 by_cases c:i<l.length
 ·rw[yi c] at b;exact .inl b
 ·rw[yK (by omega)] at b
  rcases hn:i-l.length with _|k
  ·rw[hn] at b;simp at b;exact .inr ⟨by omega,b.symm⟩
  ·rw[hn] at b;simp at b
theorem DW.stepped(t:DW w F m n v C ds dp ps)(R:ds[j]?=some x)(b0:x.acts[i]?=some a){d p:Nat}{pl:List Nat}(K:dp[j]?=some d)(L:ps[j]?=some pl)(a2:pl[i]?=some p){r:jX}
 (s:qt w 0 m d x.d.toNat p n' v (jz pl x.on) r w' v') (b4:∀(l:Nat) (y:aT),l≠j->ds[l]?=some y->ld r.C y.d=ld C y.d/\ld r.C (y.d+1)=ld C (y.d+1)) (y:aT) (S:y.d=x.d) (Q:y.acts=x.acts.set i r.a) (az:y.on=x.on):
 aa F w w'/\DW w' (λb=>F b\/w.heap.size<=b/\b<w'.heap.size) m n' v' r.C (ds.set j y) dp ps:=by
 have c3:j<ds.length:=(gS R).1;obtain⟨aw,bo,c4,a6,a7,a8,a9,aE,c1⟩:=t.act j i x a R b0;rw[K] at a6;cases a6;rw[L] at a7;cases a7;rw[a2] at a8;cases a8;obtain⟨aw,bo,an,ar,av,bp,c5,bq⟩:=t.dq j x R;rw[K] at an;cases an;rw[L] at ar;cases ar
 have b6:aa F w w':=s.only.mono λk o=>by
  rcases o with(o|o)|o|o
  ·rw[o];exact t.fm
  ·exact t.fv k o
  ·rw[o];exact av
  ·rw[o];exact a9
 have b7:∀k,v'.ownBlock=some k->k<w'.heap.size:=λk o=>by
  rcases dj s.dq.mem.own with⟨c,_⟩|⟨g,bz,c,_,_,_,V⟩
  ·rw[c] at o;cases o
  ·rw[c] at o;cases o;exact V
 have A:=t.one R K L;obtain⟨c0,a1⟩:=aE.J;have c2:∀q,ae w q 218 (my m x.d.toNat C (jz pl x.on))->q≠d->True:=λ_ _ _=>trivial
 have bk:∀(q:Nat) cs,ae w q 218 cs->q≠d->¬(bL m v q\/q=d\/q=p):=by
  rintro q cs e G ((c|c)|c|c)
  ·exact ae.ne_ e A.mem.J (by decide) c
  ·exact aB A.mem.own e (by decide) c
  ·exact G c
  ·exact ae.ne_ e a1 (by decide) c
 have bm:∀(u:Nat) cs,ae w u 194 cs->u≠p->¬(bL m v u\/u=d\/u=p):=by
  rintro u cs e G ((c|c)|c|c)
  ·exact ae.ne_ e A.mem.J (by decide) c
  ·exact aB A.mem.own e (by decide) c
  ·exact ae.ne_ e A.J (by decide) c
  ·exact G c
 have bf:∀(b:Nat) cs,ae w b 125 cs->¬(bL m v b\/b=d\/b=p):=by
  rintro b cs e ((c|c)|c|c)
  ·exact ae.ne_ e A.mem.J (by decide) c
  ·exact aB A.mem.own e (by decide) c
  ·exact ae.ne_ e A.J (by decide) c
  ·exact ae.ne_ e a1 (by decide) c
 have bn:∀(b:Nat) cs,ae w b 2 cs->v.ownBlock≠some b->¬(bL m v b\/b=d\/b=p):=by
  rintro b cs e hv ((c|c)|c|c)
  ·exact ae.ne_ e A.mem.J (by decide) c
  ·exact hv c
  ·exact ae.ne_ e A.J (by decide) c
  ·exact ae.ne_ e a1 (by decide) c
 refine⟨b6,.inl t.fm,λk o=>?_,s.dq.mem,by rw[yI];exact t.dlen,by rw[yI];exact t.plen,λl z B=>?_,λl k z b B e=>?_,t.dne,t.pne⟩
 ·rcases s.row k o with c|c
  ·exact .inl (t.fv k c)
  ·exact .inr ⟨c,b7 k o⟩
 ·rcases kE B with⟨rfl,rfl⟩|⟨T,B⟩
  ·refine⟨d,pl,K,L,.inl av,by rw[S];exact bp,?_,by rw[Q,yI];exact bq⟩
   rw[S,az];exact s.dq.J
  ·obtain⟨q,P,W,X,Y,Z,a0,a4⟩:=t.dq l z B
   refine⟨q,P,W,X,.inl Y,Z,?_,a4⟩;have G:q≠d:=t.dne l j q d T W K;have e:=s.only.J a0 (bk q _ a0 G);have o:=b4 l z T B
   have c:my m z.d.toNat C (jz P z.on)=my m z.d.toNat r.C (jz P z.on):=by
    unfold my;rw[Yc Z,o.1,o.2]
   rw[<-c];exact e
 ·have ab:∀(l k:Nat) (z:aT) (b:aC),(l≠j\/k≠i)->ds[l]?=some z->z.acts[k]?=some b->∃d pl p,dp[l]?=some d/\ps[l]?=some pl/\pl[k]?=some p/\(F p\/w.heap.size<=p/\p<w'.heap.size)/\lC w' p d v' b/\sN w' (λb=>F b\/w.heap.size<=b/\b<w'.heap.size) p:=by
   intro l k z b b5 B e;obtain⟨q,P,u,W,X,Y,Z,a0,a4⟩:=t.act l k z b B e;have G:u≠p:=t.pne l k j i P pl u p X Y L a2 b5;obtain⟨⟨dv,N,a3⟩,b9,ba,bb⟩:=a0;have ad:=s.only.J N (bm u _ N G);refine⟨q,P,u,W,X,Y,.inl Z,⟨⟨dv,ad,a3.kp s.only (λD cs b1=>bf D cs b1) (λE cs b2 hv=>bn E cs b2 hv) s.row⟩,b9,ba,bb⟩,λf D E c=>?_⟩;have:=a4 f D E (by rw[N.I,<-ad.I];exact c);exact⟨.inl this.1,.inl this.2⟩
  rcases kE B with⟨rfl,rfl⟩|⟨T,B⟩
  ·rw[Q] at e
   rcases kE e with⟨rfl,rfl⟩|⟨o,e⟩
   ·refine⟨d,pl,p,K,L,a2,.inl a9,s.act,λf D E c=>?_⟩
    obtain⟨dv,N,a3⟩:=s.new;have ai:=N.I 0;rw[c] at ai
    have al:dv=.func f #[] #[.pointer (some ⟨D,0,none⟩),.pointer (some ⟨E,0,none⟩)]:=by
     have:some dv=some (Value.func f #[] #[.pointer (some ⟨D,0,none⟩),.pointer (some ⟨E,0,none⟩)]):=by rw[ai];rfl
     exact yz this
    have am:=a3 f D E al;obtain⟨⟨dv',b8,H⟩,_⟩:=s.act
    have b3:dv'=dv:=by
     have S:=b8.I 0;have Q:=N.I 0;rw[S] at Q;exact yz Q
    rw[b3,al] at H
    have V:D<w'.heap.size/\E<w'.heap.size:=by
     unfold jE at H;split at H
     ·split at H
      ·obtain⟨bv,bx,a5,br,bt,_⟩:=H
       simp at a5;obtain⟨_,rfl,rfl⟩:=a5;exact⟨br.lt,bt.lt⟩
      ·simp[de] at H
     ·cases H
    exact⟨.inr ⟨am.1,V.1⟩,.inr ⟨am.2,V.2⟩⟩
   ·exact ab l k x b (.inr o) R e
  ·exact ab l k z b (.inl T) B e
theorem vI(e:DW w F m n v C ds dp ps)(D:fC C ds)(c:ds[j]?=some x)(f:x.acts[i]?=some a)(q:a.td=0){pl:List Nat}{p:Nat}(r:ps[j]?=some pl)(E:pl[i]?=some p)(W:x.P<=10000)(V:x.N<=20000)(Q:C.length<=45000)(a2:n+3<=4611686018427387904):
 Calls Tryz.prog 83 #[.pointer (some ⟨p,0,none⟩)] w λt w'=>t=.returned (.tuple #[.int .u8 ((pstep x.d C a).what:Int),.int .i64 (pstep x.d C a).val,.int .i64 0])/\aa F w w'/\
  ∃v',∀y:aT,y.d=x.d->y.acts=x.acts.set i (pstep x.d C a).a->y.on=x.on->DW w' (λb=>F b\/w.heap.size<=b/\b<w'.heap.size) m (n+cnt a) v' (pstep x.d C a).C (ds.set j y) dp ps:=by
 obtain⟨d,a4,a9,u,z,A,a7,B,a8⟩:=e.act j i x a c f;rw[r] at z;cases z;rw[E] at A;cases A;have R:=e.one c u r;obtain⟨a6,a4,ab,ad,ai,a5,al,am⟩:=e.dq j x c;have K:((x.d.toNat:Nat):Int)=x.d:=Yc a5;have S:=D.each j x c;have T:fX (x.Z C) ((x.d.toNat:Nat):Int) C x.acts x.on x.L x.P x.N x.ws:=by rw[K];exact S
 obtain⟨X,Y⟩:=AH T W V Q f q B.k2;have H:=xF 0 m d x.d.toNat p n v _ C a w R B a2 X q Y;rw[K] at H;refine H.mono ?_;rintro t w' ⟨rfl,v',s⟩
 have a0:∀(l:Nat) (y:aT),l≠j->ds[l]?=some y->ld (pstep x.d C a).C y.d=ld C y.d/\ld (pstep x.d C a).C (y.d+1)=ld C (y.d+1):=by
  intro l y a1 a3;have:=AI D c a3 a1 f q;exact⟨this _ (.inl ⟨by omega,by omega⟩),this _ (.inl ⟨by omega,by omega⟩)⟩
 have G:=λ(y:aT) g k o=>e.stepped c f u r E s a0 y g k o
 exact⟨rfl,(G ⟨x.d,x.ws,x.acts.set i (pstep x.d C a).a,x.on,x.L,x.own,x.P,x.c0⟩ rfl rfl rfl).1,v',λy g k o=>(G y g k o).2⟩
end
section
variable {w w':World}{F F':Nat->Prop}{m j i d p:Nat}{n n':Int}{v v':Value}{C C':List Int}{ds:List aT}{dp:List Nat}{ps:List (List Nat)}{x:aT}{a:aC}{pl:List Nat}
theorem uM{ps:List Nat}{on:Option Nat}{q:Nat}(b:∀i,on=some i->i<ps.length):jz (ps++ [q]) on=jz ps on:=by
 cases on with
 |none=>rfl
 |some i=>
  have:=b i rfl;simp only[jz,yc,yi this]
theorem EG{acts:List aC}{on:Option Nat}(b:∀i,on=some i->∃a,acts[i]?=some a/\a.kn≠2):∀i,on=some i->i<acts.length:=by
 intro i e;obtain⟨a,c,_⟩:=b i e;exact(gS c).1
theorem DW.free(q:DW w F m n v C ds dp ps)(t:fC C ds)(k:ds[j]?=some x)(u:dp[j]?=some d)(y:ps[j]?=some pl)(e:own x.acts x.on=none):jz pl x.on=.pointer none\/∃p c,jz pl x.on=.pointer (some ⟨p,0,none⟩)/\ae w p 194 (AC.arr c d)/\c.dv=.nilFunc:=by
 cases hon:x.on with
 |none=>exact .inl rfl
 |some i=>
  obtain⟨b,g,_⟩:=(t.each j x k).onk i hon;obtain⟨D,E,p,l,o,A,G,B,H⟩:=q.act j i x b k g;rw[u] at l;cases l;rw[y] at o;cases o
  have s:b.td≠0:=λr=>by
   rw[hon] at e;simp only[own,g,r,yR] at e
   cases e
  obtain⟨⟨dv,z,f⟩,_⟩:=B;unfold jE at f;rw[yb s] at f;subst f;exact .inr ⟨p,aO b .nilFunc,by simp[jz,yc,A],z,rfl⟩
theorem DW.begun(c:DW w F m n v C ds dp ps)(a3:ds[j]?=some x)(V:dp[j]?=some d)(W:ps[j]?=some pl)(g:sH 0 m d x.d.toNat w.heap.size n v v' C a w w')(b2:a.td=0)(b3:¬(a.kn=0/\a.at_=12))
 (y:aT) (S:y.d=x.d) (T:y.acts=x.acts++ [a]) (b0:v'=jz (pl++ [w.heap.size]) y.on):
 aa F w w'/\DW w' (λb=>F b\/w.heap.size<=b/\b<w'.heap.size) m n v C (ds.set j y) dp (ps.set j (pl++ [w.heap.size])):=by
 obtain⟨am,a4,Y⟩:=g;have b8:j<ds.length:=(gS a3).1;have a1:j<ps.length:=by rw[c.plen];exact b8
 obtain⟨br,a6,an,ar,av,bm,bn,aw⟩:=c.dq j x a3;rw[V] at an;cases an;rw[W] at ar;cases ar;have bb:aa F w w':=Y.mono λk a2=>by rw[a2];exact av
 obtain⟨bq,b5⟩:=a4.J;have ba:=b5.lt
 have a5:∀(b:Nat) t cs,ae w b t cs->t≠218->b≠d:=λb t cs g bf e=>by
  subst e;exact ae.ne_ g bn bf rfl
 refine⟨bb,.inl c.fm,λk a2=>.inl (c.fv k a2),am.mem,by rw[yI];exact c.dlen,by rw[yI,yI];exact c.plen,λl z r=>?_,λl k z b r g=>?_,c.dne,λbx bt bz bv R c1 N c0 o q Z a0 b9=>?_⟩
 ·rcases kE r with⟨rfl,rfl⟩|⟨Q,r⟩
  ·refine⟨d,pl++ [w.heap.size],V,by simp[a1],.inl av,by rw[S];exact bm,?_,by rw[T];simp[aw]⟩
   rw[S,<-b0];exact am.J
  ·obtain⟨s,P,u,A,B,D,E,G⟩:=c.dq l z r
   exact⟨s,P,u,by rw[zg,yb (λe=>Q e.symm)];exact A,.inl B,D,Y.J E (c.dne l j s d Q u V),G⟩
 ·have cD:∀(l k:Nat) (z:aT) (b:aC),ds[l]?=some z->z.acts[k]?=some b->∃d pl p,dp[l]?=some d/\ps[l]?=some pl/\pl[k]?=some p/\(F p\/w.heap.size<=p/\p<w'.heap.size)/\lC w' p d v b/\sN w' (λb=>F b\/w.heap.size<=b/\b<w'.heap.size) p:=by
   intro l k z b r g;obtain⟨s,P,L,u,A,B,D,E,G⟩:=c.act l k z b r g;obtain⟨⟨dv,o,q⟩,Z,a0,b1⟩:=E;have ad:=Y.J o (a5 L _ _ o (by decide));refine⟨s,P,L,u,A,B,.inl D,⟨⟨dv,ad,q.kp Y (λH cs b4=>a5 H _ cs b4 (by decide)) (λK cs b6 _=>a5 K _ cs b6 (by decide)) (λ_ e=>.inl e)⟩,Z,a0,b1⟩,λf H K e=>?_⟩;have:=G f H K (by rw[o.I,<-ad.I];exact e);exact⟨.inl this.1,.inl this.2⟩
  rcases kE r with⟨rfl,rfl⟩|⟨Q,r⟩
  ·rw[T] at g
   rcases gH g with g|⟨rfl,rfl⟩
   ·obtain⟨s,P,L,u,A,B,D,E,G⟩:=cD l k x b a3 g
    rw[W] at A;cases A;exact⟨s,pl++ [w.heap.size],L,u,by simp[a1],by rw[yi (gS B).1];exact B,D,E,G⟩
   ·refine⟨d,pl++ [w.heap.size],w.heap.size,V,by simp[a1],by rw[<-aw];simp,.inr ⟨lR,ba⟩,a4,λf H K e=>?_⟩
    obtain⟨⟨dv,bk,X⟩,_⟩:=a4;have ai:=bk.I 0;rw[e] at ai
    have b7:dv=.func f #[] #[.pointer (some ⟨H,0,none⟩),.pointer (some ⟨K,0,none⟩)]:=by
     have:some dv=some (Value.func f #[] #[.pointer (some ⟨H,0,none⟩),.pointer (some ⟨K,0,none⟩)]):=by rw[ai];rfl
     exact yz this
    rw[b7] at X;unfold jE at X;rw[yf b2,yb b3] at X;simp[de] at X
  ·obtain⟨s,P,L,u,A,B,D,E,G⟩:=cD l k z b r g
   exact⟨s,P,L,u,by rw[zg,yb (λe=>Q e.symm)];exact A,B,D,E,G⟩
 ·
  have al:∀(l k:Nat) (R:List Nat) (N:Nat),(ps.set j (pl++ [w.heap.size]))[l]?=some R->R[k]?=some N->(∃a6,ps[l]?=some a6/\a6[k]?=some N/\N<w.heap.size)\/(l=j/\k=pl.length/\N=w.heap.size):=by
   intro l k R N o q
   rcases kE o with⟨rfl,rfl⟩|⟨Q,o⟩
   ·rcases gH q with q|⟨S,T⟩
    ·exact .inl ⟨pl,W,q,c.lt_p W q⟩
    ·exact .inr ⟨rfl,S,T⟩
   ·exact .inl ⟨R,o,q,c.lt_p o q⟩
  rcases al _ _ _ _ o q with⟨az,a7,a8,bo⟩|⟨az,a7,a8⟩<;>rcases al _ _ _ _ Z a0 with⟨aE,a9,ab,bp⟩|⟨aE,a9,ab⟩
  ·exact c.pne _ _ _ _ _ _ _ _ a7 a8 a9 ab b9
  ·omega
  ·omega
  ·omega
theorem qG(c:DW w F m n v C ds dp ps)(B:fC C ds)(f:ds[j]?=some x)(q:dp[j]?=some d)(e:ps[j]?=some pl)(E:own x.acts x.on=none)(u:Int):
 Calls Tryz.prog 142 #[.pointer (some ⟨d,0,none⟩),.int .i64 u] w λr w'=>r=.returned (.tuple #[.pointer (some ⟨w.heap.size,0,none⟩),.int .i64 0])/\aa F w w'/\w.heap.size<w'.heap.size/\
  ∀y:aT,y.d=x.d->y.acts=x.acts++ [cQ 0 u]->y.on=some x.acts.length->DW w' (λb=>F b\/w.heap.size<=b/\b<w'.heap.size) m n v C (ds.set j y) dp (ps.set j (pl++ [w.heap.size])):=by
 have A:=c.one f q e;obtain⟨H,K,N,t,Q,R,S,G⟩:=c.dq j x f;rw[e] at t;cases t;refine(Bj 0 m d x.d.toNat n v _ C u w A (c.free B f q e E)).mono ?_;rintro r w' ⟨rfl,k⟩
 have z:(.pointer (some ⟨w.heap.size,0,none⟩):Value)=jz (pl++ [w.heap.size]) (some x.acts.length):=by
  rw[<-G];simp[jz,yc]
 have s:=λ(y:aT) (g:y.d=x.d) (l:y.acts=x.acts++ [cQ 0 u]) (o:y.on=some x.acts.length)=>c.begun f q e k rfl (by simp[cQ]) y g l (by rw[o];exact z)
 obtain⟨cs,D⟩:=k.2.1.J;exact⟨rfl,(s ⟨x.d,x.ws,x.acts++ [cQ 0 u],some x.acts.length,x.L,x.own,x.P,x.c0⟩ rfl rfl rfl).1,D.lt,λy g l o=>(s y g l o).2⟩
theorem xQ(c:DW w F m n v C ds dp ps)(A:fC C ds)(f:ds[j]?=some x)(q:dp[j]?=some d)(e:ps[j]?=some pl)(D:own x.acts x.on=none):
 Calls Tryz.prog 47 #[.pointer (some ⟨d,0,none⟩)] w λr w'=>r=.returned (.tuple #[.pointer (some ⟨w.heap.size,0,none⟩),.int .i64 0])/\aa F w w'/\w.heap.size<w'.heap.size/\
  ∀y:aT,y.d=x.d->y.acts=x.acts++ [cQ 1 0]->y.on=some x.acts.length->DW w' (λb=>F b\/w.heap.size<=b/\b<w'.heap.size) m n v C (ds.set j y) dp (ps.set j (pl++ [w.heap.size])):=by
 have z:=c.one f q e;obtain⟨G,H,K,t,N,Q,R,E⟩:=c.dq j x f;rw[e] at t;cases t;refine(CR 0 m d x.d.toNat n v _ C w z (c.free A f q e D)).mono ?_;rintro r w' ⟨rfl,k⟩
 have u:(.pointer (some ⟨w.heap.size,0,none⟩):Value)=jz (pl++ [w.heap.size]) (some x.acts.length):=by
  rw[<-E];simp[jz,yc]
 have s:=λ(y:aT) (g:y.d=x.d) (l:y.acts=x.acts++ [cQ 1 0]) (o:y.on=some x.acts.length)=>c.begun f q e k rfl (by simp[cQ]) y g l (by rw[o];exact u)
 obtain⟨cs,B⟩:=k.2.1.J;exact⟨rfl,(s ⟨x.d,x.ws,x.acts++ [cQ 1 0],some x.acts.length,x.L,x.own,x.P,x.c0⟩ rfl rfl rfl).1,B.lt,λy g l o=>(s y g l o).2⟩
theorem uG(l:DW w F m n v C ds dp ps)(A:fC C ds)(c:ds[j]?=some x)(r:dp[j]?=some d)(o:ps[j]?=some pl):
 Calls Tryz.prog 85 #[.pointer (some ⟨d,0,none⟩)] w λq w'=>q=.returned (.tuple #[.pointer (some ⟨w.heap.size,0,none⟩),.int .i64 0])/\aa F w w'/\w.heap.size<w'.heap.size/\
  ∀y:aT,y.d=x.d->y.acts=x.acts++ [cQ 2 0]->y.on=x.on->DW w' (λb=>F b\/w.heap.size<=b/\b<w'.heap.size) m n v C (ds.set j y) dp (ps.set j (pl++ [w.heap.size])):=by
 have z:=l.one c r o;obtain⟨E,G,H,t,K,N,Q,D⟩:=l.dq j x c;rw[o] at t;cases t;refine(xd 0 m d x.d.toNat n v _ C w z).mono ?_;rintro q w' ⟨rfl,k⟩;have u:jz pl x.on=jz (pl++ [w.heap.size]) x.on:=(uM (by rw[D];exact EG (A.each j x c).onk)).symm;have s:=λ(y:aT) (e:y.d=x.d) (f:y.acts=x.acts++ [cQ 2 0]) (g:y.on=x.on)=>l.begun c r o k rfl (by simp[cQ]) y e f (by rw[g];exact u)
 obtain⟨cs,B⟩:=k.2.1.J;exact⟨rfl,(s ⟨x.d,x.ws,x.acts++ [cQ 2 0],x.on,x.L,x.own,x.P,x.c0⟩ rfl rfl rfl).1,B.lt,λy e f g=>(s y e f g).2⟩
end
open Go.WideShapes Go.ChangeShapes Go.ChangeAt
theorem uA(n:Nat):(Builtin.zeroCells #[Value.int .i64 0] n).toList=List.replicate n (.int .i64 0):=by
 apply zt;intro j;simp only[Builtin.zeroCells,Array.toList_map,Array.toList_range,yJ,List.getElem?_replicate]
 by_cases b:j<n
 ·simp[b,Nat.mod_one]
 ·simp[b]
theorem xM(B m:Nat)(n:Int)(v:Value)(C:List Int)(ad:C.length<=10000)(lg:Nat)(a8:lg<=8)(w:World)(q:cx w B m n v C):
 Calls Tryz.prog 57 #[.pointer (some ⟨m,0,none⟩),.int .i64 (lg:Int)] w λe w'=>∃d v',e=.returned (.tuple #[.pointer (some ⟨d,0,none⟩),.int .i64 0])/\cx w' B m n v' (C++bS C.length (2 ^ lg))/\ae w' d 218 (my m C.length (C++bS C.length (2 ^ lg)) (.pointer none))/\w.heap.size<=d/\(∀k,v'.ownBlock=some k->v.ownBlock=some k\/w.heap.size<=k)/\aa (bL m v) w w':=by
 obtain⟨b8,az,b5,b6,b7⟩:=info_parts (show(Tryz.prog.info? 2).map (λi=>(i.zero,i.size,i.bytes))=some (some (.int .i64 0),1,8) by kernel_rfl);obtain⟨b,r⟩:=eX (2 ^ lg:Nat);have ai:1<=b:=by rw[r];exact Nat.one_le_two_pow
 have al:b<=256:=by rw[r];exact lT (Nat.pow_le_pow_right (by decide) a8) (by decide)
 rw[<-r]
 have b1:wrap64 ((2:Int) ^ lg)=(b:Int):=by
  have e:((2:Int) ^ lg)=(b:Int):=by rw[r];push_cast;rfl
  rw[e];exact IntWalk.wrap64_in (b:Int) (by omega)
 have an:¬(281474976710656<Builtin.nextslicecap (4+b) 4*8):=by
  unfold Builtin.nextslicecap;split<;>(try split)<;>omega
 have ar:Tryz.t2.bytes=8:=rfl;have am:¬(281474976710656<(b:Int)*8):=by omega
 have D:=hD q;have aE:¬(lg:Int)<0:=by omega
 have b0:¬(8:Int)<(lg:Int):=by omega
 obtain⟨c,f⟩:=eX ((C.length:Int):Int);have av:0<=c:=by omega
 have aw:c<=10000:=by omega
 have K:=hD (D8 B m n v C w q);rw[<-f] at K;have b4:wrap64 (c+3)=c+3:=IntWalk.wrap64_in (c+3) (by omega);have A:=hD f;clear f;clear q r;go_enter Tryz.func57,Tryz.ntmps57;go_wp2_with fail;refine K.O.mono ?_;rintro e b9 ⟨rfl,rfl⟩;go_wp2_with fail;obtain⟨s,X⟩:=eX ((Question.appendCap (4+b) 4 2).cut (w.tape w.drawn (Question.appendCap (4+b) 4 2)));rw[<-X];obtain⟨g,E⟩:=eX (w.heap.size+1);rw[<-E];obtain⟨l,t⟩:=eX (((w.alloc (.cells #[.int .i64 0,.int .i64 0,.int .i64 (c+3),.int .i64 (b:Int)] 2)).alloc (.cells (#[.int .i64 0,.int .i64 0,.int .i64 (c+3),.int .i64 (b:Int)] ++(Builtin.zeroCells #[.int .i64 0] b++Builtin.zeroCells #[.int .i64 0] (s-(4+b)))) 2)).drew);rw[<-t];have y:aa (λ_=>False) w l:=by rw[t];exact(((aa.refl _ w).alloc _).alloc _).drew
 have W:ae l g 2 (#[.int .i64 0,.int .i64 0,.int .i64 (c+3),.int .i64 (b:Int)] ++(Builtin.zeroCells #[.int .i64 0] b++Builtin.zeroCells #[.int .i64 0] (s-(4+b)))):=by
  rw[t,E];have:=ae.new (w.alloc (.cells #[.int .i64 0,.int .i64 0,.int .i64 (c+3),.int .i64 (b:Int)] 2)) 2 (#[.int .i64 0,.int .i64 0,.int .i64 (c+3),.int .i64 (b:Int)] ++(Builtin.zeroCells #[.int .i64 0] b++Builtin.zeroCells #[.int .i64 0] (s-(4+b))));have ab:(w.alloc (.cells #[.int .i64 0,.int .i64 0,.int .i64 (c+3),.int .i64 (b:Int)] 2)).heap.size=w.heap.size+1:=by simp
  rw[ab] at this;exact this
 have f:=A.O;have o:(bS C.length b).length=4+b:=mn _ _
 have Y:cO l (g+1) 1 (some ⟨g,0,none⟩) (bS C.length b).length ((bS C.length b).map (.int .i64)):=
  ⟨by simp,λ_=>⟨_,rfl,by simp,λj u H=>by
   rw[show(⟨g,0,none⟩ :Addr).add j=⟨g,j,none⟩ by simp[Addr.add];exact λq=>q.symm];rw[W.I,<-zj];simp only[Array.toList_append,uA];have a9:(bS C.length b).map (Value.int .i64)= [.int .i64 0,.int .i64 0,.int .i64 (c+3),.int .i64 (b:Int)] ++List.replicate b (.int .i64 0):=by rw[f];simp[bS]
   rw[a9] at H;rw[<-yY,yi (gS H).1];exact H⟩⟩
 have Q:B<=w.heap.size:=by have:=D.O.base;have:=D.O.J.lt;omega
 have G:=tQ B m n v C (bS C.length b) (g+1) (some ⟨g,0,none⟩) s l (D.O.only y nF nG) Y (by omega) (by rw[o];unfold maxLen;omega) (lT Q y.size);have R:oX C (bS C.length b)=C.length:=by unfold oX;rw[o];rw[yb (by omega)]
 have S:oY C (bS C.length b)=0:=by unfold oY;rw[o];rw[yb (by omega)]
 have V:oZ C (bS C.length b)=C++bS C.length b:=by unfold oZ;rw[o];rw[yb (by omega)]
 rw[o,R,S,V,<-f] at G;have a2:=hD G;have L:=hD y;clear G Y W y o R S V Q X E t f;refine a2.O.mono ?_;rintro e z ⟨rfl,⟨v',Z,a0⟩,a1⟩;have a3:=hD Z;have a4:=hD a0;have P:=hD a1;clear Z a0 a1;go_wp2_with fail
 go_ret2
 have a5:ld (C++bS C.length b) (C.length:Int)=0:=by
  have:=oV C (bS C.length b) 0 (by simp[bS])
  simpa[bS] using this
 have a6:ld (C++bS C.length b) ((C.length:Int)+1)=0:=by
  have:=oV C (bS C.length b) 1 (by simp[bS])
  simpa[bS] using this
 have b3:w.heap.size<=l.heap.size:=L.O.size;have b2:l.heap.size<=z.heap.size:=P.O.size;have N:=a3.O;rw[A.O] at N;refine⟨z.heap.size,v',rfl,N.only ((aa.refl (λ_=>False) z).alloc _) nF nG,?_,by omega,λk a7=>?_,?_⟩
 ·unfold my
  rw[a5,a6,<-A.O];exact ae.new z _ _
 ·rcases a4.O k a7 with e|e
  ·exact .inl e
  ·exact .inr (by omega)
 ·exact((L.O.mono (T:=bL m v) λ_ e=>e.elim).trans P.O).alloc _
theorem xP{w:World}{F:Nat->Prop}{m:Nat}{n:Int}{v:Value}{C:List Int}{ds:List aT}{dp:List Nat}{ps:List (List Nat)}(e:DW w F m n v C ds dp ps)(a9:fC C ds)(a8:C.length<=10000)(lg:Nat)(al:lg<=8):
 Calls Tryz.prog 57 #[.pointer (some ⟨m,0,none⟩),.int .i64 (lg:Int)] w λc w'=>∃d v',c=.returned (.tuple #[.pointer (some ⟨d,0,none⟩),.int .i64 0])/\aa F w w'/\
  DW w' (λb=>F b\/w.heap.size<=b/\b<w'.heap.size) m n v' (C++bS C.length (2 ^ lg)) (ds++ [⟨C.length,[((C.length:Int)+3,((2 ^ lg:Nat):Int))],[],none,[],4+((2 ^ lg:Nat):Int),0,((2 ^ lg:Nat):Int)⟩]) (dp++ [d]) (ps++ [[]]):=by
 refine(xM 0 m n v C a8 lg al w e.mem).mono ?_;rintro c w' ⟨d,v',rfl,Z,a0,b3,a1,D⟩
 have an:aa F w w':=D.mono λk l=>by
  rcases l with l|l
  ·rw[l];exact e.fm
  ·exact e.fv k l
 have ar:∀k,v'.ownBlock=some k->k<w'.heap.size:=λk l=>by
  rcases dj Z.own with⟨c,_⟩|⟨g,b7,c,_,_,_,am⟩
  ·rw[c] at l;cases l
  ·rw[c] at l;cases l;exact am
 have S:∀(b:Nat) t cs,ae w b t cs->t≠214->t≠2->¬bL m v b:=by
  rintro b t cs o a6 a7 (c|c)
  ·exact ae.ne_ o e.mem.J a6 c
  ·exact aB e.mem.own o (λB=>a7 B.symm) c
 have b4:∀(b:Nat) cs,ae w b 2 cs->v.ownBlock≠some b->¬bL m v b:=by
  rintro b cs o hv (c|c)
  ·exact ae.ne_ o e.mem.J (by decide) c
  ·exact hv c
 have ai:=a0.lt;refine⟨d,v',rfl,an,.inl e.fm,λk l=>?_,Z,by simp[e.dlen],by simp[e.plen],λj x u=>?_,λj i x a u X=>?_,λi j a2 a3 Q r s=>?_,λj i az aw pl b6 p b5 r s N P Q=>?_⟩
 ·rcases a1 k l with c|c
  ·exact .inl (e.fv k c)
  ·exact .inr ⟨c,ar k l⟩
 ·rcases gH u with u|⟨rfl,rfl⟩
  ·obtain⟨A,pl,y,z,T,E,G,V⟩:=e.dq j x u
   refine⟨A,pl,by rw[yi (gS y).1];exact y,by rw[yi (gS z).1];exact z,.inl T,E,?_,V⟩;have o:=D.J G (S A _ _ G (by decide) (by decide));have Y:=λq av=>(a9.each j x u).foot_in q av
   have a4:ld (C++bS C.length (2 ^ lg)) x.d=ld C x.d:=lW (Y _ (.inl ⟨by omega,by omega⟩));have L:ld (C++bS C.length (2 ^ lg)) (x.d+1)=ld C (x.d+1):=lW (Y _ (.inl ⟨by omega,by omega⟩))
   have c:my m x.d.toNat C (jz pl x.on)=my m x.d.toNat (C++bS C.length (2 ^ lg)) (jz pl x.on):=by
    unfold my;rw[Yc E,a4,L]
   rw[<-c];exact o
  ·refine⟨d,[],by simp[<-e.dlen],by simp[<-e.plen],.inr ⟨b3,ai⟩,by simp only;omega,?_,rfl⟩
   simp only[yo];exact a0
 ·rcases gH u with u|⟨rfl,rfl⟩
  ·obtain⟨A,pl,p,y,z,T,E,G,V⟩:=e.act j i x a u X
   obtain⟨⟨dv,R,aE⟩,b0,b1,b2⟩:=G;have o:=D.J R (S p _ _ R (by decide) (by decide));refine⟨A,pl,p,by rw[yi (gS y).1];exact y,by rw[yi (gS z).1];exact z,T,.inl E,⟨⟨dv,o,aE.kp D (λH cs ab=>S H _ cs ab (by decide) (by decide)) (λK cs ad hv=>b4 K cs ad hv) a1⟩,b0,b1,b2⟩,λf H K c=>?_⟩;have:=V f H K (by rw[R.I,<-o.I];exact c);exact⟨.inl this.1,.inl this.2⟩
  ·simp at X
 ·rcases gH r with r|⟨L,B⟩<;>rcases gH s with s|⟨a5,W⟩
  ·exact e.dne i j a2 a3 Q r s
  ·have:=e.lt_d r;omega
  ·have:=e.lt_d s;omega
  ·omega
 ·rcases gH r with r|⟨L,B⟩
  ·rcases gH N with N|⟨a5,W⟩
   ·exact e.pne j i az aw pl b6 p b5 r s N P Q
   ·rw[W] at P;simp at P
  ·rw[B] at s;simp at s
end
end Go.Proofs.YtmdocplknceilaaGreat
