import Derived.Test.YtmdocplknceilaaGreatNWBU
set_option linter.all false
set_option maxRecDepth 100000
set_option maxHeartbeats 8000000
namespace Go.Proofs.YtmdocplknceilaaGreat
section
open Go.RowKit Go.Maps
section
variable {G:dx}{w w':World}{tag tag':Nat->Nat}{L L':cP}{s s':PS}{n:Nm}{r:aG}
theorem cA.room{t:TS}(c:cA G t)(jl:List Int)(i:∀j,G j≠none->j∈jl){a:Nm}{p:List ah}{x u:aj}(k:t.rw a=none)(f:G a.job=some (p,x))(l:bK p x a.M=some u):t.ks.length+1<=(jl.flatMap (jb G)).length:=by
 have q:a ∉ t.ks:=λb=>(c.ks a).1 b k
 have key:∀(n:Nm) (p:List ah) (x u:aj),G n.job=some (p,x)->bK p x n.M=some u->n∈jl.flatMap (jb G):=λn p x u d e=>by
  refine List.mem_flatMap.2 ⟨n.job,i _ (by rw[d];simp),?_⟩;unfold jb;rw[d];refine yL.2 ⟨⟨u,bH p u,(aS p u).length⟩,(kT _ _ (lR) _).2 ⟨_,_,e,rfl⟩,?_⟩;have:=iN _ _ _ e;rw[c.roots _ _ _ d] at this;simp only;rw[this];rfl
 refine gY (a :: t.ks) _ (List.nodup_cons.2 ⟨q,c.nodup⟩) λn m=>?_
 rcases yG.1 m with b|b
 ·subst b
  exact key _ _ _ _ f l
 ·cases hr:t.rw n with
  |none=>exact absurd hr ((c.ks n).1 b)
  |some r=>
   obtain⟨v,y,g,o,_⟩:=(c.row n r hr).node;exact key _ _ _ _ g o
theorem Bf(e:gL G){k tp:Nat}{th:Th}{p:List ah}{f:Fr}(b:gP G w tag L s k tp th r p f)(c:kP L s)(i:∀a,s.known a=none)(g:∀a,s.away a=false)(j:L.most<=1000000)
 (l:∀a p x u,s.T.rw a=none->G a.job=some (p,x)->bK p x a.M=some u->(s.T.ks.length:Int)<L.most):
 Calls Tryz.prog 46 #[ptr L.pb,ptr tp] w λd w'=>d=.returned (.tuple #[])/\cV w w' tag L s (eW s k) 4:=by
 cases hst:(f.run1 p).2 with
 |more=>exact wG b hst
 |fork t=>exact wE b hst c i g j l
 |join=>exact wF e b hst
 |done y=>exact wD b hst c
attribute [local simp] ew fe fD cL dP Region.binds dD dN Is ao Act.put
theorem wH(f:aX w tag L s)(C:aH G s (λ_=>False))(B:gL G)(A:kP L s){k tp:Nat}{th:Th}(u:L.tps[k]?=some tp)(t:s.ths[k]?=some th){a:Nat×Nat}(v:th.act=some a)(o:Nat)(S:o<4294967296):
 Calls Tryz.prog 17 #[ptr L.pb,.int .i64 (k:Int),.int .u32 (o:Int)] w λe w'=>∃b s',e=.returned (.tuple #[.bool b,.int .i64 0])/\dO s k o s'/\cV w w' tag L s s' 4:=by
 obtain⟨j,i⟩:=a;have E:=(f.p1 (by decide)).2;obtain⟨_,m⟩:=f.p5 (by decide);obtain⟨N,a3,l⟩:=bP m;obtain⟨K,x⟩:=eX L.tps.length;rw[<-x] at l;have D:k<K:=by rw[x,(f.p15 (by decide)).1];exact(gS t).1
 obtain⟨p,Q⟩ :∃p,N=some ⟨p,0,none⟩:=by
  rcases dj m with⟨_,e⟩|⟨g,c,e,_⟩
  ·omega
  ·rw[l] at e
   exact⟨g,by injection e⟩
 subst Q
 have a4:w.cell? ⟨p,k,none⟩=some (.pointer (some ⟨tp,0,none⟩)):=by
  rw[l] at m;have:=World.ownsRow.cells m (g:=p) rfl k (ptr tp) (by rw[yJ,u];rfl);rw[bw,yq] at this;exact this
 have P:=E.I 3;simp[bB,l] at P;obtain⟨a5,a6⟩:=ca D;have a7:¬(k:Int)<0:=by omega
 have a8:¬(K:Int)<=(k:Int):=by omega
 have z:=hD (jJ f);obtain⟨V,d,av,fv,X,F,Y,H,Z,a0⟩:=f.thW u t;have y:=hD (AZ f C B A u t v o S);obtain⟨pl,q,_,_,R⟩:=H j i v;subst R;have a1:=F.I 0;simp[dQ,ptr] at a1;unfold ptr at y z;unfold ptr;clear f C B A u t v E m l x D X F Y H Z a0 V;go_enter Tryz.func17,Tryz.ntmps17
 go_wp2_with (first
  |(go_at_call 44;refine z.O.mono ?_;rintro e a2 ⟨rfl,rfl⟩)
  |(go_at_call 45;refine y.O.mono ?_;rintro e a2 ⟨b,s',rfl,T,W⟩)
  |fail)
 go_ret2
 exact⟨b,s',rfl,T,W⟩
theorem wI(e:aX w tag L s)(F:aH G s (λ_=>False))(z:gL G)(E:kP L s){k tp:Nat}{th:Th}(y:L.tps[k]?=some tp)(l:s.ths[k]?=some th)(q:th.act=none)(v:th.run=true)(o:Nat)(am:o<4294967296)(K:∀i,s.known i=none)(H:∀i,s.away i=false)(P:L.most<=1000000)
 (S:∀i p x u,s.T.rw i=none->G i.job=some (p,x)->bK p x i.M=some u->(s.T.ks.length:Int)<L.most):
 Calls Tryz.prog 17 #[ptr L.pb,.int .i64 (k:Int),.int .u32 (o:Int)] w λa w'=>∃b s',a=.returned (.tuple #[.bool b,.int .i64 0])/\dO s k o s'/\cV w w' tag L s s' 4:=by
 obtain⟨r,p,f,R⟩:=gP.mk' e F z y l q v;have Q:=(e.p1 (by decide)).2;obtain⟨_,m⟩:=e.p5 (by decide);obtain⟨Y,ai,j⟩:=bP m;obtain⟨X,A⟩:=eX L.tps.length;rw[<-A] at j;have N:k<X:=by rw[A,(e.p15 (by decide)).1];exact(gS l).1
 obtain⟨t,a1⟩ :∃t,Y=some ⟨t,0,none⟩:=by
  rcases dj m with⟨_,a⟩|⟨g,c,a,_⟩
  ·omega
  ·rw[j] at a
   exact⟨g,by injection a⟩
 subst a1
 have al:w.cell? ⟨t,k,none⟩=some (.pointer (some ⟨tp,0,none⟩)):=by
  rw[j] at m;have:=World.ownsRow.cells m (g:=t) rfl k (ptr tp) (by rw[yJ,y];rfl);rw[bw,yq] at this;exact this
 have a0:=Q.I 3;simp[bB,j] at a0;obtain⟨an,ar⟩:=ca N;have aw:¬(k:Int)<0:=by omega
 have az:¬(X:Int)<=(k:Int):=by omega
 have C:=hD (jJ e);obtain⟨a4,d,av,fv,a6,B,V,a7,W,a8⟩:=e.thW y l;have D:=hD (Bf z R E K H P S);have a2:=V q;have a3:=W v;subst a2;subst a3;have a9:=B.I 0;have ab:=B.I 5;simp[dQ,ptr] at a9 ab
 have Z:Hd (dO s k o (eW s k)):=hD (by
  unfold dO;rw[PS.th_eq l,q];simp[v])
 unfold ptr at D C;unfold ptr;clear e F z E y l q Q m j A N a6 B V a7 W a8 a4 R K H P S v;go_enter Tryz.func17,Tryz.ntmps17
 go_wp2_with (first
  |(go_at_call 44;refine C.O.mono ?_;rintro a ad ⟨rfl,rfl⟩)
  |(go_at_call 46;refine D.O.mono ?_;rintro a ad ⟨rfl,a5⟩)
  |fail)
 go_ret2
 exact⟨_,_,rfl,Z.O,a5⟩
theorem Bi(f:aX w tag L s)(z:aH G s (λ_=>False)){k tp:Nat}{th:Th}(E:L.tps[k]?=some tp)(j:s.ths[k]?=some th)(m:th.act=none)(D:th.run=false)(y:Nat)(c2:y<4294967296):
 Calls Tryz.prog 17 #[ptr L.pb,.int .i64 (k:Int),.int .u32 (y:Int)] w λe w'=>∃b s',e=.returned (.tuple #[.bool b,.int .i64 0])/\dO s k y s'/\cV w w' tag L s s' 4:=by
 have T:=(f.p1 (by decide)).2;obtain⟨_,q⟩:=f.p5 (by decide);obtain⟨a9,bx,o⟩:=bP q;obtain⟨Z,K⟩:=eX L.tps.length;rw[<-K] at o;have S:k<Z:=by rw[K,(f.p15 (by decide)).1];exact(gS j).1
 obtain⟨A,b2⟩ :∃A,a9=some ⟨A,0,none⟩:=by
  rcases dj q with⟨_,e⟩|⟨g,c,e,_⟩
  ·omega
  ·rw[o] at e
   exact⟨g,by injection e⟩
 subst b2
 have c1:w.cell? ⟨A,k,none⟩=some (.pointer (some ⟨tp,0,none⟩)):=by
  rw[o] at q;have:=World.ownsRow.cells q (g:=A) rfl k (ptr tp) (by rw[yJ,E];rfl);rw[bw,yq] at this;exact this
 have az:=T.I 3;simp[bB,o] at az;obtain⟨c3,c4⟩:=ca S;have c5:¬(k:Int)<0:=by omega
 have c6:¬(Z:Int)<=(k:Int):=by omega
 have Q:=hD (jJ f);obtain⟨V,d,av,fv,N,u,X,ba,bb,Y⟩:=f.thW E j;have b4:=X m;have b7:=Y D;subst b4;subst b7;have a3:=u.I 0;have a4:=u.I 2;have a5:=u.I 5;simp[dQ,ptr] at a3 a4 a5
 have am:Hd (dO s k y (mc s k)):=hD (by
  unfold dO;rw[PS.th_eq j,m];simp[D])
 obtain⟨x,t⟩ :∃x,s.ds[k]?=some x:=⟨s.ds[k]'(by rw[z.nlen];exact(gS j).1),gG _⟩
 have H:=(z.th k th j).free m;rw[PS.dq_eq t] at H;obtain⟨aE,pl,P,F,_,_,_,a2⟩:=(f.p3 (by decide)).dq k x t;have b5:d=aE:=yz (N.symm.trans P);subst b5
 have al:Hd (∀W,ac w W->Calls Tryz.prog 47 #[.pointer (some ⟨d,0,none⟩)] W λe w'=>∃g:Nat,e=.returned (.tuple #[.pointer (some ⟨g,0,none⟩),.int .i64 0])/\aa (λb=>tag b=3) W w'/\aX w' (cS tag W w' 3) {L with ps:=L.ps.set k (pl++ [g])} {s with C:=s.C,ds:=s.ds.set k (nB x)}/\(∀b,tag b≠0->cS tag W w' 3 b=tag b)):=hD λW b3=>by
  have B:=f.U b3;refine(xQ (B.p3 (by decide)) z.many t P F H).mono ?_;rintro e bv ⟨rfl,v,_,b0⟩;exact⟨_,rfl,v,(B.part (i:=3) v).fill3 ((b0 (nB x) rfl rfl rfl).mo (kG B.tlt (by decide))) (iZ.snoc F _),bJ B.tlt⟩
 have ad:=hD f;have ai:=hD u;have R:=hD (aI E (aI j (aI t (aI F (aI a2 (aI N (aI V (aI m D))))))));unfold ptr at Q;unfold ptr;clear f z E j m D T q o K S N u X ba bb Y V t H P F a2;go_enter Tryz.func17,Tryz.ntmps17
 go_wp2_with (first
  |(go_at_call 44;refine Q.O.mono ?_;rintro e c7 ⟨rfl,rfl⟩)
  |(go_at_call 47;refine(al.O w oR).mono ?_;rintro e an ⟨g,rfl,a0,a1,a6⟩;have v:=hD a0;have bk:=hD a1;have bm:=hD a6;clear a0 a1 a6 a3 a4 a5;have l:=v.O.J ai.O (λe=>by rw[R.O.2.2.2.2.2.2.1] at e;exact absurd e (by decide));have ar:=l.I 0;have aw:=l.I 1;have bz:=l.fz 0;have c0:=l.fz 1;have ab:=hD l;simp[dQ] at ar aw;clear l)
  |fail)
 go_ret2
 obtain⟨bn,a7,bo,bp,bq,br,a8,c8,bt⟩:=R.O;have b8:(L.ps.set k (pl++ [g]))[k]?=some (pl++ [g]):=bD (gS bp).1;obtain⟨b1,bf⟩:=bk.O.setAct (kd':=2) (a:=(k,x.acts.length)) (p:=g) (pl:=pl++ [g]) bn a7 br ab.O (λe=>by rw[bt] at e;cases e) (λ_=>rfl) b8 (by show(pl++ [g])[x.acts.length]?=_;rw[<-bq];simp);have b9:cS tag w an 3 tp=15:=by rw[bm.O tp (by rw[a8];decide)];exact a8
 refine⟨_,_,rfl,am.O,_,({L with ps:=L.ps.set k (pl++ [g])}:cP),?_,(aQ.part ad.O.tlt (by decide) v.O).trans (aQ.same (i:=15) (by decide) (bf.mono λb e=>by rw[e];exact b9)),?_⟩
 ·have b6:mc s k= {{s with C:=s.C,ds:=s.ds.set k (nB x)} with ths:=s.ths.set k {th with act:=some (k,x.acts.length),kn:=2}}:=by
   unfold mc;rw[PS.dq_eq bo,PS.th_eq a7]
  rw[b6];exact b1
 ·exact⟨rfl,rfl,rfl,rfl,by show L.n<=L.n+4;omega,by show(L.fn:Int)<=L.fn+4;omega,by simp only[mc];omega,[],by simp[mc],by simp⟩
theorem Bg(e:aX w tag L s)(f:aH G s (λ_=>False))(m:gL G)(l:kP L s){k:Nat}(o:k<s.ths.length)(d:Nat)(g:d<4294967296)(v:∀c,s.known c=none)(t:∀c,s.away c=false)(y:L.most<=1000000)
 (z:∀c p x u,s.T.rw c=none->G c.job=some (p,x)->bK p x c.M=some u->(s.T.ks.length:Int)<L.most):
 Calls Tryz.prog 17 #[ptr L.pb,.int .i64 (k:Int),.int .u32 (d:Int)] w λq w'=>∃b s',q=.returned (.tuple #[.bool b,.int .i64 0])/\dO s k d s'/\cV w w' tag L s s' 4:=by
 obtain⟨th,i⟩ :∃th,s.ths[k]?=some th:=⟨s.ths[k],gG o⟩
 obtain⟨tp,j⟩ :∃tp,L.tps[k]?=some tp:=⟨L.tps[k]'(by rw[(e.p15 (by decide)).1];exact o),gG _⟩
 cases ha:th.act with
 |some a=>exact wH e f m l j i ha d g
 |none=>
  cases hr:th.run with
  |true=>exact wI e f m l j i ha hr d g v t y z
  |false=>exact Bi e f j i ha hr d g
end
end
end Go.Proofs.YtmdocplknceilaaGreat
