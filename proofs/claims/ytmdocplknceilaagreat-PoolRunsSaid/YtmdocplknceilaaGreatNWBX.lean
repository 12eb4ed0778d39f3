import Derived.Test.YtmdocplknceilaaGreatNWBV
import Derived.Test.YtmdocplknceilaaGreatNWBW
set_option linter.all false
set_option maxRecDepth 100000
set_option maxHeartbeats 6000000
namespace Go.Proofs.YtmdocplknceilaaGreat
section
open Go.RowKit Go.Maps
def dV(s s':PS):Prop:=∃x,s'.T.ks=s.T.ks++x
section
variable {s s' s1:PS}
theorem dV.refl(s:PS):dV s s:=⟨[],by simp⟩
theorem dV.of(a:s'.T.ks=s.T.ks):dV s s':=⟨[],by rw[a];simp⟩
theorem dV.trans(a:dV s s1)(k:dV s1 s'):dV s s':=by
 obtain⟨x,a⟩:=a;obtain⟨y,k⟩:=k;exact⟨x++y,by rw[k,a,yY]⟩
theorem qA(s:PS)(k:Nat)(n:Nm):dV s (dX s k n):=by
 unfold dX;split
 ·exact dV.refl s
 ·split
  ·exact dV.of rfl
  ·exact dV.refl s
theorem C3(s:PS)(k:Nat):dV s (eW s k):=by
 unfold eW;split
 ·simp only
  split
  ·exact dV.of rfl
  ·unfold iU
   split
   ·exact⟨_,rfl⟩
   ·split
    ·exact⟨_,rfl⟩
    ·exact⟨_,rfl⟩
  ·split<;>exact dV.of rfl
  ·split<;>exact dV.of rfl
 ·exact dV.refl s
theorem pS{k e:Nat}(b:dO s k e s'):dV s s':=by
 unfold dO at b;split at b
 ·obtain⟨x,a,s1,g,b⟩:=b
  obtain⟨i,ws',f,_⟩:=g.ex;have c:dV s s1:=by rw[f];exact dV.of rfl
  split at b
  ·rw[b];exact c
  ·rw[b]
   refine c.trans ?_;unfold i9;simp only;split
   ·exact dV.of rfl
   ·split
    ·exact qA (s1.setTh k {s1.th k with act:=none,kn:=0}) k _
    ·split
     ·exact qA {s1.setTh k {s1.th k with act:=none,kn:=0} with queue:=s1.queue.tail} k _
     ·split<;>exact dV.of rfl
 ·split at b
  ·rw[b];exact C3 s k
  ·rw[b];exact dV.of rfl
end
def gj(G:dx)(jl:List Int):Nat:=(jl.flatMap (jb G)).length
def pV(G:dx)(w0 wr:World)(d:Int)(pb:Nat)(most:Int)(nt:Nat)(n0:Nm)(Q:PS->Prop):Prop:=∃tag L s,jv G w0 wr d tag L s/\L.pb=pb/\L.most=most/\s.ths.length=nt/\s.T.rw n0≠none/\Q s
section
variable {G:dx}{w0 w w':World}{d:Int}{tag:Nat->Nat}{L:cP}{s s':PS}{jl:List Int}
theorem jv.bd(a:jv G w0 w d tag L s)(e:∀j,G j≠none->j∈jl)(f:gj G jl<=1000)(i:d<=1000000000):kP L s:=by
 have k:=a.r.inv.t.keys_le jl e;unfold gj at f;obtain⟨b,c⟩:=a.r.bd (by omega);have g:=a.r.inv.t.hist_le;refine⟨b,c,by have:=a.nn;omega,by have:=a.fn;omega,by have:=a.nm;omega,by rw[a.dn];omega,by have:=a.r.th;omega⟩
theorem jv.step{k o:Nat}(a:jv G w0 w d tag L s)(m:k<s.ths.length)(j:dO s k o s')(q:cV w w' tag L s s' 4):∃tag' e,jv G w0 w' (d+4) tag' e s'/\e.pb=L.pb/\e.most=L.most:=by
 obtain⟨tag',e,p,l,c⟩:=q;have g:=rg j;obtain⟨x,u,v⟩:=c.dn;refine⟨tag',e,⟨p,a.r.step m j,λn=>by rw[g.known];exact a.known n,λn=>by rw[g.away];exact a.away n,λt=>by rw[g.outs];exact a.outs t,Db a.ord a.r.inv a.known a.away a.outs m j,a.U.trans' l.only (λb i=>.inr (a.new b i)),λb i=>?_,?_,?_,?_,by rw[v,a.dn,u]⟩,c.pb,c.mz⟩
 ·rcases l.new b i with f|f
  ·exact a.new b f
  ·exact lT a.U.size f
 ·have:=c.nn;have:=a.nn;omega
 ·have:=c.fn;have:=a.fn;omega
 ·have:=c.nm;have:=a.nm;omega
theorem jv.pstep(a:jv G w0 w d tag L s)(m:gL G)(e:∀j,G j≠none->j∈jl)(z:gj G jl<=1000)(n:d<=1000000000)(v:(gj G jl:Int)<=L.most)(y:L.most<=1000000){k:Nat}(q:k<s.ths.length)(c:Nat)(o:c<4294967296):
 Calls Tryz.prog 17 #[ptr L.pb,.int .i64 (k:Int),.int .u32 (c:Int)] w λf w'=>∃b s',f=.returned (.tuple #[.bool b,.int .i64 0])/\dO s k c s'/\cV w w' tag L s s' 4:=
 Bg a.h a.r.inv m (a.bd e z n) q c o a.known a.away y (λA p x u g i l=>by
  have:=a.r.inv.t.room jl e g i l;unfold gj at v;omega)
theorem jv.at_(a:jv G w0 w d tag L s)(b:ac w w'):jv G w0 w' d tag L s:=⟨a.h.U b,a.r,a.known,a.away,a.outs,a.ord,a.U.trans b,a.new,a.nn,a.fn,a.nm,a.dn⟩
theorem jv.le{b:Int}(a:jv G w0 w d tag L s)(c:d<=b):jv G w0 w b tag L s:=⟨a.h,a.r,a.known,a.away,a.outs,a.ord,a.U,a.new,by have:=a.nn;omega,by have:=a.fn;omega,by have:=a.nm;omega,a.dn⟩
theorem tJ(b:cA G s.T)(c:cA G s'.T)(e:dV s s'){n:Nm}(f:s.T.rw n≠none):s'.T.rw n≠none:=by
 obtain⟨x,a⟩:=e;exact(c.ks n).1 (by rw[a];exact List.mem_append_left _ ((b.ks n).2 f))
theorem B6{d:Int}{k b a:Nat}(f:d<=900000000)(g:k<=a)(e:a<=200800)(c:b<=8):d+32*(k:Int)+4*(b:Int)<=1000000000:=by omega
theorem tr{d:Int}{k a:Nat}(c:k<=a)(b:a<=200800):d+32*(k:Int)<=d+8000000:=by omega
theorem B7{d:Int}{k a:Nat}:d+32*(k:Int)+4*((a+1:Nat):Int)=d+32*(k:Int)+4*(a:Int)+4:=by omega
theorem B9{d:Int}{k a:Nat}(b:a<=8):d+32*(k:Int)+4*(a:Int)<=d+32*((k+1:Nat):Int):=by omega
theorem Ca{a b n k:Int}(c:a+1<=b)(e:b<=n-k):a<=n-(k+1):=by omega
theorem ts{k a:Nat}(b:k<a)(c:a<=200800):k<4294967296:=by omega
theorem tu{a b:Nat}(c:a=200*(b+4))(e:b<=1000):a<=200800:=by omega
theorem DN{k a:Nat}(b:k<a)(c:a<=200800):wrap64 ((k:Int)+1)=(k:Int)+1:=by unfold wrap64;omega
theorem DL{a:Int}{b:Nat}(c:a=(b:Int))(e:b<=1000):wrap64 (a+4)=a+4:=by unfold wrap64;omega
theorem DM{c:Int}{a b:Nat}(e:c=(a:Int))(f:a<=1000)(g:b=200*(a+4)):wrap64 (200*(c+4))=(b:Int):=by unfold wrap64;omega
theorem Dj{i:Nat}(a:i<4294967296):IntKind.u32.wrap (i:Int)=(i:Int):=by
 simp[IntKind.wrap,IntKind.bits,IntKind.signed];omega
attribute [local simp] ew fe fD cL dP Region.binds dD dN Is ao Act.put
theorem qH(z:jv G w0 w d tag L s)(Z:gL G)(B:∀j,G j≠none->j∈jl)(Q:gj G jl<=1000)(N:(gj G jl:Int)<=L.most)(P:L.most<=1000000){n0:Nm}(C:s.T.rw n0≠none)(R:0<s.ths.length)(V:Nat)(D:V<=1000)(a1:pot 10 (gj G jl) s<=200*((V:Int)+4))(a0:d<=900000000):
 Calls Tryz.prog 18 #[ptr L.pb,.int .i64 (s.ths.length:Int),.int .i64 (V:Int)] w λn w'=>n=.returned (.bool true)/\pV G w0 w' (d+8000000) L.pb L.most s.ths.length n0 PS.idle:=by
 obtain⟨f,a9⟩:=eX (200*(V+4):Nat);obtain⟨m,u⟩:=eX s.ths.length;obtain⟨a5,x⟩:=eX L.pb;obtain⟨a3,v⟩:=eX L.most;obtain⟨E,a2⟩ :∃t:Int,t=(V:Int):=⟨_,rfl⟩
 have b2:wrap64 (E+4)=E+4:=DL a2 D;have Y:wrap64 (200*(E+4))=(f:Int):=DM a2 D a9;have ch:IntKind.i64.wrap (E+4)=E+4:=(aR _).trans b2;have ci:IntKind.i64.wrap (200*(E+4))=(f:Int):=(aR _).trans Y;have am:m<=8:=by rw[u];exact z.r.th
 have b3:pV G w0 w (d+32*((0:Nat):Int)) a5 a3 m n0 (λs=>pot 10 (gj G jl) s<=(f:Int)-((0:Nat):Int)):=⟨tag,L,s,by rw[show d+32*((0:Nat):Int)=d by omega];exact z,x.symm,v.symm,u.symm,C,by omega⟩
 have bv:=hD b3;rw[<-x,<-v,<-u,<-a2];rw[<-v] at N P;rw[<-u] at R;have l:=hD (aI Z (aI B (aI Q (aI N (aI P (aI a0 (aI R (aI a9 D))))))));unfold ptr;clear z Z B Q N P C R D a1 a0 a9 u x v a2 b3;go_enter Tryz.func18,Tryz.ntmps18;go_wp2_with fail
 go_loopw [7] (λi wr=>∃k:Nat,k<=f/\i=.int .i64 k/\pV G w0 wr (d+32*(k:Int)) a5 a3 m n0 (λs=>pot 10 (gj G jl) s<=(f:Int)-(k:Int))) (λi _=>f-(intOf i).toNat)
 case atStart=>exact⟨0,yx _,rfl,bv.O⟩
 case round=>
  obtain⟨k,ab,rfl,tag,L,s,A,x,v,u,C,a1⟩:=hrel;obtain⟨Z,B,Q,N,P,a0,R,c4,D⟩:=l.O;have bf:s.T.ks.length<=1000:=lT (A.r.inv.t.keys_le jl B) Q;have ba:(s.T.ks.length:Int)<=(gj G jl:Int):=Int.ofNat_le.2 (A.r.inv.t.keys_le jl B);have W:=hD (sf A.h A.r.inv C bf);unfold ptr at W;rw[x] at W;have F:=hD A;have b0:=hD a1;have g:=hD (aI x (aI v (aI u C)));have bt:=hD ba;clear A a1 x v u C Z B Q N P a0 R c4 D bf ba
  by_cases o:k<f
  ·have ck:(0:Int)<=(k:Int):=dB k
   have c6:(k:Int)<(f:Int):=cy o;have p:f<=200800:=tu l.O.2.2.2.2.2.2.2.1 l.O.2.2.2.2.2.2.2.2;have ar:wrap64 ((k:Int)+1)=(k:Int)+1:=DN o p;have av:IntKind.i64.wrap ((k:Int)+1)=(k:Int)+1:=(aR _).trans ar;have cn:=Dj (i:=k) (ts o p);go_wp2_with fail;refine W.O.mono ?_;rintro n b1 ⟨b,rfl,K,S⟩;have X:=hD S;have a7:=hD K;clear S K
   cases b
   ·have al:¬s.idle:=λn=>by have:=a7.O.2 n;cases this
    have cf:=hD al;obtain⟨a4,an⟩:=eX (pot 10 (gj G jl) s);have b4:pV G w0 b1 (d+32*(k:Int)+4*((0:Nat):Int)) a5 a3 m n0 (λs'=>mv 10 (gj G jl) a4 s' 0):=⟨tag,L,s,by rw[show d+32*(k:Int)+4*((0:Nat):Int)=d+32*(k:Int) by omega];exact F.O.at_ X.O,g.O.1,g.O.2.1,g.O.2.2.1,g.O.2.2.2,by rw[an];exact mv.start F.O.r.inv (by rw[g.O.2.2.1];exact l.O.2.2.2.2.2.2.1) al⟩
    have bx:=hD b4;have c1:Hd (a4<=(f:Int)-(k:Int)):=hD (by rw[an];exact b0.O);clear al b4 an;go_wp2_with fail
    go_loopw [8] (λi wr=>∃a:Nat,a<=m/\i=.int .i64 a/\pV G w0 wr (d+32*(k:Int)+4*(a:Int)) a5 a3 m n0 (λs'=>mv 10 (gj G jl) a4 s' a)) (λi _=>m-(intOf i).toNat)
    case atStart=>exact⟨0,yx _,rfl,bx.O⟩
    case round=>
     obtain⟨a,b9,rfl,cd,c2,a6,b5,bo,bk,bn,bm,b6⟩:=hrel;have H:=hD b5;have e:=hD (aI bo (aI bk (aI bn (aI bm b6))));clear b5 bo bk bn bm b6
     by_cases q:a<m
     ·have cm:(0:Int)<=(a:Int):=dB a
      have c7:(a:Int)<(m:Int):=cy q;have av:wrap64 ((a:Int)+1)=(a:Int)+1:=cG q (lT am (by decide));have ad:a<a6.ths.length:=by rw[e.O.2.2.1];exact q
      have a8:=hD (H.O.pstep l.O.1 l.O.2.1 l.O.2.2.1 (B6 l.O.2.2.2.2.2.1 ab p (lT b9 am)) (by rw[e.O.2.1];exact l.O.2.2.2.1) (by rw[e.O.2.1];exact l.O.2.2.2.2.1) ad k (ts o p));rw[e.O.1] at a8;unfold ptr at a8;have az:=hD ad;clear ad
      go_wp2_with (first
       |(go_at_call 17;refine a8.O.mono ?_;rintro n cg ⟨bs,cb,rfl,bp,bq⟩;have y:=hD (aI bp bq);clear bp bq)
       |fail)
      go_roundw
      case measure=>first|exact au rfl q|exact au av q
      case rel=>
       obtain⟨ce,c3,br,c8,c9⟩:=H.O.step az.O y.O.1 y.O.2;refine⟨a+1,q,by first|exact cK a|exact cH av,ce,c3,cb,by rw[B7];exact br,c8.trans e.O.1,c9.trans e.O.2.1,(nE y.O.1).trans e.O.2.2.1,tJ H.O.r.inv.t br.r.inv.t (pS y.O.1) e.O.2.2.2.1,?_⟩;exact e.O.2.2.2.2.step (H.O.r.inv.step_dec (by decide) az.O y.O.1) (nE y.O.1)
     ·have c7:¬(a:Int)<(m:Int):=λn=>q (yB.1 n)
      have ai:a=m:=yT b9 (yA q)
      have b7:pot 10 (gj G jl) a6+1<=a4:=by
       have:=e.O.2.2.2.2;rw[ai,<-e.O.2.2.1] at this;exact this.end_
      have bz:=hD b7;have c0:=hD ai;clear b7 ai;go_wp2_with fail;go_roundw
      case measure=>first|exact au rfl o|exact au ar o
      case rel=>
       refine⟨k+1,o,by first|exact cK k|exact cH ar,cd,c2,a6,H.O.le ?_,e.O.1,e.O.2.1,e.O.2.2.1,e.O.2.2.2.1,?_⟩
       ·rw[c0.O]
        exact B9 am
       ·have:=bz.O
        have Y:=c1.O;show pot 10 (gj G jl) a6<=(f:Int)-((k+1:Nat):Int);rw[Int.natCast_add];exact Ca this Y
   ·go_wp2_with fail
    go_ret;refine⟨rfl,tag,L,s,(F.O.at_ X.O).le ?_,g.O.1,g.O.2.1,g.O.2.2.1,g.O.2.2.2,by first|exact a7.O.1 rfl|exact a7.O.1 trivial⟩;exact tr ab p
  ·have c6:¬(k:Int)<(f:Int):=λn=>o (yB.1 n)
   have bb:k=f:=yT ab (yA o)
   have b8:s.idle:=by
    by_cases z:s.idle
    ·exact z
    ·have b2:=(F.O.r.inv.pot_pos (c:=10) (by decide) bt.O).2 z
     have Y:=b0.O;omega
   have aw:=hD b8;have p:f<=200800:=tu l.O.2.2.2.2.2.2.2.1 l.O.2.2.2.2.2.2.2.2;have aE:=hD (aI bb p);clear bb b8 p;go_wp2_with fail;refine W.O.mono ?_;rintro n b1 ⟨b,rfl,K,S⟩;have c5:b=true:=K.2 aw.O;subst c5;have X:=hD S;clear S K;go_wp2_with fail;go_ret;refine⟨rfl,tag,L,s,(F.O.at_ X.O).le ?_,g.O.1,g.O.2.1,g.O.2.2.1,g.O.2.2.2,aw.O⟩;exact tr (zl aE.O.1) aE.O.2
end
end
section
open Go.RowKit Go.Maps
theorem vi{p:List ah}{x:aj}(b:lH p)(c:bW p x):gL (kg 1 p x):=by
 intro j q y a;obtain⟨rfl,rfl,rfl⟩:=oq a;exact⟨b,c,by decide⟩
theorem vh{p:List ah}{x:aj}:∀j,kg 1 p x j≠none->j∈[(1:Int)]:=λj a=>by rw[mq a];simp
theorem tS(p:List ah)(x:aj):gj (kg 1 p x) [1] =(aK p x).length:=by
 unfold gj;simp[jb,kg]
theorem Ef(p:List ah)(x:aj):(aK p x).length<=x.fuel+1:=sa p _ _ (lR)
theorem Bd(p:List ah)(x:aj):1<=(aK p x).length:=by rw[fG];simp
theorem un{f B:Nat}{a:Int}(b:a<=10+51+(f:Int)+(2*10+60)*((B:Int)-1))(g:f<=400)(e:B<=401)(c:1<=B):a<=200*((B:Int)+4):=by omega
end
end Go.Proofs.YtmdocplknceilaaGreat
